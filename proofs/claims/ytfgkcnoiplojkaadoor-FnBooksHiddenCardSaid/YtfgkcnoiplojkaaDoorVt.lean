/- The value interpreter: on what it depends what an operation does. -/
import Derived.Test.YtfgkcnoiplojkaaDoorVs
namespace Go.Proofs.YtfgkcnoiplojkaaDoor.VI
open Go

theorem bindO_congr {α β : Type} {o : Option α} {f g : α → M β} (h : ∀ a, o = some a → f a = g a) : M.bind (.ofO o) f = M.bind (.ofO o) g := by
  cases o with
  | none => rfl
  | some a => exact h a rfl

section
variable {E : Env} {T T' : Nat → Option CV} {B B' : Nat → Option BX}

/-- The operand, and the boxes to which it leads, are the same. -/
def Same (T T' : Nat → Option CV) (B B' : Nat → Option BX) (x : Operand) : Prop :=
  opv T' x = opv T x ∧ ∀ v, opv T x = some v → ∀ b ∈ v.leads, B' b = B b

theorem Same.opc {x : Operand} (h : Same T T' B B' x) : opc T' x = opc T x := by unfold VI.opc; rw [h.1]
theorem Same.opI {x : Operand} (h : Same T T' B B' x) : opI T' x = opI T x := by unfold VI.opI; rw [h.opc]
theorem Same.opB {x : Operand} (h : Same T T' B B' x) : opB T' x = opB T x := by unfold VI.opB; rw [h.opc]

theorem opc_opv {x : Operand} {c : Cell} (h : opc T x = some c) : opv T x = some (.s (.c c)) := by
  simp only [VI.opc, Option.bind_eq_some_iff] at h
  obtain ⟨v, hv, h⟩ := h
  split at h
  · obtain rfl := Option.some.inj h; exact hv
  · cases h

theorem Same.cell {x : Operand} (h : Same T T' B B' x) {c : Cell} (hc : VI.opc T x = some c) : ∀ b ∈ c.leads, B' b = B b := h.2 _ (opc_opv hc)

theorem rowOf_same {want : Option Ty} {c : Cell} (h : ∀ b ∈ c.leads, B' b = B b) : rowOf B' want c = rowOf B want c := by
  cases c with
  | own b => simp only [rowOf]; rw [h b (by simp [Cell.leads])]
  | view b off n => simp only [rowOf]; rw [h b (by simp [Cell.leads])]
  | v x => unfold rowOf; split <;> first | rfl | (rename_i hh; cases hh) | simp_all
  | row ty xs => rfl
  | ptr b off => rfl
  | fn f caps => rfl

theorem rowOf_box {want : Option Ty} {c : Cell} {p : (Σ ty : Ty, List ty.den) × Option Nat} (h : rowOf B want c = some p) : ∀ b, p.2 = some b → b ∈ c.leads := by
  intro b hb
  unfold rowOf at h
  split at h
  · cases h; cases hb
  · simp only [Option.bind_eq_some_iff] at h
    obtain ⟨x, hx, h⟩ := h
    split at h
    · obtain rfl := Option.some.inj h
      rename_i ro ty xs
      cases ro <;> simp at hb
      simp [Cell.leads, hb]
    · cases h
  · simp only [Option.bind_eq_some_iff] at h
    obtain ⟨x, hx, h⟩ := h
    split at h
    · obtain rfl := Option.some.inj h
      rename_i ro ty xs
      cases ro <;> simp at hb
      simp [Cell.leads, hb]
    · cases h
  · simp only [Option.map_eq_some_iff] at h
    obtain ⟨ty, _, rfl⟩ := h
    cases hb
  · cases h

theorem froze_same {b : Nat} (h : B' b = B b) : froze B' (some b) = froze B (some b) := by simp only [froze]; rw [h]

theorem frozeO_same {b : Option Nat} (h : ∀ c, b = some c → B' c = B c) : froze B' b = froze B b := by
  cases b with
  | none => rfl
  | some b => exact froze_same (h b rfl)

theorem omap_congr {α β : Type} {o : Option α} {f g : α → β} (h : ∀ a, o = some a → f a = g a) : o.map f = o.map g := by
  cases o with
  | none => rfl
  | some a => simp [h a rfl]

theorem obind_congr {α β : Type} {o : Option α} {f g : α → Option β} (h : ∀ a, o = some a → f a = g a) : o.bind f = o.bind g := by
  cases o with
  | none => rfl
  | some a => exact h a rfl

theorem still_same {c : Cell} (h : ∀ b ∈ c.leads, B' b = B b) : still B' c = still B c := by
  unfold still
  rw [rowOf_same h]
  split
  · rfl
  · rfl
  · exact omap_congr fun p hp => by rw [frozeO_same fun b hb => h b (rowOf_box hp b hb)]
  · exact omap_congr fun p hp => by rw [frozeO_same fun b hb => h b (rowOf_box hp b hb)]
  · rfl

theorem stills_same : ∀ {cs : List Cell}, (∀ b ∈ leadsAll cs, B' b = B b) → stills B' cs = stills B cs
  | [], _ => rfl
  | c :: r, h => by
    simp only [stills]
    rw [still_same fun b hb => h b (by simp [leadsAll, hb]), stills_same (cs := r) fun b hb => h b (by simp [leadsAll, hb])]

theorem loadC_same {td : TD} {v : CV} (h : ∀ b ∈ v.leads, B' b = B b) : loadC B' td v = loadC B td v := by
  unfold loadC
  split
  · rename_i b off; rw [h b (by simp [CV.leads, SV.leads, Cell.leads])]
  · rfl
  · rename_i b i off; rw [h b (by simp [CV.leads])]
  · rfl

theorem storeC_same {td : TD} {p : CV} {new : List Cell} (h : ∀ b ∈ p.leads, B' b = B b) (hn : ∀ b ∈ leadsAll new, B' b = B b) : storeC B' td p new = storeC B td p new := by
  unfold storeC
  rw [stills_same hn]
  congr 1
  split
  · rename_i b off; rw [h b (by simp [CV.leads, SV.leads, Cell.leads])]
  · rename_i b i off; rw [h b (by simp [CV.leads])]
  · rfl

theorem indexAddrC_same {t : TypeId} {x : Operand} {i : Int} (h : Same T T' B B' x) : indexAddrC E T' B' t x i = indexAddrC E T B t x i := by
  unfold indexAddrC
  rw [h.opc]
  refine bindO_congr fun d _ => ?_
  split
  · refine bindO_congr fun c hc => ?_
    have hl := h.cell hc
    split
    · rfl
    · rename_i b; rw [hl b (by simp [Cell.leads])]
    · rename_i b off n; rw [hl b (by simp [Cell.leads])]
    · rfl
  · refine bindO_congr fun c hc => ?_
    have hl := h.cell hc
    split
    · rename_i b; rw [hl b (by simp [Cell.leads])]
    · rfl
  · rfl

theorem fieldAddrC_same {t : TypeId} {f : Nat} {v : CV} (h : ∀ b ∈ v.leads, B' b = B b) : fieldAddrC E B' t f v = fieldAddrC E B t f v := by
  unfold fieldAddrC
  split
  · rename_i b off; rw [h b (by simp [CV.leads, SV.leads, Cell.leads])]
  · rfl
  · rfl
  · rfl

theorem optI_same {x : Option Operand} {d : Int} (h : ∀ y, x = some y → opI T' y = opI T y) : optI T' x d = optI T x d := by
  cases x with
  | none => rfl
  | some y => simp only [optI]; rw [h y rfl]

theorem cutC_same {n m : Nat} {lo hi : Option Operand} {f : Nat → Nat → Cell} (hl : ∀ y, lo = some y → opI T' y = opI T y) (hh : ∀ y, hi = some y → opI T' y = opI T y) : cutC T' n m lo hi f = cutC T n m lo hi f := by
  unfold cutC
  rw [optI_same hl, optI_same hh]

theorem sliceC_same {ty0 : Option Ty} {c : Cell} {lo hi : Option Operand} (h : ∀ b ∈ c.leads, B' b = B b) (hl : ∀ y, lo = some y → opI T' y = opI T y) (hh : ∀ y, hi = some y → opI T' y = opI T y) : sliceC T' B' ty0 c lo hi = sliceC T B ty0 c lo hi := by
  unfold sliceC
  split
  · rw [cutC_same hl hh]
  · rw [cutC_same hl hh]
  · rename_i b _
    rw [h b (by simp [Cell.leads])]
    split
    · rw [cutC_same hl hh]
    · rfl
  · rename_i b off n _
    rw [h b (by simp [Cell.leads])]
    split
    · rw [cutC_same hl hh]
    · rfl
  · rfl

theorem slice3C_same {ty0 : Ty} {c : Cell} {lo hi : Option Operand} {m : Int} (h : ∀ b ∈ c.leads, B' b = B b) (hl : ∀ y, lo = some y → opI T' y = opI T y) (hh : ∀ y, hi = some y → opI T' y = opI T y) : slice3C T' B' ty0 c lo hi m = slice3C T B ty0 c lo hi m := by
  unfold slice3C
  split
  · rename_i b
    rw [h b (by simp [Cell.leads])]
    split
    · rw [cutC_same hl hh]
    · rfl
  · rename_i b off n
    rw [h b (by simp [Cell.leads])]
    split
    · rw [cutC_same hl hh]
    · rfl
  · rfl

theorem lenC_same {t : TypeId} {x : Operand} (h : Same T T' B B' x) : lenC E T' B' t x = lenC E T B t x := by
  unfold lenC
  rw [h.opc]
  refine obind_congr fun d _ => ?_
  split
  · rfl
  · refine obind_congr fun c hc => ?_
    have hl := h.cell hc
    split
    · rfl
    · rename_i b; rw [hl b (by simp [Cell.leads])]
    · rename_i b off n; rw [hl b (by simp [Cell.leads])]
    · rfl
    · rfl
  · rfl

theorem appended_same {ty : Ty} {u : TypeId} {c : Cell} (h : ∀ b ∈ c.leads, B' b = B b) : appended E B' ty u c = appended E B ty u c := by
  unfold appended
  refine obind_congr fun d _ => ?_
  split
  · rfl
  · rw [rowOf_same h]
  · rfl

theorem appendC_same {k : Nat} {args : List (Operand × TypeId)} (h : ∀ p ∈ args, Same T T' B B' p.1) : appendC E T' B' k args = appendC E T B k args := by
  unfold appendC
  split
  · rename_i x t y u
    have hx := h (x, t) (by simp)
    have hy := h (y, u) (by simp)
    dsimp only at hx hy
    refine bindO_congr fun d _ => ?_
    split
    · rename_i eb ez ty _
      rw [hx.opc, hy.opc]
      refine bindO_congr fun cx hcx => ?_
      rw [obind_congr (f := appended E B' ty u) (g := appended E B ty u) fun c hc => appended_same (hy.cell hc)]
      refine bindO_congr fun ys _ => ?_
      have hl := hx.cell hcx
      split
      · rfl
      · rename_i b; rw [hl b (by simp [Cell.leads])]
      · rename_i b off n; rw [hl b (by simp [Cell.leads])]
      · rfl
    · rfl
  · rfl

theorem clearC_same {args : List (Operand × TypeId)} (h : ∀ p ∈ args, Same T T' B B' p.1) : clearC E T' B' args = clearC E T B args := by
  unfold clearC
  split
  · rename_i x t
    have hx := h (x, t) (by simp)
    dsimp only at hx
    refine bindO_congr fun d _ => ?_
    split
    · rw [hx.opc]
      refine bindO_congr fun c hc => ?_
      have hl := hx.cell hc
      split
      · rename_i b off n; rw [hl b (by simp [Cell.leads])]
      · rfl
    · rfl
  · rfl

theorem builtinC_same {k : Nat} {b : Builtin} {args : List (Operand × TypeId)} (h : ∀ p ∈ args, Same T T' B B' p.1) : builtinC E T' B' k b args = builtinC E T B k b args := by
  unfold builtinC
  split
  · exact appendC_same h
  · exact clearC_same h
  · split
    · rename_i x t; rw [lenC_same (h (x, t) (by simp))]
    · rfl
  · split
    · rename_i x t y u; rw [(h (x, t) (by simp)).opI, (h (y, u) (by simp)).opI]
    · rfl
  · split
    · rename_i x t y u; rw [(h (x, t) (by simp)).opI, (h (y, u) (by simp)).opI]
    · rfl
  · rfl

theorem convC_same {k : Nat} {src dst : TypeId} {x : Operand} (h : Same T T' B B' x) : convC E T' B' k src dst x = convC E T B k src dst x := by
  unfold convC
  rw [h.opI, h.opc]
  refine bindO_congr fun s _ => bindO_congr fun d _ => ?_
  split
  · rfl
  · rfl
  · rw [obind_congr fun c hc => by rw [rowOf_same (h.cell hc)]]
  · rfl

theorem partCells_same : ∀ {ps : List (Nat × Operand)}, (∀ p ∈ ps, opv T' p.2 = opv T p.2) → partCells T' ps = partCells T ps
  | [], _ => rfl
  | p :: r, h => by simp only [partCells]; rw [h p (by simp), partCells_same (ps := r) fun q hq => h q (by simp [hq])]

theorem cellsOf_leads {v : CV} {cs : List Cell} (h : cellsOf v = some cs) : ∀ b, b ∈ leadsAll cs → b ∈ v.leads := by
  intro b hb
  unfold cellsOf at h
  split at h
  · obtain rfl := Option.some.inj h
    simpa [leadsAll, CV.leads, SV.leads] using hb
  · obtain rfl := Option.some.inj h
    exact hb
  · cases h

theorem partCells_leads : ∀ {ps : List (Nat × Operand)} {q : List (Nat × List Cell)}, partCells T ps = some q → ∀ r ∈ q, ∃ p ∈ ps, ∃ v, opv T p.2 = some v ∧ ∀ b, b ∈ leadsAll r.2 → b ∈ v.leads
  | [], q, h => by cases h; simp
  | p :: ps, q, h => by
    simp only [partCells, Option.bind_eq_some_iff, Option.map_eq_some_iff] at h
    obtain ⟨v, hv, cs, hcs, q', hq', rfl⟩ := h
    intro r hr
    rcases List.mem_cons.1 hr with rfl | hr
    · exact ⟨p, by simp, v, hv, cellsOf_leads hcs⟩
    · obtain ⟨p', h1, h2⟩ := partCells_leads hq' r hr
      exact ⟨p', by simp [h1], h2⟩

theorem elemsC_same {ty : Ty} : ∀ {q : List (Nat × List Cell)} {i : Nat}, (∀ r ∈ q, ∀ b ∈ leadsAll r.2, B' b = B b) → elemsC B' ty i q = elemsC B ty i q
  | [], _, _ => rfl
  | p :: r, i, h => by
    simp only [elemsC]
    rw [stills_same (h p (by simp)), elemsC_same (q := r) (i := i + 1) fun x hx => h x (by simp [hx])]

theorem capsOf_same : ∀ {l : List Operand}, (∀ x ∈ l, Same T T' B B' x) → capsOf T' l = capsOf T l
  | [], _ => rfl
  | x :: r, h => by simp only [capsOf]; rw [(h x (by simp)).opc, capsOf_same (l := r) fun y hy => h y (by simp [hy])]

theorem argCell_same {io : Bool} {t : TypeId} {c : Cell} (h : ∀ b ∈ c.leads, B' b = B b) : argCell E B' io t c = argCell E B io t c := by
  unfold argCell
  split
  · rfl
  · rename_i b; rw [h b (by simp [Cell.leads])]
  · rename_i b off n; rw [h b (by simp [Cell.leads])]
  · rfl

theorem argCells_same {io : Bool} : ∀ {cs : List Cell}, (∀ b ∈ leadsAll cs, B' b = B b) → argCells E B' io cs = argCells E B io cs
  | [], _ => rfl
  | c :: r, h => by simp only [argCells]; rw [argCell_same fun b hb => h b (by simp [leadsAll, hb]), argCells_same (cs := r) fun b hb => h b (by simp [leadsAll, hb])]

theorem argV_same {io : Bool} {t : TypeId} {v : CV} (h : ∀ b ∈ v.leads, B' b = B b) : argV E B' io t v = argV E B io t v := by
  unfold argV
  split
  · rw [argCell_same h]
  · rw [argCells_same h]
  · rfl

theorem argVs_same {f : FuncId} : ∀ {args : List (Operand × TypeId)} {i : Nat}, (∀ p ∈ args, Same T T' B B' p.1) → argVs E T' B' f i args = argVs E T B f i args
  | [], _, _ => rfl
  | x :: r, i, h => by
    simp only [argVs]
    rw [(h x (by simp)).1, argVs_same (args := r) (i := i + 1) fun p hp => h p (by simp [hp])]
    exact obind_congr fun v hv => by rw [argV_same ((h x (by simp)).2 v hv)]

theorem argCell_sh {io : Bool} {t : TypeId} {c c' : Cell} {sh : List Nat} (h : argCell E B io t c = some (c', sh)) : ∀ b ∈ sh, b ∈ c.leads := by
  intro b hb
  unfold argCell at h
  split at h
  · split at h
    · obtain ⟨rfl, rfl⟩ := Prod.mk.inj (Option.some.inj h); cases hb
    · cases h
  · split at h
    · rename_i ro ty xs _
      cases io <;> cases ro <;> (obtain ⟨rfl, rfl⟩ := Prod.mk.inj (Option.some.inj h)) <;> simp at hb
      simp [Cell.leads, hb]
    · cases h
  · split at h
    · rename_i ro ty xs _
      cases ro <;> (obtain ⟨rfl, rfl⟩ := Prod.mk.inj (Option.some.inj h)) <;> simp at hb
      simp [Cell.leads, hb]
    · cases h
  · obtain ⟨rfl, rfl⟩ := Prod.mk.inj (Option.some.inj h); cases hb

theorem argCells_sh {io : Bool} : ∀ {cs cs' : List Cell} {sh : List Nat}, argCells E B io cs = some (cs', sh) → ∀ b ∈ sh, b ∈ leadsAll cs
  | [], _, _, h, b, hb => by cases h; cases hb
  | c :: r, cs', sh, h, b, hb => by
    simp only [argCells, Option.bind_eq_some_iff, Option.map_eq_some_iff] at h
    obtain ⟨p, hp, q, hq, h⟩ := h
    obtain ⟨rfl, rfl⟩ := Prod.mk.inj h
    simp only [leadsAll, List.mem_append]
    rcases List.mem_append.1 hb with hb | hb
    · exact .inl (argCell_sh hp b hb)
    · exact .inr (argCells_sh hq b hb)

theorem argVs_sh {f : FuncId} : ∀ {args : List (Operand × TypeId)} {i : Nat} {vs : List SV} {sh : List Nat}, argVs E T B f i args = some (vs, sh) → ∀ b ∈ sh, ∃ p ∈ args, ∃ v, opv T p.1 = some v ∧ b ∈ v.leads
  | [], _, _, _, h, b, hb => by cases h; cases hb
  | x :: r, i, vs, sh, h, b, hb => by
    simp only [argVs, Option.bind_eq_some_iff, Option.map_eq_some_iff] at h
    obtain ⟨v, hv, p, hp, q, hq, h⟩ := h
    obtain ⟨rfl, rfl⟩ := Prod.mk.inj h
    rcases List.mem_append.1 hb with hb | hb
    · refine ⟨x, by simp, v, hv, ?_⟩
      unfold argV at hp
      split at hp
      · simp only [Option.map_eq_some_iff] at hp
        obtain ⟨y, hy, rfl⟩ := hp
        exact argCell_sh hy b hb
      · simp only [Option.map_eq_some_iff] at hp
        obtain ⟨y, hy, rfl⟩ := hp
        exact argCells_sh hy b hb
      · cases hp
    · obtain ⟨p', h1, h2⟩ := argVs_sh hq b hb
      exact ⟨p', by simp [h1], h2⟩

theorem reach_acc : ∀ (n : Nat) (l acc : List Nat) (b : Nat), b ∈ acc → b ∈ reach B n l acc
  | 0, _, _, _, h => h
  | _ + 1, [], _, _, h => h
  | n + 1, c :: r, acc, b, h => by
    unfold reach
    cases has acc c with
    | true => exact reach_acc n r acc b h
    | false =>
      simp only [cond_false]
      split
      · exact reach_acc n _ _ b (by simp [h])
      · exact reach_acc n _ _ b (by simp [h])

theorem reach_same : ∀ (n : Nat) (l acc : List Nat), (∀ b ∈ reach B n l acc, B' b = B b) → reach B' n l acc = reach B n l acc
  | 0, _, _, _ => rfl
  | _ + 1, [], _, _ => rfl
  | n + 1, c :: r, acc, h => by
    unfold reach at h ⊢
    cases hc : has acc c with
    | true => rw [hc] at h; exact reach_same n r acc h
    | false =>
      rw [hc] at h
      simp only [cond_false] at h ⊢
      have hbc : B' c = B c := by
        apply h
        split
        · exact reach_acc n _ _ c (by simp)
        · exact reach_acc n _ _ c (by simp)
      rw [hbc]
      split
      · rename_i cs hcs
        rw [hcs] at h
        exact reach_same n _ _ h
      · rename_i hx
        refine reach_same n _ _ ?_
        split at h
        · rename_i cs hcs
          exact absurd hcs (hx cs)
        · exact h

theorem boxesAt_same {m : List Nat} : ∀ {l : List Nat}, (∀ b ∈ l, B' b = B b) → boxesAt B' m l = boxesAt B m l
  | [], _ => rfl
  | b :: r, h => by simp only [boxesAt]; rw [h b (by simp), boxesAt_same (l := r) fun c hc => h c (by simp [hc])]

theorem lends_same {roots : List Nat} {p : List Nat × List BX} (h : lends B roots = some p) (hB : ∀ b ∈ p.1, B' b = B b) : lends B' roots = some p := by
  have h0 := h
  unfold lends at h ⊢
  cases hh : hasAll (reach B 400 roots []) roots with
  | false => simp only [hh, cond_false] at h; cases h
  | true =>
    simp only [hh, cond_true, Option.map_eq_some_iff] at h
    obtain ⟨bs, h1, rfl⟩ := h
    dsimp only at hB
    rw [reach_same 400 roots [] hB]
    simp only [hh, cond_true]
    rw [boxesAt_same hB, h1]
    rfl

theorem frozeAll_same : ∀ {l : List Nat}, (∀ b ∈ l, B' b = B b) → frozeAll B' l = frozeAll B l
  | [], _ => rfl
  | b :: r, h => by simp only [frozeAll]; rw [froze_same (h b (by simp)), frozeAll_same (l := r) fun c hc => h c (by simp [hc])]

theorem callC_same {k : Nat} {f : FuncId} {caps : List Nat} {args : List (Operand × TypeId)} (h : ∀ p ∈ args, Same T T' B B' p.1)
    (hl : ∀ a, argVs E T B f 0 args = some a → ∀ p, lends B (leadsSVs (a.1 ++ caps.map fun b => SV.c (.ptr b 0))) = some p → ∀ b ∈ p.1, B' b = B b) {e : Eff} (he : (callC E T B k f caps args).opt = some e) :
    (callC E T' B' k f caps args).opt = some e := by
  rw [← he]
  unfold callC at he ⊢
  rw [argVs_same h]
  congr 1
  refine bindO_congr fun a ha => ?_
  replace he := bind_ofO he
  obtain ⟨a', ha', he⟩ := he
  rw [ha] at ha'
  obtain rfl := Option.some.inj ha'
  dsimp only at he ⊢
  replace he := bind_ofO he
  obtain ⟨p, hp, he⟩ := he
  rw [lends_same hp (hl a ha p hp), hp]
  refine bindO_congr fun q hq => ?_
  obtain rfl := Option.some.inj hq
  rw [frozeAll_same (B := B) (B' := B') (l := a.2) fun b hb => ?_]
  obtain ⟨x, h1, v, h2, h3⟩ := argVs_sh (T := T) (B := B) ha b hb
  exact (h x h1).2 v h2 b h3
end
end Go.Proofs.YtfgkcnoiplojkaaDoor.VI
