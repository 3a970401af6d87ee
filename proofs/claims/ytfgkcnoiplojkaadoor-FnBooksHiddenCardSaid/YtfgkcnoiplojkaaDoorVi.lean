/- The value interpreter: the operations that read memory or make addresses. -/
import Derived.Test.YtfgkcnoiplojkaaDoorVh
namespace Go.Proofs.YtfgkcnoiplojkaaDoor.VI
open Go

theorem choose_list {α : Type} {Q : α → Value → Prop} : ∀ (l : List α) (R : Nat → Value → Prop), (∀ j c, l[j]? = some c → ∃ v, Q c v ∧ R j v) → ∃ vs, All2 Q l vs ∧ ∀ (j : Nat) (v : Value), vs[j]? = some v → R j v
  | [], _, _ => ⟨[], .nil, fun j v h => by simp at h⟩
  | c :: l, R, h => by
    obtain ⟨v, hv, hr⟩ := h 0 c rfl
    obtain ⟨vs, h1, h2⟩ := choose_list l (fun j => R (j + 1)) fun j c hj => h (j + 1) c (by simpa using hj)
    refine ⟨v :: vs, .cons hv h1, fun j u hj => ?_⟩
    cases j with
    | zero => simp at hj; subst hj; exact hr
    | succ j => exact h2 j u (by simpa using hj)

section
variable {P : Program} {E : Env} {w : World} {Pr : Addr → Prop} {B : Nat → Option BX} {β : Nat → Option Nat} {T : Nat → Option CV} {ρ : Operand → Value}

theorem pick_sound {t : TypeId} {td : TD} (ht : TDok P t td) {cs : List Cell} {off : Nat} {a : Addr} {cv : CV} (h : ∀ j c, cs[off + j]? = some c → ∃ v, CellR w Pr B β c v ∧ w.cell? (a.add j) = some v)
    (e : pickCells td cs off = some cv) : ∃ v, (loadVar t a).run P w = .ok v w ∧ CVR w Pr B β cv v := by
  obtain ⟨i, d, hi, hd, hs, ha, _⟩ := ht.out
  unfold pickCells at e
  cases hagg : td.agg with
  | true =>
    rw [hagg] at e
    simp only [cond_true] at e
    cases hle : Nat.ble (off + td.size) cs.length with
    | false => rw [hle] at e; cases e
    | true =>
      rw [hle] at e
      simp only [cond_true, Option.some.injEq] at e
      subst e
      have hle' := Nat.le_of_ble_eq_true hle
      obtain ⟨vs, h1, h2⟩ := choose_list ((cs.drop off).take td.size) (fun j v => w.cell? (a.add j) = some v) (fun j c hj => by
        have hj' : cs[off + j]? = some c := by
          rw [List.getElem?_take] at hj
          split at hj
          · simpa [List.getElem?_drop] using hj
          · cases hj
        exact h j c hj')
      have hlen : td.size = vs.length := by rw [← h1.length]; simp; omega
      refine ⟨.agg vs.toArray, run_loadVar_agg hd hi (ha.trans hagg) (hs.trans hlen) h2, vs, rfl, h1⟩
  | false =>
    rw [hagg] at e
    simp only [cond_false] at e
    cases h1 : Nat.beq td.size 1 with
    | false => rw [h1] at e; cases e
    | true =>
      rw [h1] at e
      simp only [cond_true, Option.map_eq_some_iff] at e
      obtain ⟨c, hc, rfl⟩ := e
      obtain ⟨v, hv, hcell⟩ := h 0 c (by simpa using hc)
      rw [add_zero] at hcell
      exact ⟨v, run_loadVar_one hd (ha.trans hagg) hcell, hv⟩

theorem cell_blk {g : Nat} {vs : Array Value} {T' : TypeId} (h : w.heap[g]? = some (.cells vs T' (0, 0))) (off : Nat) : w.cell? ⟨g, off, none⟩ = vs[off]? := by
  unfold World.cell?; rw [h]; simp

theorem load_sound (C : Ctx P E w Pr B β T ρ) {t : TypeId} {td : TD} (ht : E.tt t = some td) {x : CV} {y : Value} {cv : CV} (hx : CVR w Pr B β x y) (e : (loadC B td x).opt = some cv) :
    ∃ v, (Instr.loadAt t y).run P w = .ok v w ∧ CVR w Pr B β cv v := by
  unfold loadC at e
  split at e
  · rename_i b off
    split at e
    · rename_i cs hb
      rw [M.opt_ofO] at e
      obtain ⟨g, bx, rfl, hb', hβ⟩ := hx
      rw [hb] at hb'; obtain rfl := Option.some.inj hb'
      obtain ⟨g', vs, T', hg, hh, hc, _⟩ := C.mem.box b _ hb
      have := hβ (by simp)
      rw [this] at hg; obtain rfl := Option.some.inj hg
      obtain ⟨v, hr, hv⟩ := pick_sound (C.tt t td ht) (a := ⟨g, off, none⟩) (fun j c hj => by
        obtain ⟨u, hu, hr⟩ := hc.get (off + j) c hj
        refine ⟨u, hr, ?_⟩
        rw [add_plain, cell_blk hh]
        simpa using hu) e
      exact ⟨v, by simpa [Instr.loadAt, Instr.sureAddr, Result.andThen] using hr, hv⟩
    · cases e
  · rename_i cs off
    rw [M.opt_ofO] at e
    obtain ⟨a, rfl, h⟩ := hx
    obtain ⟨v, hr, hv⟩ := pick_sound (C.tt t td ht) (a := a) (fun j c hj => by
      obtain ⟨u, hu, hc, _⟩ := h j c hj
      exact ⟨u, hu, hc⟩) e
    exact ⟨v, by simpa [Instr.loadAt, Instr.sureAddr, Result.andThen] using hr, hv⟩
  · rename_i b i off
    split at e
    · rename_i ro ty xs hb
      rw [M.opt_bind, M.opt_ofO] at e
      simp only [Option.bind_eq_some_iff, M.opt_ofO] at e
      obtain ⟨x, hx', e⟩ := e
      obtain ⟨a, bx, rfl, hb', ha⟩ := hx
      rw [hb] at hb'; obtain rfl := Option.some.inj hb'
      obtain ⟨g, hg, rfl⟩ := ha _ _ _ rfl
      have hbox := C.mem.box b _ hb
      unfold BXR at hbox
      rw [hg] at hbox
      obtain ⟨vs, T', hh, harr, _⟩ := hbox
      obtain ⟨es, he1, he2⟩ := harr i x hx'
      have hcs := toCells_sound (B := B) (β := β) ty x es he1
      obtain ⟨v, hr, hv⟩ := pick_sound (C.tt t td ht) (a := ⟨g, i * ty.size + off, none⟩) (fun j c hj => by
        obtain ⟨u, hu, hr⟩ := hcs.get (off + j) c hj
        refine ⟨u, hr, ?_⟩
        rw [add_plain, cell_blk hh, Nat.add_assoc]
        exact he2 _ _ hu) e
      exact ⟨v, by simpa [Instr.loadAt, Instr.sureAddr, Result.andThen] using hr, hv⟩
    · cases e
  · cases e

theorem fieldOff_sound {t : TypeId} {f : Nat} {p : Nat × Nat × Bool} (htt : ∀ t td, E.tt t = some td → TDok P t td) (h : fieldOff E t f = some p) :
    ∃ fields fd i dd, P.underlying t = some (.struct fields) ∧ fields[f]? = some fd ∧ fd.offset = p.1 ∧ P.info? fd.type = some i ∧ i.size = p.2.1 ∧ i.size ≠ 0 ∧ P.underlying fd.type = some dd ∧ isAggD dd = p.2.2 := by
  simp only [fieldOff, Option.bind_eq_some_iff] at h
  obtain ⟨td, ht, h⟩ := h
  obtain ⟨i, d, hi, hd, hs, ha, _, hk⟩ := (htt t td ht).out
  split at h
  · rename_i fs hkind
    rw [hkind] at hk
    obtain ⟨fields, rfl, _, hf⟩ := hk
    obtain ⟨fd, i', dd, h1, h2, h3, h4, h5, h6, h7⟩ := hf f p h
    exact ⟨fields, fd, i', dd, hd, h1, h2, h3, h4, h5, h6, h7⟩
  · cases h

theorem run_fieldAt {t : TypeId} {f : Nat} {fields : Array Field} {fd : Field} {i : TypeInfo} {a : Addr} (hu : P.underlying t = some (.struct fields)) (hf : fields[f]? = some fd) (hi : P.info? fd.type = some i) (hz : i.size ≠ 0) :
    (Instr.fieldAt t (.pointer (some a)) f).run P w = .ok (.pointer (some (a.add fd.offset))) w := by
  simp only [Instr.fieldAt, Sem.run_bind, run_underlying hu, Result.andThen, hf, Instr.sureAddr, Sem.run_pure, fieldPlace, run_sizeOf hi, hz, if_false]

theorem fieldAddr_sound (C : Ctx P E w Pr B β T ρ) {t : TypeId} {f : Nat} {x cv : CV} {y : Value} (hx : CVR w Pr B β x y) (e : fieldAddrC E B t f x = some cv) :
    ∃ v, (Instr.fieldAt t y f).run P w = .ok v w ∧ CVR w Pr B β cv v := by
  unfold fieldAddrC at e
  split at e
  · rename_i b off
    simp only [Option.bind_eq_some_iff] at e
    obtain ⟨bx, hb, e⟩ := e
    split at e
    · rename_i cs
      simp only [Option.map_eq_some_iff] at e
      obtain ⟨p, hp, rfl⟩ := e
      obtain ⟨fields, fd, i, dd, h1, h2, h3, h4, h5, h6, _⟩ := fieldOff_sound C.tt hp
      obtain ⟨g, bx', rfl, hb', hβ⟩ := hx
      refine ⟨_, run_fieldAt h1 h2 h4 h6, g, bx', ?_, hb', hβ⟩
      rw [add_plain, h3]
    · cases e
  · rename_i cs off
    simp only [Option.map_eq_some_iff] at e
    obtain ⟨p, hp, rfl⟩ := e
    obtain ⟨fields, fd, i, dd, h1, h2, h3, h4, h5, h6, _⟩ := fieldOff_sound C.tt hp
    obtain ⟨a, rfl, h⟩ := hx
    refine ⟨_, run_fieldAt h1 h2 h4 h6, _, rfl, fun j c hj => ?_⟩
    obtain ⟨v, hv, hc, hq⟩ := h (p.1 + j) c (by rw [← Nat.add_assoc]; exact hj)
    rw [h3, add_add]
    exact ⟨v, hv, hc, hq⟩
  · rename_i b i off
    simp only [Option.map_eq_some_iff] at e
    obtain ⟨p, hp, rfl⟩ := e
    obtain ⟨fields, fd, i', dd, h1, h2, h3, h4, h5, h6, _⟩ := fieldOff_sound C.tt hp
    obtain ⟨a, bx, rfl, hb, h⟩ := hx
    refine ⟨_, run_fieldAt h1 h2 h4 h6, _, bx, rfl, hb, fun ro ty xs hbx => ?_⟩
    obtain ⟨g', hg, rfl⟩ := h ro ty xs hbx
    exact ⟨g', hg, by rw [add_plain, h3, Nat.add_assoc]⟩
  · cases e

theorem All2.drop {α β : Type} {R : α → β → Prop} : ∀ {as : List α} {bs : List β} (n : Nat), All2 R as bs → All2 R (as.drop n) (bs.drop n)
  | _, _, 0, h => by simpa using h
  | _, _, _ + 1, .nil => by simpa using All2.nil
  | _, _, n + 1, .cons _ t => by simpa using All2.drop n t

theorem All2.take {α β : Type} {R : α → β → Prop} : ∀ {as : List α} {bs : List β} (n : Nat), All2 R as bs → All2 R (as.take n) (bs.take n)
  | _, _, 0, _ => by simpa using All2.nil
  | _, _, _ + 1, .nil => by simpa using All2.nil
  | _, _, n + 1, .cons x t => by simpa using All2.cons x (All2.take n t)

theorem field_sound (C : Ctx P E w Pr B β T ρ) {t : TypeId} {f : Nat} {x cv : CV} {y : Value} (hx : CVR w Pr B β x y) (e : fieldC E t f x = some cv) :
    ∃ v, (Instr.field t y f).run P w = .ok v w ∧ CVR w Pr B β cv v := by
  unfold fieldC at e
  split at e
  · rename_i cs
    simp only [Option.bind_eq_some_iff] at e
    obtain ⟨p, hp, e⟩ := e
    obtain ⟨fields, fd, i, dd, h1, h2, h3, h4, h5, h6, h7, h8⟩ := fieldOff_sound C.tt hp
    obtain ⟨vs, rfl, hc⟩ := hx
    have hrun : ∀ v, (part fd.type vs.toArray fd.offset).run P w = .ok v w → (Instr.field t (.agg vs.toArray) f).run P w = .ok v w := by
      intro v hv
      simp only [Instr.field, Sem.run_bind, run_underlying h1, Result.andThen, h2, asAgg, Sem.run_pure, hv]
    cases hagg : p.2.2 with
    | true =>
      rw [hagg] at e
      simp only [cond_true] at e
      cases hle : Nat.ble (p.1 + p.2.1) cs.length with
      | false => rw [hle] at e; cases e
      | true =>
        rw [hle] at e
        simp only [cond_true, Option.some.injEq] at e
        subst e
        refine ⟨_, hrun _ (run_part_agg h7 h4 (h8.trans hagg)), _, ?_, (hc.drop p.1).take p.2.1⟩
        rw [h3, h5]
        congr 1
        apply Array.toList_inj.1
        simp [List.take_drop]
    | false =>
      rw [hagg] at e
      simp only [cond_false, Option.map_eq_some_iff] at e
      obtain ⟨c, hc', rfl⟩ := e
      obtain ⟨v, hv, hr⟩ := hc.get _ _ hc'
      exact ⟨v, hrun _ (run_part_one h7 (h8.trans hagg) (by rw [h3]; simpa using hv)), hr⟩
  · cases e

theorem inside_iff {i : Int} {n : Nat} : inside i n = true ↔ 0 ≤ i ∧ i < n := by simp [inside]

theorem run_indexAt_slice {t e : TypeId} {ie : TypeInfo} {a : Addr} {n c : Nat} {k : IntKind} {i : Int} (hu : P.underlying t = some (.slice e)) (hi : P.info? e = some ie) (h0 : 0 ≤ i) (h1 : i < n) :
    (Instr.indexAt t (.slice (some a) n c) (.int k i)).run P w = .ok (.pointer (some (a.add (i.toNat * ie.size)))) w := by
  simp only [Instr.indexAt, Sem.run_bind, asIntOf, Sem.run_pure, Result.andThen, run_underlying hu]
  by_cases hn : n ≤ 1
  · simp only [hn, decide_true, Bool.true_and, Sem.run_bind, run_underlying hu, Result.andThen, h0, h1, and_self, if_true, run_sizeOf hi, Sem.run_pure]
  · simp only [hn, decide_false, Bool.false_and, Sem.run_bind, run_underlying hu, Result.andThen, h0, h1, and_self, if_true, run_sizeOf hi, Sem.run_pure]

theorem run_indexAt_array {t e : TypeId} {ie : TypeInfo} {a : Addr} {n : Nat} {k : IntKind} {i : Int} (hu : P.underlying t = some (.array n e)) (hi : P.info? e = some ie) (h0 : 0 ≤ i) (h1 : i < n) :
    (Instr.indexAt t (.pointer (some a)) (.int k i)).run P w = .ok (.pointer (some (a.add (i.toNat * ie.size)))) w := by
  simp only [Instr.indexAt, Sem.run_bind, asIntOf, Sem.run_pure, Result.andThen, run_underlying hu, Instr.sureAddr]
  by_cases hn : n ≤ 1
  · simp only [hn, decide_true, Bool.true_and, Sem.run_bind, run_underlying hu, Result.andThen, h0, h1, and_self, if_true, run_sizeOf hi, Sem.run_pure]
  · simp only [hn, decide_false, Bool.false_and, Sem.run_bind, run_underlying hu, Result.andThen, h0, h1, and_self, if_true, run_sizeOf hi, Sem.run_pure]

theorem ite_some {α : Type} {b : Bool} {x : M α} {a : α} (h : (M.ite b x .fail).opt = some a) : b = true ∧ x.opt = some a := by
  rw [M.opt_ite] at h
  cases b
  · cases h
  · exact ⟨rfl, h⟩

theorem bif_some {α : Type} {b : Bool} {x : M α} {a : α} (h : (bif b then x else .fail : M α).opt = some a) : b = true ∧ x.opt = some a := by
  cases b
  · cases h
  · exact ⟨rfl, h⟩

theorem sameSize_eq {a b : Ty} (h : sameSize a b = true) : a.size = b.size := Nat.eq_of_beq_eq_true h

theorem indexAddr_sound (C : Ctx P E w Pr B β T ρ) {t : TypeId} {x : Operand} {k : IntKind} {i : Int} {cv : CV} (e : (indexAddrC E T B t x i).opt = some cv) :
    ∃ v, (Instr.indexAt t (ρ x) (.int k i)).run P w = .ok v w ∧ CVR w Pr B β cv v := by
  unfold indexAddrC at e
  rw [M.opt_bind, M.opt_ofO] at e
  simp only [Option.bind_eq_some_iff] at e
  obtain ⟨td, ht, e⟩ := e
  obtain ⟨inf, d, hi, hd, hs, ha, _, hk⟩ := (C.tt t td ht).out
  split at e
  · rename_i ebytes ez ty0 hkind
    rw [hkind] at hk
    obtain ⟨el, ie, ze, rfl, hie, hsz, _⟩ := hk
    rw [M.opt_bind, M.opt_ofO] at e
    simp only [Option.bind_eq_some_iff] at e
    obtain ⟨c, hc, e⟩ := e
    have hcell := opc_sound C hc
    split at e
    · rename_i ty xs
      obtain ⟨hsame, e⟩ := bif_some e
      obtain ⟨h0, e⟩ := ite_some e
      rw [M.opt_bind, M.opt_ofO] at e
      simp only [Option.bind_eq_some_iff, M.opt_ret, Option.some.injEq] at e
      obtain ⟨el', hel, rfl⟩ := e
      have h0' : 0 ≤ i := of_decide_eq_true h0
      obtain ⟨A, n, cc, hy, hn, hcap, hrow⟩ := hcell
      obtain ⟨ad, vs, rfl, henc, hseg⟩ := hrow _ _ hel
      have hlt : i < n := by
        have := (List.getElem?_eq_some_iff.1 hel).1
        omega
      rw [hy]
      refine ⟨_, run_indexAt_slice hd hie h0' hlt, _, rfl, fun j c hj => ?_⟩
      rw [Nat.zero_add] at hj
      obtain ⟨v, hv, hr⟩ := (toCells_sound (B := B) (β := β) ty el' vs henc).get j c hj
      have := hseg j v hv
      rw [add_add, hsz, ← sameSize_eq hsame]
      exact ⟨v, hr, this.1, this.2⟩
    · rename_i b
      split at e
      · rename_i ro ty xs hb
        obtain ⟨hsame, e⟩ := bif_some e
        obtain ⟨h0, e⟩ := ite_some e
        obtain rfl := Option.some.inj e
        obtain ⟨h0, h1⟩ := inside_iff.1 h0
        obtain ⟨_, bx, hb', ho⟩ := hcell
        rw [hb] at hb'; obtain rfl := Option.some.inj hb'
        have ho := ho _ _ _ rfl
        unfold OwnV at ho
        cases hg : β b with
        | none => rw [hg] at ho; obtain ⟨_, hl⟩ := ho; omega
        | some g =>
          rw [hg] at ho
          obtain ⟨cc, vs, T', hy, _, _, _⟩ := ho
          rw [hy]
          refine ⟨_, run_indexAt_slice hd hie h0 h1, _, _, rfl, hb, fun ro' ty' xs' he => ?_⟩
          cases he
          exact ⟨g, hg, by rw [add_plain, hsz, ← sameSize_eq hsame]; simp⟩
      · cases e
    · rename_i b off n
      split at e
      · rename_i ro ty xs hb
        obtain ⟨hsame, e⟩ := bif_some e
        obtain ⟨h0, e⟩ := ite_some e
        obtain rfl := Option.some.inj e
        obtain ⟨h0, h1⟩ := inside_iff.1 h0
        obtain ⟨A, cc, hy, hn, bx, hb', ho⟩ := hcell
        rw [hb] at hb'; obtain rfl := Option.some.inj hb'
        have hv := ho _ _ _ rfl
        have hle := hv.1
        obtain ⟨g, hg, rfl, _⟩ := hv.2 (by omega)
        rw [hy]
        refine ⟨_, run_indexAt_slice hd hie h0 h1, _, _, rfl, hb, fun ro' ty' xs' he => ?_⟩
        cases he
        exact ⟨g, hg, by rw [add_plain, hsz, ← sameSize_eq hsame, Nat.add_mul]; simp⟩
      · cases e
    · cases e
  · rename_i n ez ty0 hkind
    rw [hkind] at hk
    obtain ⟨el, ie, v0, zc, rfl, hie, hsz, _⟩ := hk
    rw [M.opt_bind, M.opt_ofO] at e
    simp only [Option.bind_eq_some_iff] at e
    obtain ⟨c, hc, e⟩ := e
    have hcell := opc_sound C hc
    split at e
    · rename_i b
      split at e
      · rename_i ro ty xs hb
        obtain ⟨hsame, e⟩ := bif_some e
        obtain ⟨h0, e⟩ := ite_some e
        obtain rfl := Option.some.inj e
        obtain ⟨h0, h1⟩ := inside_iff.1 h0
        obtain ⟨g, bx, hy, hb', hβ⟩ := hcell
        rw [hb] at hb'; obtain rfl := Option.some.inj hb'
        rw [hy]
        refine ⟨_, run_indexAt_array hd hie h0 h1, _, _, rfl, hb, fun ro' ty' xs' he => ?_⟩
        cases he
        exact ⟨g, hβ (by simp), by rw [add_plain, hsz, ← sameSize_eq hsame]; simp⟩
      · cases e
    · cases e
  · cases e

/-- A string's byte. -/
theorem index_sound {t : TypeId} {s : ByteArray} {k : IntKind} {i : Int} {b : UInt8} (hu : P.underlying t = some .string) (h0 : 0 ≤ i) (hb : s.data.toList[i.toNat]? = some b) :
    (Instr.index t (.string s) (.int k i)).run P w = .ok (.int .u8 b.toNat) w := by
  simp only [Instr.index, Sem.run_bind, asIntOf, Sem.run_pure, Result.andThen, run_underlying hu, h0, if_true]
  have : s[i.toNat]? = some b := by
    rw [Array.getElem?_toList] at hb
    exact hb
  rw [this]; rfl

theorem optI_sound (C : Ctx P E w Pr B β T ρ) {x : Option Operand} {d n : Int} (h : optI T x d = some n) : (x = none ∧ n = d) ∨ ∃ y k, x = some y ∧ ρ y = .int k n := by
  unfold optI at h
  cases x with
  | none => exact .inl ⟨rfl, (Option.some.inj h).symm⟩
  | some y =>
    simp only [Option.map_eq_some_iff] at h
    obtain ⟨a, ha, rfl⟩ := h
    exact .inr ⟨y, a.1, rfl, opI_sound C ha⟩

theorem run_sliceBound {k : IntKind} {i : Int} {y : Nat} {code : BoundsCode} (h0 : 0 ≤ i) (h1 : i ≤ y) : (Instr.sliceBound (.int k i) y code).run P w = .ok i.toNat w := by
  simp only [Instr.sliceBound, Sem.run_bind, asIntOf, Sem.run_pure, Result.andThen, h0, h1, and_self, if_true]

theorem run_sliceBounds (C : Ctx P E w Pr B β T ρ) {isSlice : Bool} {len cap : Nat} {lo hi : Option Operand} {l h : Int} (hl : optI T lo 0 = some l) (hh : optI T hi len = some h)
    (h0 : 0 ≤ l) (h1 : l ≤ h) (h2 : h ≤ cap) : (Instr.sliceBounds isSlice len cap (lo.map ρ) (hi.map ρ) none).run P w = .ok (l.toNat, h.toNat, cap) w := by
  unfold Instr.sliceBounds
  rcases optI_sound C hh with ⟨rfl, rfl⟩ | ⟨y, k, rfl, hy⟩ <;> rcases optI_sound C hl with ⟨rfl, rfl⟩ | ⟨y', k', rfl, hy'⟩
  · simp only [Option.map_none, Sem.run_bind, Sem.run_pure, Result.andThen]
    simp
  · simp only [Option.map_none, Option.map_some, Sem.run_bind, Sem.run_pure, Result.andThen, hy']
    rw [run_sliceBound h0 h1]
    simp
  · simp only [Option.map_none, Option.map_some, Sem.run_bind, Sem.run_pure, Result.andThen, hy]
    rw [run_sliceBound (by omega) (by omega)]
    simp
  · simp only [Option.map_some, Sem.run_bind, Sem.run_pure, Result.andThen, hy, hy']
    rw [run_sliceBound (by omega) (by omega)]
    simp only
    rw [run_sliceBound h0 (by omega)]

theorem run_sliceBounds3 (C : Ctx P E w Pr B β T ρ) {isSlice : Bool} {len cap : Nat} {lo : Option Operand} {hi : Operand} {l h : Int} {k : IntKind} {m : Nat} (hl : optI T lo 0 = some l) (hh : optI T (some hi) len = some h)
    (h0 : 0 ≤ l) (h1 : l ≤ h) (h2 : h ≤ m) (h3 : m ≤ cap) : (Instr.sliceBounds isSlice len cap (lo.map ρ) (some (ρ hi)) (some (.int k m))).run P w = .ok (l.toNat, h.toNat, m) w := by
  unfold Instr.sliceBounds
  rcases optI_sound C hh with ⟨h, _⟩ | ⟨y, k2, hy0, hy⟩
  · cases h
  · obtain rfl := Option.some.inj hy0
    rcases optI_sound C hl with ⟨rfl, rfl⟩ | ⟨y', k', rfl, hy'⟩
    · simp only [Option.map_none, Sem.run_bind, Sem.run_pure, Result.andThen, hy]
      rw [run_sliceBound (by omega) (by omega)]
      simp only
      rw [run_sliceBound (by omega) (by omega)]
      simp
    · simp only [Option.map_some, Sem.run_bind, Sem.run_pure, Result.andThen, hy, hy']
      rw [run_sliceBound (by omega) (by omega)]
      simp only
      rw [run_sliceBound (by omega) (by omega)]
      simp only
      rw [run_sliceBound h0 (by omega)]
      simp

theorem OwnV.view {g? : Option Nat} {sz len : Nat} {y : Value} (h : OwnV w g? sz len y) : ∃ A c, y = .slice A len c ∧ len ≤ c ∧ ViewV w g? sz len 0 len A c := by
  unfold OwnV at h
  cases g? with
  | none =>
    obtain ⟨rfl, rfl⟩ := h
    exact ⟨none, 0, rfl, Nat.le_refl _, by simp, fun h => by omega⟩
  | some g =>
    obtain ⟨c, vs, T, rfl, hc, hh, hz⟩ := h
    exact ⟨_, c, rfl, hc, by simp, fun _ => ⟨g, rfl, by simp, by omega, vs, T, hh, by simpa using hz⟩⟩

theorem ViewV.cap {g? : Option Nat} {sz len off n c : Nat} {A : Option Addr} (hv : ViewV w g? sz len off n A c) (hc : n ≤ c) : len - off ≤ c := by
  by_cases hl : off < len
  · obtain ⟨_, _, _, h, _⟩ := hv.2 hl; omega
  · omega

theorem ViewV.cut {g? : Option Nat} {sz len off n c l h m : Nat} {A : Option Addr} (hv : ViewV w g? sz len off n A c) (hl : l ≤ h) (hh : h ≤ len - off) (hm : len - off ≤ m) (hmc : m ≤ c) :
    ViewV w g? sz len (off + l) (h - l) (if m = l then A else A.map (·.add (l * sz))) (m - l) := by
  have h0 := hv.1
  refine ⟨by omega, fun hlt => ?_⟩
  obtain ⟨g, hg, rfl, h1, vs, T, h2, h3⟩ := hv.2 (by omega)
  refine ⟨g, hg, ?_, by omega, vs, T, h2, Nat.le_trans (Nat.mul_le_mul_right _ (by omega)) h3⟩
  rw [if_neg (by omega)]
  simp only [Option.map_some, add_plain, Nat.add_mul]

theorem RowV.cut {ty : Ty} {xs : List ty.den} {A : Option Addr} {n c l h : Nat} (hr : RowV w Pr ty xs A n c) (hl : l ≤ h) (hh : h ≤ n) :
    RowV w Pr ty ((xs.drop l).take (h - l)) (if c = l then A else A.map (·.add (l * ty.size))) (h - l) (c - l) := by
  obtain ⟨hn, hc, hx⟩ := hr
  refine ⟨by simp; omega, by omega, fun i x hi => ?_⟩
  rw [List.getElem?_take] at hi
  split at hi
  · rename_i hlt
    rw [List.getElem?_drop] at hi
    obtain ⟨ad, vs, rfl, he, hs⟩ := hx _ _ hi
    rw [if_neg (by omega)]
    refine ⟨ad.add (l * ty.size), vs, rfl, he, fun j v hj => ?_⟩
    rw [add_add]
    have := hs j v hj
    rw [Nat.add_mul, Nat.add_assoc] at this
    exact this
  · cases hi

theorem cut_sound {n m : Nat} {lo hi : Option Operand} {f : Nat → Nat → Cell} {cv : CV} (e : (cutC T n m lo hi f).opt = some cv) :
    ∃ l h : Int, optI T lo 0 = some l ∧ optI T hi n = some h ∧ 0 ≤ l ∧ l ≤ h ∧ h ≤ m ∧ cv = .s (.c (f l.toNat h.toNat)) := by
  unfold cutC at e
  rw [M.opt_bind, M.opt_ofO] at e
  simp only [Option.bind_eq_some_iff, M.opt_bind, M.opt_ofO] at e
  obtain ⟨h, hh, l, hl, e⟩ := e
  obtain ⟨hb, e⟩ := ite_some e
  simp only [Bool.and_eq_true, decide_eq_true_eq] at hb
  exact ⟨l, h, hl, hh, hb.1, hb.2.1, hb.2.2, (Option.some.inj e).symm⟩

theorem slice_sound (C : Ctx P E w Pr B β T ρ) {t : TypeId} {td : TD} (ht : E.tt t = some td) {x : Cell} {y : Value} {lo hi : Option Operand} {ty0 : Option Ty} {cv : CV} (hx : CellR w Pr B β x y)
    (hk0 : (ty0 = none ∧ td.kind = .str) ∨ ∃ eb ez ty, ty0 = some ty ∧ td.kind = .slice eb ez ty) (e : (sliceC T B ty0 x lo hi).opt = some cv) :
    ∃ v, (Instr.sliceAt t y (lo.map ρ) (hi.map ρ) none).run P w = .ok v w ∧ CVR w Pr B β cv v := by
  obtain ⟨inf, d, hi', hd, hs, ha, _, hk⟩ := (C.tt t td ht).out
  unfold sliceC at e
  split at e
  · rename_i s
    rcases hk0 with ⟨_, hk1⟩ | ⟨_, _, _, h, _⟩
    · rw [hk1] at hk
      obtain rfl : d = .string := hk
      obtain ⟨l, h, hl, hh, h0, h1, h2, rfl⟩ := cut_sound e
      obtain ⟨rfl, _⟩ := hx
      refine ⟨.string (s.extract l.toNat h.toNat), ?_, rfl, rfl⟩
      simp only [Instr.sliceAt, Sem.run_bind, run_underlying hd, Result.andThen, Instr.slice, Option.isSome_none, Bool.false_eq_true, if_false]
      rw [run_sliceBounds C hl hh h0 h1 h2]
      rfl
    · cases h
  · rename_i ty xs ty1
    rcases hk0 with ⟨h, _⟩ | ⟨eb, ez, ty2, h, hk1⟩
    · cases h
    · cases h
      obtain ⟨hsame, e⟩ := bif_some e
      rw [hk1] at hk
      obtain ⟨el, ie, ze, rfl, hie, hsz, _⟩ := hk
      obtain ⟨l, h, hl, hh, h0, h1, h2, rfl⟩ := cut_sound e
      obtain ⟨A, n, c, rfl, hr⟩ := hx
      have hn := hr.1
      subst hn
      have hcap := hr.2.1
      refine ⟨.slice (if c = l.toNat then A else A.map (·.add (l.toNat * ie.size))) (h.toNat - l.toNat) (c - l.toNat), ?_, _, _, _, rfl, ?_⟩
      · simp only [Instr.sliceAt, Sem.run_bind, run_underlying hd, Result.andThen, Instr.slice]
        rw [run_sliceBounds C hl hh h0 h1 (by omega)]
        simp only [run_sizeOf hie, Sem.run_pure]
      · have := hr.cut (l := l.toNat) (h := h.toNat) (by omega) (by omega)
        rw [hsz, ← sameSize_eq hsame]
        exact this
  · rename_i b ty1
    rcases hk0 with ⟨h, _⟩ | ⟨eb, ez, ty2, h, hk1⟩
    · cases h
    · cases h
      split at e
      · rename_i ro ty xs hb
        obtain ⟨hsame, e⟩ := bif_some e
        rw [hk1] at hk
        obtain ⟨el, ie, ze, rfl, hie, hsz, _⟩ := hk
        obtain ⟨l, h, hl, hh, h0, h1, h2, rfl⟩ := cut_sound e
        obtain ⟨_, bx, hb', ho⟩ := hx
        rw [hb] at hb'; obtain rfl := Option.some.inj hb'
        obtain ⟨A, c, rfl, hcap, hv⟩ := (ho _ _ _ rfl).view
        have hcut := hv.cut (l := l.toNat) (h := h.toNat) (m := c) (by omega) (by omega) (hv.cap hcap) (Nat.le_refl _)
        refine ⟨.slice (if c = l.toNat then A else A.map (·.add (l.toNat * ie.size))) (h.toNat - l.toNat) (c - l.toNat), ?_, _, _, rfl, by omega, _, hb, fun ro' ty' xs' he => ?_⟩
        · simp only [Instr.sliceAt, Sem.run_bind, run_underlying hd, Result.andThen, Instr.slice]
          rw [run_sliceBounds C hl hh h0 h1 (by omega)]
          simp only [run_sizeOf hie, Sem.run_pure]
        · cases he
          rw [Nat.zero_add] at hcut
          rw [hsz, ← sameSize_eq hsame]
          exact hcut
      · cases e
  · rename_i b off n ty1
    rcases hk0 with ⟨h, _⟩ | ⟨eb, ez, ty2, h, hk1⟩
    · cases h
    · cases h
      split at e
      · rename_i ro ty xs hb
        obtain ⟨hsame, e⟩ := bif_some e
        rw [hk1] at hk
        obtain ⟨el, ie, ze, rfl, hie, hsz, _⟩ := hk
        obtain ⟨l, h, hl, hh, h0, h1, h2, rfl⟩ := cut_sound e
        obtain ⟨A, c, rfl, hcap, bx, hb', ho⟩ := hx
        rw [hb] at hb'; obtain rfl := Option.some.inj hb'
        have hv := ho _ _ _ rfl
        have hc2 := hv.cap hcap
        have hcut := hv.cut (l := l.toNat) (h := h.toNat) (m := c) (by omega) (by omega) hc2 (Nat.le_refl _)
        refine ⟨.slice (if c = l.toNat then A else A.map (·.add (l.toNat * ie.size))) (h.toNat - l.toNat) (c - l.toNat), ?_, _, _, rfl, by omega, _, hb, fun ro' ty' xs' he => ?_⟩
        · simp only [Instr.sliceAt, Sem.run_bind, run_underlying hd, Result.andThen, Instr.slice]
          rw [run_sliceBounds C hl hh h0 h1 (by omega)]
          simp only [run_sizeOf hie, Sem.run_pure]
        · cases he
          rw [hsz, ← sameSize_eq hsame]
          exact hcut
      · cases e
  · cases e

theorem slice3_sound (C : Ctx P E w Pr B β T ρ) {t : TypeId} {td : TD} (ht : E.tt t = some td) {x : Cell} {y : Value} {lo : Option Operand} {hi : Operand} {ty0 : Ty} {k : IntKind} {m : Int} {cv : CV} (hx : CellR w Pr B β x y)
    {eb : Nat} {ez : List Cell} (hk1 : td.kind = .slice eb ez ty0) (e : (slice3C T B ty0 x lo (some hi) m).opt = some cv) :
    ∃ v, (Instr.sliceAt t y (lo.map ρ) (some (ρ hi)) (some (.int k m))).run P w = .ok v w ∧ CVR w Pr B β cv v := by
  obtain ⟨inf, d, hi', hd, hs, ha, _, hk⟩ := (C.tt t td ht).out
  rw [hk1] at hk
  obtain ⟨el, ie, ze, rfl, hie, hsz, _⟩ := hk
  unfold slice3C at e
  split at e
  · rename_i b
    split at e
    · rename_i ro ty xs hb
      replace e := bif_some e
      obtain ⟨hsame, e1⟩ := e
      replace e1 := ite_some e1
      obtain ⟨hm, e2⟩ := e1
      obtain rfl := of_decide_eq_true hm
      obtain ⟨l, h, hl, hh, h0, h1, h2, rfl⟩ := cut_sound e2
      obtain ⟨_, bx, hb', ho⟩ := hx
      rw [hb] at hb'; obtain rfl := Option.some.inj hb'
      obtain ⟨A, c, rfl, hcap, hv⟩ := (ho _ _ _ rfl).view
      have hcut := hv.cut (l := l.toNat) (h := h.toNat) (m := xs.length) (by omega) (by omega) (by omega) hcap
      refine ⟨.slice (if xs.length = l.toNat then A else A.map (·.add (l.toNat * ie.size))) (h.toNat - l.toNat) (xs.length - l.toNat), ?_, _, _, rfl, by omega, _, hb, fun ro' ty' xs' he => ?_⟩
      · simp only [Instr.sliceAt, Sem.run_bind, run_underlying hd, Result.andThen, Instr.slice]
        rw [run_sliceBounds3 C hl hh h0 h1 (by omega) hcap]
        simp only [run_sizeOf hie, Sem.run_pure]
      · cases he
        rw [Nat.zero_add] at hcut
        rw [hsz, ← sameSize_eq hsame]
        exact hcut
    · cases e
  · rename_i b off n
    split at e
    · rename_i ro ty xs hb
      replace e := bif_some e
      obtain ⟨hsame, e1⟩ := e
      replace e1 := ite_some e1
      obtain ⟨hm, e2⟩ := e1
      obtain rfl := of_decide_eq_true hm
      obtain ⟨l, h, hl, hh, h0, h1, h2, rfl⟩ := cut_sound e2
      obtain ⟨A, c, rfl, hcap, bx, hb', ho⟩ := hx
      rw [hb] at hb'; obtain rfl := Option.some.inj hb'
      have hv := ho _ _ _ rfl
      have hc2 := hv.cap hcap
      have hcut := hv.cut (l := l.toNat) (h := h.toNat) (m := xs.length - off) (by omega) (by omega) (Nat.le_refl _) hc2
      refine ⟨.slice (if xs.length - off = l.toNat then A else A.map (·.add (l.toNat * ie.size))) (h.toNat - l.toNat) (xs.length - off - l.toNat), ?_, _, _, rfl, by omega, _, hb, fun ro' ty' xs' he => ?_⟩
      · simp only [Instr.sliceAt, Sem.run_bind, run_underlying hd, Result.andThen, Instr.slice]
        rw [run_sliceBounds3 C hl hh h0 h1 (by omega) hc2]
        simp only [run_sizeOf hie, Sem.run_pure]
      · cases he
        rw [hsz, ← sameSize_eq hsame]
        exact hcut
    · cases e
  · cases e
end
end Go.Proofs.YtfgkcnoiplojkaaDoor.VI
