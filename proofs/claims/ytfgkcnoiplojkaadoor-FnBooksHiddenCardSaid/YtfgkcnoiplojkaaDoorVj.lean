/- The value interpreter: what makes boxes, and what makes them stay as they are. -/
import Derived.Test.YtfgkcnoiplojkaaDoorVi
namespace Go.Proofs.YtfgkcnoiplojkaaDoor.VI
open Go

theorem updB_append (B : Nat → Option BX) (l m : List (Nat × BX)) : updB B (l ++ m) = updB (updB B l) m := by
  induction l generalizing B with
  | nil => rfl
  | cons p r ih => exact ih _

theorem FreshB_append (B : Nat → Option BX) (l m : List (Nat × BX)) : FreshB B (l ++ m) ↔ FreshB B l ∧ FreshB (updB B l) m := by
  induction l generalizing B with
  | nil => simp [FreshB, updB]
  | cons p r ih => simp only [List.cons_append, FreshB, updB, ih, and_assoc]

theorem putB_comm (B : Nat → Option BX) {j k : Nat} (h : j ≠ k) (x y : BX) : putB (putB B j x) k y = putB (putB B k y) j x := by
  funext b
  by_cases h1 : b = j <;> by_cases h2 : b = k <;> simp_all [putB]

section
variable {P : Program} {E : Env} {w : World} {Pr : Addr → Prop} {B : Nat → Option BX} {β : Nat → Option Nat} {T : Nat → Option CV} {ρ : Operand → Value}

theorem putB_self (B : Nat → Option BX) (k : Nat) (x : BX) : putB B k x k = some x := by simp [putB]
theorem putβ_self (β : Nat → Option Nat) (k : Nat) (g : Option Nat) : putβ β k g k = g := by simp [putβ]

theorem own_nil {k : Nat} {ty : Ty} : CellR w Pr (putB B k (.arr false ty [])) (putβ β k none) (.own k) (.slice none 0 0) :=
  ⟨⟨_, _, _, rfl⟩, .arr false ty [], putB_self _ _ _, fun ro ty' xs h => by cases h; rw [putβ_self]; exact ⟨rfl, rfl⟩⟩

theorem elemTy_td {t : TypeId} {ty : Ty} (h : elemTy E t = some ty) : ∃ td eb ez, E.tt t = some td ∧ td.kind = .slice eb ez ty := by
  simp only [elemTy, Option.bind_eq_some_iff] at h
  obtain ⟨td, ht, h⟩ := h
  split at h
  · rename_i eb ez ty' hk
    obtain rfl := Option.some.inj h
    exact ⟨td, eb, ez, ht, hk⟩
  · cases h

/-- A value that is put into a variable. -/
theorem settle_sound (hM : Mem w Pr B β) {k : Nat} {t : TypeId} {v : CV} {y : Value} (hv : CVR w Pr B β v y) (hf : FreshB B (settle E k t v).2) :
    ∃ β', Step w Pr B β w Pr (updB B (settle E k t v).2) β' ∧ CVR w Pr (updB B (settle E k t v).2) β' (settle E k t v).1 y := by
  unfold settle at hf ⊢
  split
  · rename_i heq
    cases he : elemTy E t with
    | none => exact ⟨β, Step.refl hM, hv⟩
    | some ty =>
      rw [he] at hf
      obtain ⟨rfl, _⟩ := hv
      exact ⟨putβ β k none, Step.nil hM hf.1 ty, own_nil (w := w) (Pr := Pr)⟩
  · exact ⟨β, Step.refl hM, hv⟩

/-- Zero cells. -/
theorem fresh_sound : ∀ (z : List Cell) (vs : List Value) (k : Nat) {B : Nat → Option BX} {β : Nat → Option Nat}, Mem w Pr B β → ZeroR z vs → FreshB B (fresh k z).2 →
    ∃ β', Step w Pr B β w Pr (updB B (fresh k z).2) β' ∧ All2 (CellR w Pr (updB B (fresh k z).2) β') (fresh k z).1 vs := by
  intro z
  induction z with
  | nil =>
    intro vs k B β hM h _
    cases h
    exact ⟨β, Step.refl hM, .nil⟩
  | cons c r ih =>
    intro vs k B β hM h hf
    cases h with
    | cons hc ht =>
      rename_i v vs
      rcases hc with ⟨rfl, ho⟩ | ⟨ty, rfl, rfl⟩
      · have e : fresh k (.v v :: r) = ((.v v :: (fresh k r).1), (fresh k r).2) := rfl
        rw [e] at hf ⊢
        obtain ⟨β', hs, ha⟩ := ih vs k hM ht hf
        exact ⟨β', hs, .cons ⟨rfl, ho⟩ ha⟩
      · have e : fresh k (.row ty [] :: r) = ((.own k :: (fresh (k + 1) r).1), ((k, .arr false ty []) :: (fresh (k + 1) r).2)) := rfl
        rw [e] at hf ⊢
        have h1 := Step.nil hM hf.1 ty
        obtain ⟨β', hs, ha⟩ := ih vs (k + 1) h1.mem ht hf.2
        exact ⟨β', h1.trans hs, .cons (CellR.ext hs.since.keep hs.since.grows hs.since.shape hs.since.ext own_nil) ha⟩

/-- A new variable with these cells. -/
theorem var_step (hM : Mem w Pr B β) {k : Nat} (hk : B k = none) {cs : List Cell} {vs : Array Value} (T' : TypeId) (h : All2 (CellR w Pr B β) cs vs.toList) :
    Step w Pr B β (World.add w (.cells vs T')) Pr (putB B k (.cells cs)) (putβ β k (some w.heap.size)) := by
  have hkp := add_keep hM.lt (.cells vs T')
  have hsh := add_shape (w := w) (.cells vs T')
  have he : Ext B β (putB B k (.cells cs)) (putβ β k (some w.heap.size)) := Ext.new hk _ _
  refine Step.alloc hM hk _ _ ⟨w.heap.size, vs, T', by simp [putβ], add_new _, CellsR.ext hkp (fun _ h => h) hsh he h, fun a ha e => ?_⟩
  have := hM.lt a ha; omega

theorem ptr_new {w' : World} {k g : Nat} {x : BX} : CVR w' Pr (putB B k x) (putβ β k (some g)) (.s (.c (.ptr k 0))) (.pointer (some ⟨g, 0, none⟩)) :=
  ⟨g, x, rfl, by simp [putB], fun _ => by simp [putβ]⟩

/-- A new row of the call's own. -/
theorem row_step (hM : Mem w Pr B β) {k : Nat} (hk : B k = none) {ty : Ty} {xs : List ty.den} {vs : Array Value} (T' : TypeId) (h : ArrR w Pr ty xs vs) :
    Step w Pr B β (World.add w (.cells vs T')) Pr (putB B k (.arr false ty xs)) (putβ β k (some w.heap.size)) := by
  have hkp := add_keep hM.lt (.cells vs T')
  refine Step.alloc hM hk _ _ ?_
  unfold BXR
  simp only [putβ, if_true]
  refine ⟨vs, T', add_new _, fun i x hi => ?_, fun _ a ha e => ?_, fun e => by cases e⟩
  · obtain ⟨es, h1, h2⟩ := h i x hi
    exact ⟨es, EncE_mono hkp (fun _ h => h) _ _ _ h1, h2⟩
  · have := hM.lt a ha; omega

theorem own_new {k : Nat} {ty : Ty} {xs : List ty.den} {vs : Array Value} {T' : TypeId} {c : Nat} (h1 : xs.length ≤ c) (h2 : c * ty.size ≤ vs.size) :
    CVR (World.add w (.cells vs T')) Pr (putB B k (.arr false ty xs)) (putβ β k (some w.heap.size)) (.s (.c (.own k))) (.slice (some ⟨w.heap.size, 0, none⟩) xs.length c) := by
  refine ⟨⟨_, _, _, rfl⟩, .arr false ty xs, putB_self _ _ _, fun ro ty' xs' he => ?_⟩
  cases he
  rw [putβ_self]
  exact ⟨c, vs, T', rfl, h1, add_new _, h2⟩

/-- What is frozen stays as it was told. -/
def Frz (B B1 : Nat → Option BX) : Prop := ∀ b, B1 b = B b ∨ ∃ ro ty xs, B b = some (.arr ro ty xs) ∧ B1 b = some (.arr true ty xs)

theorem Frz.refl (B : Nat → Option BX) : Frz B B := fun _ => .inl rfl

theorem Frz.arr {B B1 : Nat → Option BX} (h : Frz B B1) {b : Nat} {ro : Bool} {ty : Ty} {xs : List ty.den} (hb : B b = some (.arr ro ty xs)) : ∃ ro', B1 b = some (.arr ro' ty xs) ∧ (ro = true → ro' = true) := by
  rcases h b with e | ⟨ro', ty', xs', h1, h2⟩
  · exact ⟨ro, e.trans hb, id⟩
  · rw [hb] at h1
    cases h1
    exact ⟨true, h2, fun _ => rfl⟩

/-- One box is frozen, as B told it. -/
theorem froze_step {B1 : Nat → Option BX} {P1 : Addr → Prop} (hM : Mem w P1 B1 β) (hz : Frz B B1) (b : Option Nat) :
    ∃ P2, Step w P1 B1 β w P2 (updB B1 (froze B b)) β ∧ Frz B (updB B1 (froze B b)) ∧ (∀ c ro ty xs, b = some c → B c = some (.arr ro ty xs) → updB B1 (froze B b) c = some (.arr true ty xs)) := by
  unfold froze
  cases b with
  | none => exact ⟨P1, Step.refl hM, hz, fun c ro ty xs h => by cases h⟩
  | some b =>
    simp only
    split
    · rename_i ro ty xs hb
      obtain ⟨ro', hb1, _⟩ := hz.arr hb
      obtain ⟨P2, hs⟩ := Step.freeze hM hb1
      refine ⟨P2, hs, fun c => ?_, fun c ro0 ty0 xs0 hc h0 => ?_⟩
      · by_cases e : c = b
        · subst e; exact .inr ⟨ro, ty, xs, hb, by simp [updB, putB]⟩
        · simp only [updB, putB, e, if_false]; exact hz c
      · cases hc; rw [hb] at h0; cases h0
        simp [updB, putB]
    · rename_i hb
      refine ⟨P1, Step.refl hM, hz, fun c ro ty xs hc h0 => ?_⟩
      cases hc
      exact absurd h0 (hb ro ty xs)

/-- A frozen box's slice. -/
theorem own_row {b : Nat} {ty : Ty} {xs : List ty.den} (hbox : BXR w Pr B β b (.arr true ty xs)) {y : Value} (ho : OwnV w (β b) ty.size xs.length y) :
    ∃ A n c, y = .slice A n c ∧ RowV w Pr ty xs A n c := by
  unfold BXR at hbox
  unfold OwnV at ho
  cases hg : β b with
  | none =>
    rw [hg] at ho hbox
    obtain ⟨rfl, _⟩ := ho
    simp only at hbox
    subst hbox
    exact ⟨none, 0, 0, rfl, RowV.nil ty⟩
  | some g =>
    rw [hg] at ho hbox
    obtain ⟨c, vs, T', rfl, hc, hh, _⟩ := ho
    obtain ⟨vs', T'', hh', harr, _, hro⟩ := hbox
    rw [hh] at hh'; cases hh'
    refine ⟨_, _, _, rfl, rfl, hc, fun i x hi => ?_⟩
    obtain ⟨es, h1, h2⟩ := harr i x hi
    refine ⟨_, es, rfl, h1, fun j v hj => ?_⟩
    rw [add_plain, cell_blk hh, Nat.zero_add]
    refine ⟨h2 j v hj, hro rfl _ ?_⟩
    have hlt := (List.getElem?_eq_some_iff.1 hi).1
    have hj' := (List.getElem?_eq_some_iff.1 hj).1
    rw [EncE_len ty x es h1] at hj'
    calc i * ty.size + j < i * ty.size + ty.size := by omega
      _ = (i + 1) * ty.size := by rw [Nat.add_mul, Nat.one_mul]
      _ ≤ xs.length * ty.size := Nat.mul_le_mul_right _ hlt

theorem view_row {b off n : Nat} {ty : Ty} {xs : List ty.den} (hbox : BXR w Pr B β b (.arr true ty xs)) {A : Option Addr} {c : Nat} (hc : n ≤ c) (hA : ViewV w (β b) ty.size xs.length off n A c) : RowV w Pr ty ((xs.drop off).take n) A n c := by
  have ho := hA.1
  refine ⟨by simp; omega, hc, fun i x hi => ?_⟩
  rw [List.getElem?_take] at hi
  split at hi
  · rename_i hlt
    rw [List.getElem?_drop] at hi
    obtain ⟨g, hg, rfl, _⟩ := hA.2 (by omega)
    unfold BXR at hbox
    rw [hg] at hbox
    obtain ⟨vs, T', hh, harr, _, hro⟩ := hbox
    obtain ⟨es, h1, h2⟩ := harr _ x hi
    refine ⟨_, es, rfl, h1, fun j v hj => ?_⟩
    rw [add_plain, cell_blk hh]
    have e : off * ty.size + (i * ty.size + j) = (off + i) * ty.size + j := by rw [Nat.add_mul, Nat.add_assoc]
    rw [e]
    refine ⟨h2 j v hj, hro rfl _ ?_⟩
    have hj' := (List.getElem?_eq_some_iff.1 hj).1
    rw [EncE_len ty x es h1] at hj'
    calc (off + i) * ty.size + j < (off + i) * ty.size + ty.size := by omega
      _ = (off + i + 1) * ty.size := by rw [Nat.add_mul (off + i), Nat.one_mul]
      _ ≤ xs.length * ty.size := Nat.mul_le_mul_right _ (by omega)
  · cases hi

theorem still_sound {B1 : Nat → Option BX} {P1 : Addr → Prop} (hM : Mem w P1 B1 β) (hz : Frz B B1) {c c' : Cell} {u : List (Nat × BX)} {y : Value} (hc : CellR w P1 B1 β c y) (e : still B c = some (c', u)) :
    ∃ P2, Step w P1 B1 β w P2 (updB B1 u) β ∧ Frz B (updB B1 u) ∧ CellR w P2 (updB B1 u) β c' y := by
  unfold still at e
  split at e
  · cases e; exact ⟨P1, Step.refl hM, hz, hc⟩
  · cases e; exact ⟨P1, Step.refl hM, hz, hc⟩
  · rename_i b
    simp only [rowOf, Option.map_eq_some_iff, Option.bind_eq_some_iff, Prod.mk.injEq] at e
    obtain ⟨p, ⟨bx, hb, hp⟩, rfl, rfl⟩ := e
    split at hp
    · rename_i ro ty xs
      obtain rfl := Option.some.inj hp
      simp only
      obtain ⟨P2, hs, hz', hfr⟩ := froze_step hM hz (bif ro then none else some b)
      refine ⟨P2, hs, hz', ?_⟩
      have hc2 := CellR.ext hs.since.keep hs.since.grows hs.since.shape hs.since.ext hc
      have hb2 : updB B1 (froze B (bif ro then none else some b)) b = some (.arr true ty xs) := by
        cases ro with
        | true =>
          obtain ⟨ro', h1, h2⟩ := hz'.arr hb
          rw [h1, h2 rfl]
        | false => exact hfr b false ty xs rfl hb
      obtain ⟨_, bx, hbx, ho⟩ := hc2
      rw [hb2] at hbx; obtain rfl := Option.some.inj hbx
      exact own_row (hs.mem.box _ _ hb2) (ho _ _ _ rfl)
    · cases hp
  · rename_i b off n
    simp only [rowOf, Option.map_eq_some_iff, Option.bind_eq_some_iff, Prod.mk.injEq] at e
    obtain ⟨p, ⟨bx, hb, hp⟩, rfl, rfl⟩ := e
    split at hp
    · rename_i ro ty xs
      obtain rfl := Option.some.inj hp
      simp only
      obtain ⟨P2, hs, hz', hfr⟩ := froze_step hM hz (bif ro then none else some b)
      refine ⟨P2, hs, hz', ?_⟩
      have hc2 := CellR.ext hs.since.keep hs.since.grows hs.since.shape hs.since.ext hc
      have hb2 : updB B1 (froze B (bif ro then none else some b)) b = some (.arr true ty xs) := by
        cases ro with
        | true =>
          obtain ⟨ro', h1, h2⟩ := hz'.arr hb
          rw [h1, h2 rfl]
        | false => exact hfr b false ty xs rfl hb
      obtain ⟨A, c, rfl, hcap, bx, hbx, ho⟩ := hc2
      rw [hb2] at hbx; obtain rfl := Option.some.inj hbx
      exact ⟨A, n, c, rfl, view_row (hs.mem.box _ _ hb2) hcap (ho _ _ _ rfl)⟩
    · cases hp
  · cases e

theorem stills_sound : ∀ (cs : List Cell) (ys : List Value) (cs' : List Cell) (u : List (Nat × BX)) {B1 : Nat → Option BX} {P1 : Addr → Prop}, Mem w P1 B1 β → Frz B B1 → All2 (CellR w P1 B1 β) cs ys → stills B cs = some (cs', u) →
    ∃ P2, Step w P1 B1 β w P2 (updB B1 u) β ∧ Frz B (updB B1 u) ∧ All2 (CellR w P2 (updB B1 u) β) cs' ys := by
  intro cs
  induction cs with
  | nil =>
    intro ys cs' u B1 P1 hM hz h e
    cases h; cases e
    exact ⟨P1, Step.refl hM, hz, .nil⟩
  | cons c r ih =>
    intro ys cs' u B1 P1 hM hz h e
    cases h with
    | cons hc ht =>
      simp only [stills, Option.bind_eq_some_iff, Option.map_eq_some_iff, Prod.mk.injEq] at e
      obtain ⟨p, hp, q, hq, rfl, rfl⟩ := e
      obtain ⟨P2, hs, hz2, hc2⟩ := still_sound hM hz hc hp
      obtain ⟨P3, hs3, hz3, ht3⟩ := ih _ _ _ hs.mem hz2 (CellsR.ext hs.since.keep hs.since.grows hs.since.shape hs.since.ext ht) hq
      rw [updB_append]
      exact ⟨P3, hs.trans hs3, hz3, .cons (CellR.ext hs3.since.keep hs3.since.grows hs3.since.shape hs3.since.ext hc2) ht3⟩
end
end Go.Proofs.YtfgkcnoiplojkaaDoor.VI
