/- The value interpreter: appends. -/
import Derived.Test.YtfgkcnoiplojkaaDoorVl
namespace Go.Proofs.YtfgkcnoiplojkaaDoor.VI
open Go

theorem growBy_le (n : Nat) : ∀ (r c : Nat), 256 ≤ c → c ≤ 2 * n → Builtin.growBy n r c ≤ 2 * n := by
  intro r
  induction r with
  | zero => intro c _ h; exact h
  | succ r ih =>
    intro c h1 h2
    unfold Builtin.growBy
    split
    · exact h2
    · exact ih _ (by omega) (by omega)

theorem nextslicecap_le {n c : Nat} (h : c < n) : Builtin.nextslicecap n c ≤ 2 * n := by
  unfold Builtin.nextslicecap
  split
  · omega
  · split
    · omega
    · exact growBy_le n 4 c (by omega) (by omega)

section
variable {P : Program} {E : Env} {w : World} {Pr : Addr → Prop} {B : Nat → Option BX} {β : Nat → Option Nat} {T : Nat → Option CV} {ρ : Operand → Value}

/-- The list's cells, told element by element. -/
def ListR (w : World) (Pr : Addr → Prop) (ty : Ty) (xs : List ty.den) (L : List Value) : Prop :=
  L.length = xs.length * ty.size ∧ ∀ i x, xs[i]? = some x → ∃ es, EncE w Pr ty x es ∧ ∀ j v, es[j]? = some v → L[i * ty.size + j]? = some v

theorem concat_rows {ty : Ty} : ∀ (xs : List ty.den) (R : Nat → Value → Prop), (∀ i x, xs[i]? = some x → ∃ es, EncE w Pr ty x es ∧ ∀ j v, es[j]? = some v → R (i * ty.size + j) v) →
    ∃ L, ListR w Pr ty xs L ∧ ∀ (j : Nat) (v : Value), L[j]? = some v → R j v := by
  intro xs
  induction xs with
  | nil => intro R _; exact ⟨[], ⟨by simp, fun i x h => by simp at h⟩, fun j v h => by simp at h⟩
  | cons x xs ih =>
    intro R h
    obtain ⟨es, h1, h2⟩ := h 0 x rfl
    have hl := EncE_len ty x es h1
    obtain ⟨L, ⟨hL1, hL2⟩, hL3⟩ := ih (fun j v => R (ty.size + j) v) (fun i y hy => by
      obtain ⟨fs, h3, h4⟩ := h (i + 1) y (by simpa using hy)
      exact ⟨fs, h3, fun j v hv => by have := h4 j v hv; rw [Nat.add_mul, Nat.one_mul] at this; rw [show ty.size + (i * ty.size + j) = i * ty.size + ty.size + j from by omega]; exact this⟩)
    refine ⟨es ++ L, ⟨by simp [hL1, hl, Nat.add_mul]; omega, fun i y hy => ?_⟩, fun j v hv => ?_⟩
    · cases i with
      | zero =>
        simp only [List.getElem?_cons_zero, Option.some.injEq] at hy
        subst hy
        refine ⟨es, h1, fun j v hv => ?_⟩
        rw [Nat.zero_mul, Nat.zero_add, List.getElem?_append_left (List.getElem?_eq_some_iff.1 hv).1]; exact hv
      | succ i =>
        obtain ⟨fs, h3, h4⟩ := hL2 i y (by simpa using hy)
        refine ⟨fs, h3, fun j v hv => ?_⟩
        rw [List.getElem?_append_right (by rw [Nat.add_mul]; omega)]
        rw [show (i + 1) * ty.size + j - es.length = i * ty.size + j from by rw [Nat.add_mul, hl]; omega]
        exact h4 j v hv
    · by_cases hj : j < es.length
      · rw [List.getElem?_append_left hj] at hv
        have := h2 j v hv
        rwa [Nat.zero_mul, Nat.zero_add] at this
      · rw [List.getElem?_append_right (by omega)] at hv
        have := hL3 _ v hv
        rw [show ty.size + (j - es.length) = j from by omega] at this
        exact this

theorem ListR.append {ty : Ty} {xs ys : List ty.den} {L M : List Value} (h : ListR w Pr ty xs L) (k : ListR w Pr ty ys M) : ListR w Pr ty (xs ++ ys) (L ++ M) := by
  refine ⟨by simp [h.1, k.1, Nat.add_mul], fun i x hx => ?_⟩
  by_cases hi : i < xs.length
  · rw [List.getElem?_append_left hi] at hx
    obtain ⟨es, h1, h2⟩ := h.2 i x hx
    refine ⟨es, h1, fun j v hv => ?_⟩
    have := h2 j v hv
    rw [List.getElem?_append_left (List.getElem?_eq_some_iff.1 this).1]; exact this
  · rw [List.getElem?_append_right (by omega)] at hx
    obtain ⟨es, h1, h2⟩ := k.2 _ x hx
    refine ⟨es, h1, fun j v hv => ?_⟩
    have hm : xs.length * ty.size ≤ i * ty.size := Nat.mul_le_mul_right _ (by omega)
    rw [List.getElem?_append_right (by rw [h.1]; omega)]
    have := h2 j v hv
    rw [← this]; congr 1
    rw [h.1, Nat.sub_mul]; omega

/-- What a slice holds can be read. -/
def SrcR (P : Program) (w : World) (Pr : Addr → Prop) (ty : Ty) (ys : List ty.den) (y : Value) : Prop :=
  ∃ L, ListR w Pr ty ys L ∧ ∀ w1 : World, w1.heap = w.heap → (Builtin.lenOf y).run P w1 = .ok ys.length w1 ∧ (Builtin.firstCells ty.size ys.length y).run P w1 = .ok L.toArray w1

theorem src_of_cells {ty : Ty} {ys : List ty.den} {A : Option Addr} {n c : Nat} (hn : n = ys.length) (h : ∀ i x, ys[i]? = some x → ∃ ad es, A = some ad ∧ EncE w Pr ty x es ∧ ∀ j v, es[j]? = some v → w.cell? (ad.add (i * ty.size + j)) = some v) :
    SrcR P w Pr ty ys (.slice A n c) := by
  subst hn
  cases A with
  | none =>
    cases ys with
    | cons x xs => obtain ⟨ad, _, e, _⟩ := h 0 x rfl; cases e
    | nil => exact ⟨[], ⟨by simp, fun i x hi => by simp at hi⟩, fun _ _ => ⟨rfl, rfl⟩⟩
  | some ad =>
    obtain ⟨L, h1, h2⟩ := concat_rows ys (fun j v => w.cell? (ad.add j) = some v) (fun i x hi => by
      obtain ⟨ad', es, e, h3, h4⟩ := h i x hi
      cases e
      exact ⟨es, h3, h4⟩)
    refine ⟨L, h1, fun w1 hw => ⟨rfl, ?_⟩⟩
    show (loadCells ad (ys.length * ty.size)).run P w1 = _
    exact run_loadCells ad L _ h1.1.symm fun j v hj => by rw [cell_heap hw]; exact h2 j v hj

theorem RowV.src {ty : Ty} {ys : List ty.den} {A : Option Addr} {n c : Nat} (h : RowV w Pr ty ys A n c) : SrcR P w Pr ty ys (.slice A n c) :=
  src_of_cells h.1 fun i x hi => by
    obtain ⟨ad, es, e, h1, h2⟩ := h.2.2 i x hi
    exact ⟨ad, es, e, h1, fun j v hv => (h2 j v hv).1⟩

theorem own_src (hM : Mem w Pr B β) {b : Nat} {ro : Bool} {ty : Ty} {xs : List ty.den} (hb : B b = some (.arr ro ty xs)) {y : Value} (ho : OwnV w (β b) ty.size xs.length y) : SrcR P w Pr ty xs y := by
  have hbox := hM.box b _ hb
  unfold BXR at hbox
  unfold OwnV at ho
  cases hg : β b with
  | none =>
    rw [hg] at ho hbox
    obtain ⟨rfl, _⟩ := ho
    simp only at hbox
    subst hbox
    exact (RowV.nil ty).src
  | some g =>
    rw [hg] at ho hbox
    obtain ⟨c, vs, T', rfl, hc, hh, _⟩ := ho
    obtain ⟨vs', T'', hh', harr, _⟩ := hbox
    rw [hh] at hh'; cases hh'
    refine src_of_cells rfl fun i x hi => ?_
    obtain ⟨es, h1, h2⟩ := harr i x hi
    exact ⟨_, es, rfl, h1, fun j v hv => by rw [add_plain, cell_blk hh, Nat.zero_add]; exact h2 j v hv⟩

theorem rowOf_src (hM : Mem w Pr B β) {want : Option Ty} {c : Cell} {y : Value} {p : (Σ ty : Ty, List ty.den) × Option Nat} (hc : CellR w Pr B β c y) (e : rowOf B want c = some p) : SrcR P w Pr p.1.1 p.1.2 y := by
  unfold rowOf at e
  split at e
  · rename_i ty xs
    obtain rfl := Option.some.inj e
    obtain ⟨A, n, c, rfl, hr⟩ := hc
    exact hr.src
  · rename_i b
    simp only [Option.bind_eq_some_iff] at e
    obtain ⟨bx, hb, e⟩ := e
    split at e
    · rename_i ro ty xs
      obtain rfl := Option.some.inj e
      obtain ⟨_, bx, hb', ho⟩ := hc
      rw [hb] at hb'; obtain rfl := Option.some.inj hb'
      exact own_src hM hb (ho _ _ _ rfl)
    · cases e
  · rename_i b off n
    simp only [Option.bind_eq_some_iff] at e
    obtain ⟨bx, hb, e⟩ := e
    split at e
    · rename_i ro ty xs
      obtain rfl := Option.some.inj e
      obtain ⟨A, cc, rfl, hcap, bx, hb', ho⟩ := hc
      rw [hb] at hb'; obtain rfl := Option.some.inj hb'
      obtain ⟨h1, h2⟩ := ho _ _ _ rfl
      have hbox := hM.box b _ hb
      unfold BXR at hbox
      refine src_of_cells (by simp; omega) fun i x hi => ?_
      simp only at hi
      rw [List.getElem?_take] at hi
      split at hi
      · rename_i hlt
        rw [List.getElem?_drop] at hi
        obtain ⟨g, hg, rfl, _⟩ := h2 (by omega)
        rw [hg] at hbox
        obtain ⟨vs, T', hh, harr, _⟩ := hbox
        obtain ⟨es, h3, h4⟩ := harr _ x hi
        refine ⟨_, es, rfl, h3, fun j v hv => ?_⟩
        rw [add_plain, cell_blk hh]
        have e : off * ty.size + (i * ty.size + j) = (off + i) * ty.size + j := by rw [Nat.add_mul, Nat.add_assoc]
        rw [e]
        exact h4 j v hv
      · cases hi
    · cases e
  · simp only [Option.map_eq_some_iff] at e
    obtain ⟨ty, _, rfl⟩ := e
    obtain ⟨rfl, _⟩ := hc
    exact (RowV.nil ty).src
  · cases e

theorem bytes_src (s : ByteArray) : SrcR P w Pr (.int .u8) (bytesOf s) (.string s) := by
  have hsz : (bytesOf s).length = s.size := by simp [bytesOf]
  refine ⟨s.data.toList.map fun b => .int .u8 b.toNat, ⟨by simp [bytesOf, Ty.size], fun i x hi => ⟨[.int .u8 x], rfl, fun j v hv => ?_⟩⟩, ?_⟩
  · cases j with
    | succ j => simp at hv
    | zero =>
      simp only [List.getElem?_cons_zero, Option.some.injEq] at hv
      subst hv
      simp only [bytesOf, List.getElem?_map, Option.map_eq_some_iff] at hi
      obtain ⟨b, hb, rfl⟩ := hi
      simp [Ty.size, hb]
  · intro w1 _
    refine ⟨by rw [hsz]; rfl, ?_⟩
    simp only [Builtin.firstCells, hsz, Sem.run_pure]
    congr 1
    apply Array.toList_inj.1
    simp

/-- A box is told under a new name, over the same block. -/
theorem Step.move {w' : World} (h : Mem w Pr B β) {b k g : Nat} {x y : BX} (hb : B b = some x) (hl0 : x ≠ .gone) (hg : β b = some g) (hk : B k = none) (hso : SameOut w w')
    (hw : ∀ i, i ≠ g → w'.heap[i]? = w.heap[i]?) (hz : w'.heap.size = w.heap.size) (hsh : Shape w w') (hkp : Keep Pr w w')
    (hx : Ext B β (putB (putB B b .gone) k y) (putβ β k (some g)) → BXR w' Pr (putB (putB B b .gone) k y) (putβ β k (some g)) k y) :
    Step w Pr B β w' Pr (putB (putB B b .gone) k y) (putβ β k (some g)) := by
  have hne : b ≠ k := by rintro rfl; rw [hk] at hb; cases hb
  have he : Ext B β (putB (putB B b .gone) k y) (putβ β k (some g)) :=
    (Ext.put (β := β) hb (y := .gone) (by cases x <;> trivial)).trans (Ext.new (by simp [putB, Ne.symm hne, hk]) y (some g))
  have hcase : ∀ c cx, putB (putB B b .gone) k y c = some cx → cx ≠ .gone → c = k ∨ (c ≠ k ∧ c ≠ b ∧ B c = some cx) := by
    intro c cx hc hcl
    by_cases e : c = k
    · exact .inl e
    · by_cases e' : c = b
      · subst e'; simp [putB, e] at hc; exact absurd hc.symm hcl
      · simp [putB, e, e'] at hc; exact .inr ⟨e, e', hc⟩
  refine ⟨⟨hkp, fun _ h => h, fun _ h => .inl h, hsh, by omega, ?_, ?_, he, hso⟩, ?_, ?_, fun a ha => by rw [hz]; exact h.lt a ha⟩
  · intro i _ hn
    exact hw i (fun e => hn b x hb hl0 (by rw [hg, e]))
  · intro c cx i hc hcl hi
    rcases hcase c cx hc hcl with rfl | ⟨e, _, hc'⟩
    · simp [putβ] at hi; subst hi; exact .inr ⟨b, x, hb, hl0, hg⟩
    · simp [putβ, e] at hi; exact .inr ⟨c, cx, hc', hcl, hi⟩
  · intro c cx hc
    by_cases hcg : cx = .gone
    · subst hcg; trivial
    rcases hcase c cx hc hcg with rfl | ⟨e, e', hc'⟩
    · simp [putB] at hc; subst hc; exact hx he
    · refine BXR.ext hkp (fun _ h => h) hsh he (fun _ => by simp [putβ, e]) (fun i hi hl => ⟨hw i ?_, fun _ h _ => h⟩) (h.box c cx hc')
      rintro rfl
      exact e' (h.inj c cx b x i hc' hl hb hl0 hi hg)
  · intro c cx d dx i hc hcl hd hdl hi hi'
    rcases hcase c cx hc hcl with rfl | ⟨e, e', hc'⟩ <;> rcases hcase d dx hd hdl with rfl | ⟨f, f', hd'⟩
    · rfl
    · simp [putβ] at hi; subst hi
      simp [putβ, f] at hi'
      exact absurd (h.inj d dx b x _ hd' hdl hb hl0 hi' hg) f'
    · simp [putβ] at hi'; subst hi'
      simp [putβ, e] at hi
      exact absurd (h.inj c cx b x _ hc' hcl hb hl0 hi hg) e'
    · simp [putβ, e] at hi
      simp [putβ, f] at hi'
      exact h.inj c cx d dx i hc' hcl hd' hdl hi hi'
end
end Go.Proofs.YtfgkcnoiplojkaaDoor.VI
