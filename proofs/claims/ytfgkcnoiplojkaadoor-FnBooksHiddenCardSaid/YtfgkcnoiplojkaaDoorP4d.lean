/- Puzzles, plainly: clues, puzzles and what fits them are the same by both. -/
import Derived.Test.YtfgkcnoiplojkaaDoorP4c
set_option linter.unusedSimpArgs false
set_option linter.unusedVariables false
namespace Go.Proofs.YtfgkcnoiplojkaaDoor.VI
open Go

abbrev Clue := Int × Int × Int

theorem fuel_succ : ∃ m, fuel = m + 1 := ⟨_, fuel_eq⟩

theorem nat0 {i : Nat} : (0 : Int) ≤ (i : Int) := Int.natCast_nonneg i

def okClue (c : Clue) : Bool :=
  inR c.2.2 0 1000 && (bif c.1 == 0 || (c.1 == 1 || c.1 == 5) then c.2.1 == 0 else bif c.1 == 2 then inR c.2.1 0 9 else bif c.1 == 3 then inR c.2.1 1 40 && decide (c.2.2 ≤ 1) else bif c.1 == 4 then inR c.2.1 2 9 && decide (c.2.2 ≤ 1) else false)

theorem isClue_impl (c : Clue) : impl_IsClue.g (c.1, c.2.1, c.2.2, ()) = some (okClue c, ()) := by
  obtain ⟨k, a, b⟩ := c
  show (impl_IsClue.T (impl_IsClue.L7j fuel) _).opt = _
  obtain ⟨m, hm⟩ := fuel_succ
  rw [hm]
  have hj : ∀ t9, impl_IsClue.L7j (m + 1) (k, t9, k, a, b, ()) = (impl_IsClue.T7j (k, t9, k, a, b, ())).opt := fun _ => rfl
  simp only [impl_IsClue.T, M.opt_bind, M.opt_ofO, M.opt_ite, M.opt_ret, within_g, Option.bind_some, hj, impl_IsClue.T7j, M.opt_sum, okClue]
  cases inR b 0 1000 with
  | false => rfl
  | true =>
    cases k == 0 with
    | true => rfl
    | false =>
      cases k == 1 with
      | true => rfl
      | false =>
        cases k == 5 with
        | true => rfl
        | false =>
          cases k == 2 with
          | true => rfl
          | false =>
            cases k == 3 with
            | true => cases inR a 1 40 <;> rfl
            | false =>
              cases k == 4 with
              | true => cases inR a 2 9 <;> rfl
              | false => rfl

theorem isClue_spec (c : Clue) : spec_pzClue.g (c.1, c.2.1, c.2.2, ()) = some (okClue c, ()) := by
  obtain ⟨k, a, b⟩ := c
  show (spec_pzClue.T (spec_pzClue.L7j fuel) _).opt = _
  obtain ⟨m, hm⟩ := fuel_succ
  rw [hm]
  have hj : ∀ t9, spec_pzClue.L7j (m + 1) (k, t9, k, a, b, ()) = (spec_pzClue.T7j (k, t9, k, a, b, ())).opt := fun _ => rfl
  have hlt : decide (b < 2) = decide (b ≤ 1) := by
    by_cases h : b ≤ 1
    · rw [decide_eq_true h, decide_eq_true (by omega)]
    · rw [decide_eq_false h, decide_eq_false (by omega)]
  simp only [spec_pzClue.T, M.opt_bind, M.opt_ofO, M.opt_ite, M.opt_ret, l1In_g, Option.bind_some, hj, spec_pzClue.T7j, M.opt_sum, okClue, hlt]
  cases inR b 0 1000 with
  | false => rfl
  | true =>
    cases k == 0 with
    | true => rfl
    | false =>
      cases k == 1 with
      | true => rfl
      | false =>
        cases k == 5 with
        | true => rfl
        | false =>
          cases k == 2 with
          | true => rfl
          | false =>
            cases k == 3 with
            | true => cases inR a 1 40 <;> rfl
            | false =>
              cases k == 4 with
              | true => cases inR a 2 9 <;> rfl
              | false => rfl

theorem isClue_law (c : Clue) : spec_IsClue.g (c.1, c.2.1, c.2.2, ()) = some (okClue c, ()) := by
  show (spec_IsClue.T _).opt = _
  simp only [spec_IsClue.T, M.opt_bind, M.opt_ofO, M.opt_ret, isClue_spec, Option.bind_some]

theorem okClue_nat {c : Clue} (h : okClue c = true) : ∃ kind a : Nat, c.1 = kind ∧ c.2.1 = a ∧ kind < 6 ∧ (kind = 2 → a < 10) ∧ (kind = 0 ∨ kind = 1 ∨ kind = 5 → a = 0) ∧ (kind = 4 → 2 ≤ a) := by
  obtain ⟨k, a, b⟩ := c
  simp only [okClue, Bool.and_eq_true] at h
  obtain ⟨_, h⟩ := h
  by_cases h0 : k = 0
  · subst h0; simp at h; subst h; exact ⟨0, 0, rfl, rfl, by omega, by omega, by omega, by omega⟩
  by_cases h1 : k = 1
  · subst h1; simp at h; subst h; exact ⟨1, 0, rfl, rfl, by omega, by omega, by omega, by omega⟩
  by_cases h5 : k = 5
  · subst h5; simp at h; subst h; exact ⟨5, 0, rfl, rfl, by omega, by omega, by omega, by omega⟩
  by_cases h2 : k = 2
  · subst h2; simp [inR_iff] at h; exact ⟨2, a.toNat, rfl, (by show a = _; omega), by omega, by omega, by omega, by omega⟩
  by_cases h3 : k = 3
  · subst h3; simp [inR_iff] at h; exact ⟨3, a.toNat, rfl, (by show a = _; omega), by omega, by omega, by omega, by omega⟩
  by_cases h4 : k = 4
  · subst h4; simp [inR_iff] at h; exact ⟨4, a.toNat, rfl, (by show a = _; omega), by omega, by omega, by omega, by omega⟩
  simp [h0, h1, h2, h3, h4, h5] at h

def fitsB (c : Clue) (p l : Nat) : Bool := tellsN c.1.toNat c.2.1.toNat p l == c.2.2

section
variable {p l : Nat} (hp : p ≤ 40) (h1 : 1 ≤ l) (hl : 2 * l ≤ p)
include hp hl

theorem fits_impl {c : Clue} (h : okClue c = true) : impl_Hidden_fits.g ((p : Int), (l : Int), c.1, c.2.1, c.2.2, ()) = some (fitsB c p l, ()) := by
  obtain ⟨kind, a, hk, ha, h6, a1, a2, a3⟩ := okClue_nat h
  show (impl_Hidden_fits.T _).opt = _
  simp only [impl_Hidden_fits.T, M.opt_bind, M.opt_ofO, M.opt_ret, fitsB]
  rw [hk, ha, tells_g h6 a1 a2 a3 hp hl]
  rfl

include h1
theorem fits_spec {c : Clue} (h : okClue c = true) : spec_pzFits.g (c.1, c.2.1, c.2.2, (p : Int), (l : Int), ()) = some (fitsB c p l, ()) := by
  obtain ⟨kind, a, hk, ha, h6, a1, a2, a3⟩ := okClue_nat h
  show (spec_pzFits.T _).opt = _
  simp only [spec_pzFits.T, M.opt_bind, M.opt_ofO, M.opt_ret, fitsB]
  rw [hk, ha, pzValue_g h6 a1 a2 a3 hp h1 hl]
  rfl
end

theorem drop_all {α : Type} {xs : List α} {f : α → Bool} {i : Nat} (h : i < xs.length) : (xs.drop i).all f = (f xs[i] && (xs.drop (i + 1)).all f) := by
  rw [List.drop_eq_getElem_cons h]; rfl

theorem next_i {i : Nat} (h : i ≤ 100000) : W ((i : Int) + 1) = ((i + 1 : Nat) : Int) := by rw [W_eq (by omega) (by omega)]; omega

theorem idx_a_L (xs : List Clue) (hx : xs.length ≤ 1000) : ∀ (d i k : Nat), i + d = xs.length → d < k →
    ((xs.drop i).all okClue = true ∧ slices_IndexFunc_impl_Clue_impl_Clue_a.L2 k (xs, (xs.length : Int), (i : Int), ()) = some (.inr ())) ∨
    ((xs.drop i).all okClue = false ∧ ∃ t : Nat, slices_IndexFunc_impl_Clue_impl_Clue_a.L2 k (xs, (xs.length : Int), (i : Int), ()) = some (.inl ((t : Int), ()))) := by
  intro d
  induction d with
  | zero =>
    intro i k hi hk
    obtain ⟨k, rfl⟩ : ∃ m, k = m + 1 := ⟨k - 1, by omega⟩
    left
    refine ⟨by rw [List.drop_eq_nil_of_le (by omega)]; rfl, ?_⟩
    show (slices_IndexFunc_impl_Clue_impl_Clue_a.T2 (slices_IndexFunc_impl_Clue_impl_Clue_a.L2 k) _).opt = _
    simp only [slices_IndexFunc_impl_Clue_impl_Clue_a.T2, M.opt_ite, decide_eq_false (show ¬ ((i : Int) < (xs.length : Int)) by omega), cond_false, M.opt_ret]
  | succ d ih =>
    intro i k hi hk
    obtain ⟨k, rfl⟩ : ∃ m, k = m + 1 := ⟨k - 1, by omega⟩
    have hlt : i < xs.length := by omega
    have hstep : slices_IndexFunc_impl_Clue_impl_Clue_a.L2 (k + 1) (xs, (xs.length : Int), (i : Int), ()) = (slices_IndexFunc_impl_Clue_impl_Clue_a.T2 (slices_IndexFunc_impl_Clue_impl_Clue_a.L2 k) (xs, (xs.length : Int), (i : Int), ())).opt := rfl
    have hp : ∀ c : Clue, impl_IsPuzzle_1.g (c.1, c.2.1, c.2.2, ()) = some (!okClue c, ()) := by
      intro c
      show (impl_IsPuzzle_1.T _).opt = _
      simp only [impl_IsPuzzle_1.T, M.opt_bind, M.opt_ofO, M.opt_ret, isClue_impl, Option.bind_some]
    rw [hstep, drop_all hlt]
    simp only [slices_IndexFunc_impl_Clue_impl_Clue_a.T2, M.opt_ite, M.opt_bind, M.opt_ofO, M.opt_ret, M.opt_fail, decide_eq_true (show ((i : Int) < (xs.length : Int)) by omega), decide_eq_true (nat0 (i := i)), cond_true, Int.toNat_natCast, List.getElem?_eq_getElem hlt, Option.bind_some, hp, next_i (show i ≤ 100000 by omega)]
    cases okClue xs[i] with
    | true => exact ih (i + 1) k (by omega) (by omega)
    | false => exact .inr ⟨rfl, i, rfl⟩

theorem contains_a (xs : List Clue) (hx : xs.length ≤ 1000) : slices_ContainsFunc_impl_Clue_impl_Clue_a.g (xs, ()) = some (!xs.all okClue, ()) := by
  show (slices_ContainsFunc_impl_Clue_impl_Clue_a.T _).opt = _
  have h := idx_a_L xs hx xs.length 0 fuel (by omega) (by have := fuel_big; omega)
  rw [List.drop_zero, show ((0 : Nat) : Int) = 0 from rfl] at h
  have hg : slices_IndexFunc_impl_Clue_impl_Clue_a.g (xs, ()) = (slices_IndexFunc_impl_Clue_impl_Clue_a.T (slices_IndexFunc_impl_Clue_impl_Clue_a.L2 fuel) (xs, ())).opt := rfl
  simp only [slices_ContainsFunc_impl_Clue_impl_Clue_a.T, M.opt_bind, M.opt_ofO, M.opt_ret, hg, slices_IndexFunc_impl_Clue_impl_Clue_a.T]
  rcases h with ⟨h1, h2⟩ | ⟨h1, t, h2⟩
  · rw [h1, h2]; rfl
  · rw [h1, h2]
    simp only [Option.bind_some, M.opt_sum, M.opt_ret]
    rw [decide_eq_true (show (t : Int) ≥ 0 by omega)]; rfl

def okPz (xs : List Clue) : Bool := decide (xs.length ≤ 6) && xs.all okClue

theorem isPuzzle_impl (xs : List Clue) (hx : xs.length ≤ 1000) : impl_IsPuzzle.g (xs, ()) = some (okPz xs, ()) := by
  show (impl_IsPuzzle.T _).opt = _
  simp only [impl_IsPuzzle.T, M.opt_bind, M.opt_ofO, M.opt_ite, M.opt_ret, contains_a xs hx, Option.bind_some, Bool.not_not, okPz]
  by_cases h : xs.length ≤ 6
  · rw [decide_eq_true h, decide_eq_true (show (xs.length : Int) ≤ 6 by omega)]; rfl
  · rw [decide_eq_false h, decide_eq_false (show ¬ (xs.length : Int) ≤ 6 by omega)]; rfl

theorem good_L (xs : List Clue) (hx : xs.length ≤ 1000) : ∀ (d i k : Nat), i + d = xs.length → d < k →
    spec_pzGood.L4 k (xs, (xs.length : Int), (i : Int), ()) = some (bif (xs.drop i).all okClue then .inr () else .inl (false, ())) := by
  intro d
  induction d with
  | zero =>
    intro i k hi hk
    obtain ⟨k, rfl⟩ : ∃ m, k = m + 1 := ⟨k - 1, by omega⟩
    rw [List.drop_eq_nil_of_le (by omega)]
    show (spec_pzGood.T4 (spec_pzGood.L4 k) _).opt = _
    simp only [spec_pzGood.T4, M.opt_ite, decide_eq_false (show ¬ ((i : Int) < (xs.length : Int)) by omega), cond_false, M.opt_ret]
    rfl
  | succ d ih =>
    intro i k hi hk
    obtain ⟨k, rfl⟩ : ∃ m, k = m + 1 := ⟨k - 1, by omega⟩
    have hlt : i < xs.length := by omega
    show (spec_pzGood.T4 (spec_pzGood.L4 k) _).opt = _
    rw [drop_all hlt]
    simp only [spec_pzGood.T4, M.opt_ite, M.opt_bind, M.opt_ofO, M.opt_ret, M.opt_fail, decide_eq_true (show ((i : Int) < (xs.length : Int)) by omega), decide_eq_true (nat0 (i := i)), cond_true, Int.toNat_natCast, List.getElem?_eq_getElem hlt, Option.bind_some, isClue_spec, next_i (show i ≤ 100000 by omega)]
    cases okClue xs[i] with
    | true => exact ih (i + 1) k (by omega) (by omega)
    | false => rfl

theorem good_g (xs : List Clue) (hx : xs.length ≤ 1000) : spec_pzGood.g (xs, ()) = some (okPz xs, ()) := by
  show (spec_pzGood.T (spec_pzGood.L4 fuel) _).opt = _
  have h := good_L xs hx xs.length 0 fuel (by omega) (by have := fuel_big; omega)
  rw [List.drop_zero, show ((0 : Nat) : Int) = 0 from rfl] at h
  simp only [spec_pzGood.T, M.opt_bind, M.opt_ofO, M.opt_ite, M.opt_ret, h, Option.bind_some, okPz]
  by_cases h6 : xs.length ≤ 6
  · rw [decide_eq_true h6, decide_eq_false (show ¬ (xs.length : Int) > 6 by omega)]
    cases xs.all okClue <;> rfl
  · rw [decide_eq_false h6, decide_eq_true (show (xs.length : Int) > 6 by omega)]; rfl

end Go.Proofs.YtfgkcnoiplojkaaDoor.VI
