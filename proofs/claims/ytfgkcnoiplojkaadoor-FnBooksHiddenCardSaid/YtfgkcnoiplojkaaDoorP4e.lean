/- Puzzles, plainly: the hidden books that fit. -/
import Derived.Test.YtfgkcnoiplojkaaDoorP4d
set_option linter.unusedSimpArgs false
set_option linter.unusedVariables false
namespace Go.Proofs.YtfgkcnoiplojkaaDoor.VI
open Go

abbrev Book := Int × Int

def fitAll (xs : List Clue) (p l : Nat) : Bool := xs.all fun c => fitsB c p l

section
variable {p l : Nat} (hp : p ≤ 40) (hl : 2 * l ≤ p) (xs : List Clue) (hx : xs.length ≤ 1000) (hok : xs.all okClue = true)
include hp hl hx hok

theorem idx_b_L : ∀ (d i k : Nat), i + d = xs.length → d < k →
    ((xs.drop i).all (fun c => fitsB c p l) = true ∧ slices_IndexFunc_impl_Clue_impl_Clue_b.L2 k (xs, (xs.length : Int), (i : Int), (p : Int), (l : Int), ()) = some (.inr ((p : Int), (l : Int), ()))) ∨
    ((xs.drop i).all (fun c => fitsB c p l) = false ∧ ∃ t : Nat, slices_IndexFunc_impl_Clue_impl_Clue_b.L2 k (xs, (xs.length : Int), (i : Int), (p : Int), (l : Int), ()) = some (.inl ((t : Int), (p : Int), (l : Int), ()))) := by
  intro d
  induction d with
  | zero =>
    intro i k hi hk
    obtain ⟨k, rfl⟩ : ∃ m, k = m + 1 := ⟨k - 1, by omega⟩
    left
    refine ⟨by rw [List.drop_eq_nil_of_le (by omega)]; rfl, ?_⟩
    show (slices_IndexFunc_impl_Clue_impl_Clue_b.T2 (slices_IndexFunc_impl_Clue_impl_Clue_b.L2 k) _).opt = _
    simp only [slices_IndexFunc_impl_Clue_impl_Clue_b.T2, M.opt_ite, decide_eq_false (show ¬ ((i : Int) < (xs.length : Int)) by omega), cond_false, M.opt_ret]
  | succ d ih =>
    intro i k hi hk
    obtain ⟨k, rfl⟩ : ∃ m, k = m + 1 := ⟨k - 1, by omega⟩
    have hlt : i < xs.length := by omega
    have hstep : slices_IndexFunc_impl_Clue_impl_Clue_b.L2 (k + 1) (xs, (xs.length : Int), (i : Int), (p : Int), (l : Int), ()) = (slices_IndexFunc_impl_Clue_impl_Clue_b.T2 (slices_IndexFunc_impl_Clue_impl_Clue_b.L2 k) (xs, (xs.length : Int), (i : Int), (p : Int), (l : Int), ())).opt := rfl
    have hc : okClue xs[i] = true := List.all_eq_true.1 hok _ (List.getElem_mem hlt)
    have hs : impl_solutions_1.g (xs[i].1, xs[i].2.1, xs[i].2.2, (p : Int), (l : Int), ()) = some (!fitsB xs[i] p l, (p : Int), (l : Int), ()) := by
      show (impl_solutions_1.T _).opt = _
      simp only [impl_solutions_1.T, M.opt_bind, M.opt_ofO, M.opt_ret, fits_impl hp hl hc, Option.bind_some]
    rw [hstep, drop_all hlt]
    simp only [slices_IndexFunc_impl_Clue_impl_Clue_b.T2, M.opt_ite, M.opt_bind, M.opt_ofO, M.opt_ret, M.opt_fail, decide_eq_true (show ((i : Int) < (xs.length : Int)) by omega), decide_eq_true (nat0 (i := i)), cond_true, Int.toNat_natCast, List.getElem?_eq_getElem hlt, Option.bind_some, hs, next_i (show i ≤ 100000 by omega)]
    cases fitsB xs[i] p l with
    | true => exact ih (i + 1) k (by omega) (by omega)
    | false => exact .inr ⟨rfl, i, rfl⟩

theorem contains_b : slices_ContainsFunc_impl_Clue_impl_Clue_b.g (xs, (p : Int), (l : Int), ()) = some (!fitAll xs p l, (p : Int), (l : Int), ()) := by
  show (slices_ContainsFunc_impl_Clue_impl_Clue_b.T _).opt = _
  have h := idx_b_L hp hl xs hx hok xs.length 0 fuel (by omega) (by have := fuel_big; omega)
  rw [List.drop_zero, show ((0 : Nat) : Int) = 0 from rfl] at h
  have hg : slices_IndexFunc_impl_Clue_impl_Clue_b.g (xs, (p : Int), (l : Int), ()) = (slices_IndexFunc_impl_Clue_impl_Clue_b.T (slices_IndexFunc_impl_Clue_impl_Clue_b.L2 fuel) (xs, (p : Int), (l : Int), ())).opt := rfl
  simp only [slices_ContainsFunc_impl_Clue_impl_Clue_b.T, M.opt_bind, M.opt_ofO, M.opt_ret, hg, slices_IndexFunc_impl_Clue_impl_Clue_b.T, fitAll]
  rcases h with ⟨h1, h2⟩ | ⟨h1, t, h2⟩
  · rw [h1, h2]; rfl
  · rw [h1, h2]
    simp only [Option.bind_some, M.opt_sum, M.opt_ret]
    rw [decide_eq_true (show (t : Int) ≥ 0 by omega)]; rfl

theorem all_L (h1 : 1 ≤ l) (q1 : List Clue) (q2 q3 : Int) (b0 : List Book) : ∀ (d i k : Nat) (f : Bool), i + d = xs.length → d < k →
    spec_pzAll.L11 k (q1, q2, q3, f, xs, (xs.length : Int), (i : Int), b0, (p : Int), (l : Int), ()) = some (q1, q2, q3, f && (xs.drop i).all (fun c => fitsB c p l), b0, (p : Int), (l : Int), ()) := by
  intro d
  induction d with
  | zero =>
    intro i k f hi hk
    obtain ⟨k, rfl⟩ : ∃ m, k = m + 1 := ⟨k - 1, by omega⟩
    rw [List.drop_eq_nil_of_le (by omega)]
    show (spec_pzAll.T11 (spec_pzAll.L11 k) _).opt = _
    simp only [spec_pzAll.T11, M.opt_ite, decide_eq_false (show ¬ ((i : Int) < (xs.length : Int)) by omega), cond_false, M.opt_ret, List.all_nil, Bool.and_true]
  | succ d ih =>
    intro i k f hi hk
    obtain ⟨k, rfl⟩ : ∃ m, k = m + 1 := ⟨k - 1, by omega⟩
    have hlt : i < xs.length := by omega
    have hc : okClue xs[i] = true := List.all_eq_true.1 hok _ (List.getElem_mem hlt)
    show (spec_pzAll.T11 (spec_pzAll.L11 k) _).opt = _
    rw [drop_all hlt]
    simp only [spec_pzAll.T11, M.opt_ite, M.opt_bind, M.opt_ofO, M.opt_ret, M.opt_fail, decide_eq_true (show ((i : Int) < (xs.length : Int)) by omega), decide_eq_true (nat0 (i := i)), cond_true, Int.toNat_natCast, List.getElem?_eq_getElem hlt, Option.bind_some, fits_spec hp h1 hl hc, next_i (show i ≤ 100000 by omega)]
    cases f with
    | true => rw [cond_true, ih (i + 1) k _ (by omega) (by omega)]; rfl
    | false => rw [cond_false, ih (i + 1) k _ (by omega) (by omega)]; rfl
end

/-- The books with p pages that fit, from leaf l on. -/
def inn (xs : List Clue) (p : Nat) : Nat → Nat → List Book
  | 0, _ => []
  | d + 1, l => (bif fitAll xs p l then [((p : Int), (l : Int))] else []) ++ inn xs p d (l + 1)

def outn (xs : List Clue) : Nat → Nat → List Book
  | 0, _ => []
  | d + 1, p => inn xs p (p / 2) 1 ++ outn xs d (p + 1)

/-- All solutions. -/
def sols (xs : List Clue) : List Book := outn xs 39 2

theorem inn_length (xs : List Clue) (p : Nat) : ∀ d l, (inn xs p d l).length ≤ d
  | 0, _ => Nat.le_refl _
  | d + 1, l => by
    have := inn_length xs p d (l + 1)
    simp only [inn, List.length_append]
    cases fitAll xs p l <;> simp <;> omega

theorem outn_length (xs : List Clue) : ∀ d p, d + p ≤ 41 → (outn xs d p).length ≤ 20 * d
  | 0, _, _ => Nat.le_refl _
  | d + 1, p, h => by
    have h1 := outn_length xs d (p + 1) (by omega)
    have h2 := inn_length xs p (p / 2) 1
    simp only [outn, List.length_append]
    omega

theorem sols_length (xs : List Clue) : (sols xs).length ≤ 780 := outn_length xs 39 2 (by omega)

theorem half_p {p : Nat} (h : p ≤ 40) : W (Int.tdiv (p : Int) 2) = ((p / 2 : Nat) : Int) := by
  rw [tdiv_nn (by omega), W_eq (by omega) (by omega)]; omega

theorem room1 {α : Type} {b : List α} {x : α} {e : Nat} (h : b.length ≤ 2000) (he : e ≤ 1000) : room (List.length b + List.length [x]) e = true := by
  refine room_ok ?_
  rw [List.length_singleton]
  calc (b.length + 1) * e ≤ 2001 * 1000 := Nat.mul_le_mul (by omega) he
    _ ≤ 140737488355328 := by decide

section
variable (xs : List Clue) (hx : xs.length ≤ 1000) (hok : xs.all okClue = true)
include hx hok

theorem inn_impl {p : Nat} (hp : p ≤ 40) : ∀ (d l k : Nat) (b0 : List Book), l + d = p / 2 + 1 → d < k → 1 ≤ l → b0.length + d ≤ 1000 →
    impl_solutions.L6 k (xs, (p : Int), (l : Int), b0, ()) = some (xs, (p : Int), b0 ++ inn xs p d l, ()) := by
  intro d
  induction d with
  | zero =>
    intro l k b0 hi hk h1 hb
    obtain ⟨k, rfl⟩ : ∃ m, k = m + 1 := ⟨k - 1, by omega⟩
    show (impl_solutions.T6 (impl_solutions.L6 k) _).opt = _
    simp only [impl_solutions.T6, M.opt_ite, half_p hp, decide_eq_false (show ¬ ((l : Int) ≤ ((p / 2 : Nat) : Int)) by omega), cond_false, M.opt_ret, inn, List.append_nil]
  | succ d ih =>
    intro l k b0 hi hk h1 hb
    obtain ⟨k, rfl⟩ : ∃ m, k = m + 1 := ⟨k - 1, by omega⟩
    show (impl_solutions.T6 (impl_solutions.L6 k) _).opt = _
    simp only [impl_solutions.T6, M.opt_ite, M.opt_bind, M.opt_ofO, M.opt_fail, half_p hp, decide_eq_true (show ((l : Int) ≤ ((p / 2 : Nat) : Int)) by omega), cond_true, contains_b hp (show 2 * l ≤ p by omega) xs hx hok, Option.bind_some, Bool.not_not, next_i (show l ≤ 100000 by omega), inn]
    rw [room1 (by omega) (by omega)]
    cases fitAll xs p l with
    | true => rw [cond_true, cond_true, cond_true, ih (l + 1) k _ (by omega) (by omega) (by omega) (by simp; omega)]; simp
    | false => rw [cond_false, cond_false, ih (l + 1) k _ (by omega) (by omega) (by omega) (by omega)]; simp

theorem outn_impl : ∀ (d p k : Nat) (b0 : List Book), p + d = 41 → d + 30 < k → b0.length + 20 * d ≤ 1000 →
    impl_solutions.L3 k (xs, (p : Int), b0, ()) = some (xs, (41 : Int), b0 ++ outn xs d p, ()) := by
  intro d
  induction d with
  | zero =>
    intro p k b0 hi hk hb
    obtain ⟨k, rfl⟩ : ∃ m, k = m + 1 := ⟨k - 1, by omega⟩
    obtain rfl : p = 41 := by omega
    show (impl_solutions.T3 (impl_solutions.L6 k) (impl_solutions.L3 k) _).opt = _
    simp only [impl_solutions.T3, M.opt_ite, decide_eq_false (show ¬ (((41 : Nat) : Int) ≤ 40) by omega), cond_false, M.opt_ret, outn, List.append_nil]
    rfl
  | succ d ih =>
    intro p k b0 hi hk hb
    obtain ⟨k, rfl⟩ : ∃ m, k = m + 1 := ⟨k - 1, by omega⟩
    show (impl_solutions.T3 (impl_solutions.L6 k) (impl_solutions.L3 k) _).opt = _
    have h := inn_impl xs hx hok (p := p) (by omega) (p / 2) 1 k b0 (by omega) (by omega) (by omega) (by omega)
    rw [show ((1 : Nat) : Int) = 1 from rfl] at h
    have hil := inn_length xs p (p / 2) 1
    simp only [impl_solutions.T3, M.opt_ite, M.opt_bind, M.opt_ofO, decide_eq_true (show ((p : Int) ≤ 40) by omega), cond_true, h, Option.bind_some, next_i (show p ≤ 100000 by omega)]
    rw [ih (p + 1) k _ (by omega) (by omega) (by simp; omega)]
    simp [outn]

theorem solutions_impl : impl_solutions.g (xs, ()) = some (sols xs, ()) := by
  show (impl_solutions.T (impl_solutions.L3 fuel) _).opt = _
  have h := outn_impl xs hx hok 39 2 fuel [] (by omega) (by have := fuel_big; omega) (by simp)
  rw [show ((2 : Nat) : Int) = 2 from rfl, List.nil_append] at h
  simp only [impl_solutions.T, M.opt_bind, M.opt_ofO, M.opt_ret, h, Option.bind_some]
  rfl

theorem inn_spec {p : Nat} (hp : p ≤ 40) : ∀ (d l k : Nat) (b0 : List Book), l + d = p / 2 + 1 → d + 1000 < k → 1 ≤ l → b0.length + d ≤ 1000 →
    spec_pzAll.L6 k (xs, (p : Int), (l : Int), b0, ()) = some (xs, (p : Int), ((p / 2 + 1 : Nat) : Int), b0 ++ inn xs p d l, ()) := by
  intro d
  induction d with
  | zero =>
    intro l k b0 hi hk h1 hb
    obtain ⟨k, rfl⟩ : ∃ m, k = m + 1 := ⟨k - 1, by omega⟩
    obtain rfl : l = p / 2 + 1 := by omega
    show (spec_pzAll.T6 (spec_pzAll.L11 k) (spec_pzAll.L6 k) _).opt = _
    simp only [spec_pzAll.T6, M.opt_ite, half_p hp, decide_eq_false (show ¬ (((p / 2 + 1 : Nat) : Int) ≤ ((p / 2 : Nat) : Int)) by omega), cond_false, M.opt_ret, inn, List.append_nil]
  | succ d ih =>
    intro l k b0 hi hk h1 hb
    obtain ⟨k, rfl⟩ : ∃ m, k = m + 1 := ⟨k - 1, by omega⟩
    show (spec_pzAll.T6 (spec_pzAll.L11 k) (spec_pzAll.L6 k) _).opt = _
    have h := all_L hp (show 2 * l ≤ p by omega) xs hx hok h1 xs (p : Int) (l : Int) b0 xs.length 0 k true (by omega) (by omega)
    rw [show ((0 : Nat) : Int) = 0 from rfl, List.drop_zero, Bool.true_and] at h
    simp only [spec_pzAll.T6, M.opt_ite, M.opt_bind, M.opt_ofO, M.opt_fail, half_p hp, decide_eq_true (show ((l : Int) ≤ ((p / 2 : Nat) : Int)) by omega), cond_true, h, Option.bind_some, next_i (show l ≤ 100000 by omega), inn]
    rw [room1 (by omega) (by omega), show (xs.all fun c => fitsB c p l) = fitAll xs p l from rfl]
    cases fitAll xs p l with
    | true => rw [cond_true, cond_true, cond_true, ih (l + 1) k _ (by omega) (by omega) (by omega) (by simp; omega)]; simp
    | false => rw [cond_false, cond_false, ih (l + 1) k _ (by omega) (by omega) (by omega) (by omega)]; simp

theorem outn_spec : ∀ (d p k : Nat) (b0 : List Book), p + d = 41 → d + 1030 < k → b0.length + 20 * d ≤ 1000 →
    spec_pzAll.L3 k (xs, (p : Int), b0, ()) = some (xs, (41 : Int), b0 ++ outn xs d p, ()) := by
  intro d
  induction d with
  | zero =>
    intro p k b0 hi hk hb
    obtain ⟨k, rfl⟩ : ∃ m, k = m + 1 := ⟨k - 1, by omega⟩
    obtain rfl : p = 41 := by omega
    show (spec_pzAll.T3 (spec_pzAll.L6 k) (spec_pzAll.L3 k) _).opt = _
    simp only [spec_pzAll.T3, M.opt_ite, decide_eq_false (show ¬ (((41 : Nat) : Int) ≤ 40) by omega), cond_false, M.opt_ret, outn, List.append_nil]
    rfl
  | succ d ih =>
    intro p k b0 hi hk hb
    obtain ⟨k, rfl⟩ : ∃ m, k = m + 1 := ⟨k - 1, by omega⟩
    show (spec_pzAll.T3 (spec_pzAll.L6 k) (spec_pzAll.L3 k) _).opt = _
    have h := inn_spec xs hx hok (p := p) (by omega) (p / 2) 1 k b0 (by omega) (by omega) (by omega) (by omega)
    rw [show ((1 : Nat) : Int) = 1 from rfl] at h
    have hil := inn_length xs p (p / 2) 1
    simp only [spec_pzAll.T3, M.opt_ite, M.opt_bind, M.opt_ofO, decide_eq_true (show ((p : Int) ≤ 40) by omega), cond_true, h, Option.bind_some, next_i (show p ≤ 100000 by omega)]
    rw [ih (p + 1) k _ (by omega) (by omega) (by simp; omega)]
    simp [outn]

theorem solutions_spec : spec_pzAll.g (xs, ()) = some (sols xs, ()) := by
  show (spec_pzAll.T (spec_pzAll.L3 fuel) _).opt = _
  have h := outn_spec xs hx hok 39 2 fuel [] (by omega) (by have := fuel_big; omega) (by simp)
  rw [show ((2 : Nat) : Int) = 2 from rfl, List.nil_append] at h
  simp only [spec_pzAll.T, M.opt_bind, M.opt_ofO, M.opt_ret, h, Option.bind_some]
  rfl
end

/-- All hidden books. -/
def fit1 (xs : List Clue) (h : Book) : Bool := fitAll xs h.1.toNat h.2.toNat

theorem inn_filter (xs : List Clue) (p : Nat) : ∀ d l, inn xs p d l = (inn [] p d l).filter (fit1 xs)
  | 0, _ => rfl
  | d + 1, l => by
    simp only [inn]
    rw [inn_filter xs p d (l + 1), show fitAll [] p l = true from rfl, cond_true, List.filter_append]
    have : (bif fitAll xs p l then [((p : Int), (l : Int))] else []) = List.filter (fit1 xs) [((p : Int), (l : Int))] := by
      simp only [List.filter, fit1, Int.toNat_natCast]
      cases fitAll xs p l <;> rfl
    rw [this]

theorem outn_filter (xs : List Clue) : ∀ d p, outn xs d p = (outn [] d p).filter (fit1 xs)
  | 0, _ => rfl
  | d + 1, p => by
    simp only [outn]
    rw [outn_filter xs d (p + 1), inn_filter xs p (p / 2) 1, List.filter_append]

theorem sols_filter (xs : List Clue) : sols xs = (sols []).filter (fit1 xs) := outn_filter xs 39 2

end Go.Proofs.YtfgkcnoiplojkaaDoor.VI
