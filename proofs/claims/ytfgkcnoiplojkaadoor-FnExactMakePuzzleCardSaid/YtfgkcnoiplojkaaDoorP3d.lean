/- Made puzzles, plainly: the law answers true. -/
import Derived.Test.YtfgkcnoiplojkaaDoorP3c
namespace Go.Proofs.YtfgkcnoiplojkaaDoor.VI
open Go

theorem eqClue_g (x : Int × Int × Int) : laws_eqClue.g (x.1, x.2.1, x.2.2, x.1, x.2.1, x.2.2, ()) = some (true, ()) := by
  show (laws_eqClue.T _).opt = _
  simp [laws_eqClue.T, M.opt_ite, M.opt_ret]

theorem nat_int {i : Nat} : (0 : Int) ≤ (i : Int) := Int.natCast_nonneg i

theorem eqClue_L (xs : List (Int × Int × Int)) (hx : xs.length ≤ 1000) : ∀ (d i k : Nat), i + d = xs.length → d < k → laws_eqClueS.L4 k (xs, xs, (i : Int), ()) = some (.inr ()) := by
  intro d
  induction d with
  | zero =>
    intro i k hi hk
    obtain ⟨k, rfl⟩ : ∃ m, k = m + 1 := ⟨k - 1, by omega⟩
    show (laws_eqClueS.T4 (laws_eqClueS.L4 k) _).opt = _
    simp only [laws_eqClueS.T4, M.opt_ite, decide_eq_false (show ¬ ((i : Int) < (xs.length : Int)) by omega), cond_false, M.opt_ret]
  | succ d ih =>
    intro i k hi hk
    obtain ⟨k, rfl⟩ : ∃ m, k = m + 1 := ⟨k - 1, by omega⟩
    show (laws_eqClueS.T4 (laws_eqClueS.L4 k) _).opt = _
    have hlt : i < xs.length := by omega
    have h1 : W ((i : Int) + 1) = ((i + 1 : Nat) : Int) := by rw [W_eq (by omega) (by omega)]; omega
    simp only [laws_eqClueS.T4, M.opt_ite, M.opt_bind, M.opt_ofO, M.opt_ret, M.opt_fail, decide_eq_true (show ((i : Int) < (xs.length : Int)) by omega), decide_eq_true (nat_int (i := i)), cond_true, Int.toNat_natCast, List.getElem?_eq_getElem hlt, Option.bind_some, eqClue_g, Bool.not_true, cond_false, h1]
    exact ih (i + 1) k (by omega) (by omega)

theorem eqPuzzle_g (xs : List (Int × Int × Int)) (hx : xs.length ≤ 1000) : laws_eqPuzzle.g (xs, xs, ()) = some (true, ()) := by
  have h := eqClue_L xs hx xs.length 0 fuel (by omega) (by have := fuel_big; omega)
  have h2 : laws_eqClueS.g (xs, xs, ()) = some (true, ()) := by
    show (laws_eqClueS.T (laws_eqClueS.L4 fuel) _).opt = _
    have : (((xs.length : Int)) != ((xs.length : Int))) = false := by simp
    simp only [laws_eqClueS.T, M.opt_ite, this, cond_false, M.opt_bind, M.opt_ofO]
    rw [show ((0 : Nat) : Int) = 0 from rfl] at h
    rw [h]
    rfl
  show (laws_eqPuzzle.T _).opt = _
  simp [laws_eqPuzzle.T, M.opt_bind, M.opt_ofO, M.opt_ite, M.opt_ret, h2]

/-- Numbers from c on, three an element. -/
def marks (c : Nat) : Nat → List (Int × Int × Int)
  | 0 => []
  | n + 1 => ((c : Int), ((c + 1 : Nat) : Int), ((c + 2 : Nat) : Int)) :: marks (c + 3) n

theorem marks_length : ∀ n c, (marks c n).length = n
  | 0, _ => rfl
  | n + 1, c => by simp [marks, marks_length n]

theorem mark_L : ∀ (d i k c : Nat) (done rest : List (Int × Int × Int)), done.length = i → rest.length = d → i + d ≤ 1000 → c ≤ 100000 - 3 * d → d < k →
    laws_markClueS.L2 k ((c : Int), (i : Int), done ++ rest, ()) = some (((c + 3 * d : Nat) : Int), done ++ marks c d, ()) := by
  intro d
  induction d with
  | zero =>
    intro i k c done rest hi hd hb hc hk
    obtain ⟨k, rfl⟩ : ∃ m, k = m + 1 := ⟨k - 1, by omega⟩
    obtain rfl := List.length_eq_zero_iff.1 hd
    show (laws_markClueS.T2 (laws_markClueS.L2 k) _).opt = _
    simp only [laws_markClueS.T2, M.opt_ite, decide_eq_false (show ¬ ((i : Int) < ((done ++ []).length : Int)) by simp; omega), cond_false, M.opt_ret]
    simp [marks]
  | succ d ih =>
    intro i k c done rest hi hd hb hc hk
    obtain ⟨k, rfl⟩ : ∃ m, k = m + 1 := ⟨k - 1, by omega⟩
    obtain ⟨x, rest, rfl⟩ : ∃ x r, rest = x :: r := by
      cases rest with
      | nil => simp at hd
      | cons x r => exact ⟨x, r, rfl⟩
    subst hi
    simp only [List.length_cons] at hd
    show (laws_markClueS.T2 (laws_markClueS.L2 k) _).opt = _
    have hs : ∀ y z : Int × Int × Int, (done ++ y :: rest).set done.length z = done ++ z :: rest := fun y z => by simp
    have hg : ∀ y : Int × Int × Int, (done ++ y :: rest)[done.length]? = some y := fun y => by simp
    have hin : ∀ y : Int × Int × Int, inside (done.length : Int) (done ++ y :: rest).length = true := fun y => by simp [inside]; omega
    have h1 : W ((done.length : Int) + 1) = ((done.length + 1 : Nat) : Int) := by rw [W_eq (by omega) (by omega)]; omega
    have c1 : W ((c : Int) + 1) = ((c + 1 : Nat) : Int) := by rw [W_eq (by omega) (by omega)]; omega
    have c2 : W (((c + 1 : Nat) : Int) + 1) = ((c + 2 : Nat) : Int) := by rw [W_eq (by omega) (by omega)]; omega
    have c3 : W (((c + 2 : Nat) : Int) + 1) = ((c + 3 : Nat) : Int) := by rw [W_eq (by omega) (by omega)]; omega
    have hlt : decide ((done.length : Int) < ((done ++ x :: rest).length : Int)) = true := by simp; omega
    simp only [laws_markClueS.T2, M.opt_ite, M.opt_bind, M.opt_ofO, M.opt_fail, hlt, cond_true, Int.toNat_natCast, hs, hg, hin, Option.bind_some, c1, c2, c3, h1]
    have := ih (done.length + 1) k (c + 3) (done ++ [((c : Int), ((c + 1 : Nat) : Int), ((c + 2 : Nat) : Int))]) rest (by simp) (by omega) (by omega) (by omega) (by omega)
    rw [show done ++ ((c : Int), ((c + 1 : Nat) : Int), ((c + 2 : Nat) : Int)) :: rest = done ++ [((c : Int), ((c + 1 : Nat) : Int), ((c + 2 : Nat) : Int))] ++ rest by simp, this]
    congr 2
    · omega
    · simp [marks]

theorem mark_g (xs : List (Int × Int × Int)) (hx : xs.length ≤ 1000) : laws_markPuzzle.g (1, xs, ()) = some (((1 + 3 * xs.length : Nat) : Int), marks 1 xs.length, ()) := by
  have h := mark_L xs.length 0 fuel 1 [] xs rfl rfl (by omega) (by omega) (by have := fuel_big; omega)
  have h2 : laws_markClueS.g (1, xs, ()) = some (((1 + 3 * xs.length : Nat) : Int), marks 1 xs.length, ()) := by
    show (laws_markClueS.T (laws_markClueS.L2 fuel) _).opt = _
    simp only [laws_markClueS.T, M.opt_ofO]
    exact h
  show (laws_markPuzzle.T _).opt = _
  simp only [laws_markPuzzle.T, M.opt_ofO, h2]

theorem held_L : ∀ (d i k c : Nat) (done : List (Int × Int × Int)), done.length = i → i + d ≤ 1000 → c ≤ 100000 - 3 * d → d < k →
    laws_heldClueS.L2 k (done ++ marks c d, (c : Int), (i : Int), ()) = some (.inr (((c + 3 * d : Nat) : Int), ())) := by
  intro d
  induction d with
  | zero =>
    intro i k c done hi hb hc hk
    obtain ⟨k, rfl⟩ : ∃ m, k = m + 1 := ⟨k - 1, by omega⟩
    rw [show marks c 0 = [] from rfl, List.append_nil]
    show (laws_heldClueS.T2 (laws_heldClueS.L2 k) _).opt = _
    simp only [laws_heldClueS.T2, M.opt_ite, decide_eq_false (show ¬ ((i : Int) < (done.length : Int)) by omega), cond_false, M.opt_ret, Nat.mul_zero, Nat.add_zero]
  | succ d ih =>
    intro i k c done hi hb hc hk
    obtain ⟨k, rfl⟩ : ∃ m, k = m + 1 := ⟨k - 1, by omega⟩
    subst hi
    show (laws_heldClueS.T2 (laws_heldClueS.L2 k) _).opt = _
    have hg : ∀ y : Int × Int × Int, ∀ rest, (done ++ y :: rest)[done.length]? = some y := fun y rest => by simp
    have h1 : W ((done.length : Int) + 1) = ((done.length + 1 : Nat) : Int) := by rw [W_eq (by omega) (by omega)]; omega
    have c1 : W ((c : Int) + 1) = ((c + 1 : Nat) : Int) := by rw [W_eq (by omega) (by omega)]; omega
    have c2 : W (((c + 1 : Nat) : Int) + 1) = ((c + 2 : Nat) : Int) := by rw [W_eq (by omega) (by omega)]; omega
    have c3 : W (((c + 2 : Nat) : Int) + 1) = ((c + 3 : Nat) : Int) := by rw [W_eq (by omega) (by omega)]; omega
    have hlt : decide ((done.length : Int) < ((done ++ marks c (d + 1)).length : Int)) = true := by simp [marks_length]; omega
    have hself : ∀ z : Int, (z != z) = false := fun z => by simp
    simp only [laws_heldClueS.T2, M.opt_ite, M.opt_bind, M.opt_ofO, M.opt_fail, M.opt_ret, hlt, cond_true, decide_eq_true (nat_int (i := done.length)), Int.toNat_natCast]
    simp only [marks, hg, Option.bind_some, c1, c2, c3, h1, hself, cond_false]
    have := ih (done.length + 1) k (c + 3) (done ++ [((c : Int), ((c + 1 : Nat) : Int), ((c + 2 : Nat) : Int))]) (by simp) (by omega) (by omega) (by omega)
    rw [show done ++ ((c : Int), ((c + 1 : Nat) : Int), ((c + 2 : Nat) : Int)) :: marks (c + 3) d = done ++ [((c : Int), ((c + 1 : Nat) : Int), ((c + 2 : Nat) : Int))] ++ marks (c + 3) d by simp, this]
    congr 3
    omega

theorem held_g (n : Nat) (hx : n ≤ 1000) : laws_heldPuzzle.g (marks 1 n, 1, ()) = some (((1 + 3 * n : Nat) : Int), ()) := by
  have h := held_L n 0 fuel 1 [] rfl (by omega) (by omega) (by have := fuel_big; omega)
  have h2 : laws_heldClueS.g (marks 1 n, 1, ()) = some (((1 + 3 * n : Nat) : Int), ()) := by
    show (laws_heldClueS.T (laws_heldClueS.L2 fuel) _).opt = _
    simp only [laws_heldClueS.T, M.opt_ofO, M.opt_bind]
    rw [List.nil_append, show ((0 : Nat) : Int) = 0 from rfl, show ((1 : Nat) : Int) = 1 from rfl] at h
    rw [h]
    rfl
  show (laws_heldPuzzle.T _).opt = _
  simp only [laws_heldPuzzle.T, M.opt_ofO, M.opt_bind, M.opt_ite, M.opt_ret, h2, Option.bind_some, decide_eq_false (show ¬ (((1 + 3 * n : Nat) : Int) < 0) by omega), cond_false]

theorem law3 (h0 h1 clues seed : Int) : laws_FnExactMakePuzzle.g (h0, h1, clues, seed, ()) = some (true, ()) := by
  have hl := made_length h0 h1 clues seed
  have hself : ∀ z : Int, (z != z) = false := fun z => by simp
  show (laws_FnExactMakePuzzle.T _).opt = _
  simp only [laws_FnExactMakePuzzle.T, M.opt_ofO, M.opt_bind, M.opt_ite, M.opt_ret, made_spec, made_impl, Option.bind_some, eqPuzzle_g _ (Nat.le_trans hl (by decide)), Bool.not_true, cond_false, beq_self_eq_true,
    mark_g _ (Nat.le_trans hl (by decide)), held_g _ (Nat.le_trans hl (by decide)), hself, decide_eq_false (show ¬ (((1 + 3 * (made h0 h1 clues seed).1.length : Nat) : Int) < 0) by omega)]

end Go.Proofs.YtfgkcnoiplojkaaDoor.VI
