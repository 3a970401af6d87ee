/- Puzzles, plainly: clues taken out and put in, harder puzzles, needless clues. -/
import Derived.Test.YtfgkcnoiplojkaaDoorP4e
set_option linter.unusedSimpArgs false
set_option linter.unusedVariables false
namespace Go.Proofs.YtfgkcnoiplojkaaDoor.VI
open Go

/-- Without one. -/
def del (xs : List Clue) (k : Nat) : List Clue := xs.take k ++ xs.drop (k + 1)

theorem del_length {xs : List Clue} {k : Nat} (h : k < xs.length) : (del xs k).length = xs.length - 1 := by simp [del]; omega

theorem del_ok {xs : List Clue} {k : Nat} (h : xs.all okClue = true) : (del xs k).all okClue = true := by
  rw [List.all_eq_true] at h ⊢
  intro c hc
  simp only [del, List.mem_append] at hc
  rcases hc with hc | hc
  · exact h c (List.mem_of_mem_take hc)
  · exact h c (List.mem_of_mem_drop hc)

theorem room24 {n : Nat} (h : n ≤ 2000) : room n 24 = true := room_ok (by omega)

theorem clone_g (xs : List Clue) (h : xs.length ≤ 2000) : slices_Clone_24.g (xs, ()) = some (xs, ()) := by
  unfold slices_Clone_24.g
  rw [decide_eq_true (show xs.length * 24 ≤ 140737488355328 by omega)]
  rfl

theorem cloner_g (xs : List Clue) (h : xs.length ≤ 2000) : slices_Clone_24r.g (xs, ()) = some (xs, xs, ()) := by
  unfold slices_Clone_24r.g
  rw [decide_eq_true (show xs.length * 24 ≤ 140737488355328 by omega)]
  rfl

theorem bif_t {α : Type} {b : Bool} {x y : α} (h : b = true) : (bif b then x else y) = x := by rw [h]; rfl
theorem bif_f {α : Type} {b : Bool} {x y : α} (h : b = false) : (bif b then x else y) = y := by rw [h]; rfl

theorem splice_length {α : Type} {xs ys : List α} {p : Nat} (h : p + ys.length ≤ xs.length) : (splice xs p ys).length = xs.length := by simp [splice]; omega

theorem delete_list (xs : List Clue) (k n : Nat) (zs : List Clue) (hk : k < xs.length) (hn : n = xs.length - 1) : List.take n (splice (splice xs k (List.drop (k + 1) xs)) n zs) = del xs k := by
  subst hn
  unfold splice del
  rw [List.take_append_of_le_length (by simp; omega), List.take_take, Nat.min_self]
  rw [show xs.take k ++ (List.drop (k + 1) xs ++ List.drop (k + (List.drop (k + 1) xs).length) xs) = (xs.take k ++ List.drop (k + 1) xs) ++ List.drop (k + (List.drop (k + 1) xs).length) xs by simp]
  rw [List.take_append_of_le_length (by simp; omega), List.take_of_length_le (by simp; omega)]

theorem delete_g (xs : List Clue) (k : Nat) (hk : k < xs.length) (h : xs.length ≤ 1000) :
    ∃ ys, slices_Delete_impl_Clue_impl_Clue.g ((k : Int), ((k + 1 : Nat) : Int), xs, ()) = some (del xs k, ys, ()) := by
  have hg : slices_Delete_impl_Clue_impl_Clue.g ((k : Int), ((k + 1 : Nat) : Int), xs, ()) = (slices_Delete_impl_Clue_impl_Clue.T ((k : Int), ((k + 1 : Nat) : Int), xs, ())).opt := rfl
  rw [hg]
  simp only [slices_Delete_impl_Clue_impl_Clue.T, M.opt_ite, M.opt_ret, M.opt_fail]
  have hl : (List.take (Int.toNat (xs.length : Int) - Int.toNat ((k + 1 : Nat) : Int)) (List.drop (Int.toNat ((k + 1 : Nat) : Int)) xs)) = List.drop (k + 1) xs := by
    rw [Int.toNat_natCast, Int.toNat_natCast]; exact List.take_of_length_le (by simp)
  generalize hz : (List.take (Int.toNat (xs.length : Int) - Int.toNat ((k + 1 : Nat) : Int)) (List.drop (Int.toNat ((k + 1 : Nat) : Int)) xs)) = zs
  rw [hl] at hz
  have hzl : zs.length = xs.length - (k + 1) := by rw [← hz]; simp
  have hsl : (splice xs (Int.toNat 0 + (Int.toNat (k : Int) - Int.toNat 0)) zs).length = xs.length := splice_length (by rw [hzl]; simp; omega)
  refine ⟨_, (bif_t (by simp)).trans ((bif_t (by simp; omega)).trans ((bif_f (beq_eq_false_iff_ne.2 (by omega))).trans ((bif_t (by simp; omega)).trans ((bif_t (by simp; omega)).trans ((bif_t ?_).trans ((bif_t ?_).trans ((bif_t ?_).trans (congrArg some (Prod.ext ?_ rfl)))))))))⟩
  · rw [hzl, room24 (by simp; omega)]; simp; omega
  · rw [hsl, hzl]; simp; omega
  · rw [hzl]; simp; omega
  · subst hz
    simp only [Int.toNat_natCast, Int.toNat_zero, Nat.sub_zero, Nat.zero_add, List.drop_zero]
    exact delete_list xs k _ _ hk (by simp; omega)

theorem without_impl (xs : List Clue) (k : Nat) (hk : k < xs.length) (h : xs.length ≤ 1000) : impl_without.g (xs, (k : Int), ()) = some (del xs k, ()) := by
  obtain ⟨ys, hd⟩ := delete_g xs k hk h
  show (impl_without.T _).opt = _
  simp only [impl_without.T, M.opt_bind, M.opt_ofO, M.opt_ret, clone_g xs (by omega), Option.bind_some, next_i (show k ≤ 100000 by omega), hd]

theorem without_spec (xs : List Clue) (k : Nat) (hk : k < xs.length) (h : xs.length ≤ 1000) : spec_pzWithout.g (xs, (k : Int), ()) = some (del xs k, ()) := by
  show (spec_pzWithout.T _).opt = _
  simp only [spec_pzWithout.T, M.opt_ite, M.opt_ret, M.opt_fail, next_i (show k ≤ 100000 by omega), Int.toNat_natCast, Int.toNat_zero, Nat.sub_zero, List.drop_zero, List.length_nil, Nat.zero_add, List.nil_append]
  have hl : (List.take (xs.length - (k + 1)) (List.drop (k + 1) xs)) = List.drop (k + 1) xs := List.take_of_length_le (by simp)
  rw [hl]
  have e4 : ((decide ((0 : Int) ≤ 0)) && ((decide ((0 : Int) ≤ (k : Int))) && (decide ((k : Int) ≤ ((xs.length) : Int))))) = true := by simp; omega
  have e5 : ((decide ((0 : Int) ≤ ((k + 1 : Nat) : Int))) && ((decide (((k + 1 : Nat) : Int) ≤ ((xs.length) : Int))) && (decide (((xs.length) : Int) ≤ ((xs.length) : Int))))) = true := by simp; omega
  have e6 : room (List.take k xs).length 24 = true := room24 (by simp; omega)
  have e7 : room ((List.take k xs).length + (List.drop (k + 1) xs).length) 24 = true := room24 (by simp; omega)
  simp only [e5, e6, e7, cond_true]
  exact (bif_t e4).trans rfl

theorem Solutions_impl (xs : List Clue) (hx : xs.length ≤ 1000) : impl_Solutions.g (xs, ()) = some (bif okPz xs then (sols xs, true, ()) else ([], false, ())) := by
  show (impl_Solutions.T _).opt = _
  simp only [impl_Solutions.T, M.opt_bind, M.opt_ofO, M.opt_ite, M.opt_ret, isPuzzle_impl xs hx, Option.bind_some]
  cases h : okPz xs with
  | false => rfl
  | true =>
    simp only [okPz, Bool.and_eq_true] at h
    rw [solutions_impl xs hx h.2]; rfl

def solved (xs : List Clue) : Bool := (sols xs).length == 1

theorem IsSolved_impl (xs : List Clue) (hx : xs.length ≤ 1000) : impl_IsSolved.g (xs, ()) = some (bif okPz xs then (solved xs, true, ()) else (false, false, ())) := by
  show (impl_IsSolved.T _).opt = _
  simp only [impl_IsSolved.T, M.opt_bind, M.opt_ofO, M.opt_ret, Solutions_impl xs hx, Option.bind_some]
  cases okPz xs with
  | false => rfl
  | true =>
    have : (((sols xs).length : Int) == 1) = solved xs := by
      unfold solved
      by_cases h : (sols xs).length = 1
      · rw [h]; rfl
      · rw [beq_eq_false_iff_ne.2 h]; exact beq_eq_false_iff_ne.2 (by omega)
    simp only [cond_true, this]

theorem solved_int (xs : List Clue) : (((sols xs).length : Int) == 1) = solved xs := by
  unfold solved
  by_cases h : (sols xs).length = 1
  · rw [h]; rfl
  · rw [beq_eq_false_iff_ne.2 h]; exact beq_eq_false_iff_ne.2 (by omega)

theorem solved_spec (xs : List Clue) (hx : xs.length ≤ 1000) (hok : xs.all okClue = true) : spec_pzSolved.g (xs, ()) = some (solved xs, ()) := by
  show (spec_pzSolved.T _).opt = _
  simp only [spec_pzSolved.T, M.opt_bind, M.opt_ofO, M.opt_ret, solutions_spec xs hx hok, Option.bind_some, solved_int]

/-- Clues from k on are taken out where they are not needed. -/
def hard : Nat → List Clue → Nat → List Clue
  | 0, xs, _ => xs
  | d + 1, xs, k => bif solved (del xs k) then hard d (del xs k) k else hard d xs (k + 1)

theorem hard_impl : ∀ (d k n : Nat) (xs b : List Clue), xs.length = k + d → d < n → xs.length ≤ 1000 → xs.all okClue = true →
    impl_HarderPuzzle.L6 n (xs, (k : Int), b, ()) = some (hard d xs k, b, ()) := by
  intro d
  induction d with
  | zero =>
    intro k n xs b hl hn hx hok
    obtain ⟨n, rfl⟩ : ∃ m, n = m + 1 := ⟨n - 1, by omega⟩
    show (impl_HarderPuzzle.T6 (impl_HarderPuzzle.L6 n) _).opt = _
    simp only [impl_HarderPuzzle.T6, M.opt_ite, decide_eq_false (show ¬ ((k : Int) < (xs.length : Int)) by omega), cond_false, M.opt_ret, hard]
  | succ d ih =>
    intro k n xs b hl hn hx hok
    obtain ⟨n, rfl⟩ : ∃ m, n = m + 1 := ⟨n - 1, by omega⟩
    have hk : k < xs.length := by omega
    have hdl := del_length hk
    show (impl_HarderPuzzle.T6 (impl_HarderPuzzle.L6 n) _).opt = _
    simp only [impl_HarderPuzzle.T6, M.opt_ite, M.opt_bind, M.opt_ofO, decide_eq_true (show ((k : Int) < (xs.length : Int)) by omega), cond_true, without_impl xs k hk hx, Option.bind_some, solutions_impl (del xs k) (by omega) (del_ok hok), solved_int, next_i (show k ≤ 100000 by omega), hard]
    cases solved (del xs k) with
    | true => exact ih k n (del xs k) b (by omega) (by omega) (by omega) (del_ok hok)
    | false => exact ih (k + 1) n xs b (by omega) (by omega) hx hok

theorem hard_spec : ∀ (d k n : Nat) (xs b : List Clue), xs.length = k + d → d < n → xs.length ≤ 1000 → xs.all okClue = true →
    spec_HarderPuzzle.L5 n ((k : Int), xs, b, ()) = some (hard d xs k, b, ()) := by
  intro d
  induction d with
  | zero =>
    intro k n xs b hl hn hx hok
    obtain ⟨n, rfl⟩ : ∃ m, n = m + 1 := ⟨n - 1, by omega⟩
    show (spec_HarderPuzzle.T5 (spec_HarderPuzzle.L5 n) _).opt = _
    simp only [spec_HarderPuzzle.T5, M.opt_ite, decide_eq_false (show ¬ ((k : Int) < (xs.length : Int)) by omega), cond_false, M.opt_ret, hard]
  | succ d ih =>
    intro k n xs b hl hn hx hok
    obtain ⟨n, rfl⟩ : ∃ m, n = m + 1 := ⟨n - 1, by omega⟩
    have hk : k < xs.length := by omega
    have hdl := del_length hk
    show (spec_HarderPuzzle.T5 (spec_HarderPuzzle.L5 n) _).opt = _
    simp only [spec_HarderPuzzle.T5, M.opt_ite, M.opt_bind, M.opt_ofO, decide_eq_true (show ((k : Int) < (xs.length : Int)) by omega), cond_true, without_spec xs k hk hx, Option.bind_some, solved_spec (del xs k) (by omega) (del_ok hok), next_i (show k ≤ 100000 by omega), hard]
    cases solved (del xs k) with
    | true => exact ih k n (del xs k) b (by omega) (by omega) (by omega) (del_ok hok)
    | false => exact ih (k + 1) n xs b (by omega) (by omega) hx hok

/-- What HarderPuzzle answers. -/
def harder (xs : List Clue) : List Clue × Bool := bif okPz xs && solved xs then (hard xs.length xs 0, true) else ([], false)

theorem HarderPuzzle_impl (xs : List Clue) (hx : xs.length ≤ 1000) : impl_HarderPuzzle.g (xs, ()) = some ((harder xs).1, (harder xs).2, ()) := by
  show (impl_HarderPuzzle.T (impl_HarderPuzzle.L6 fuel) _).opt = _
  simp only [impl_HarderPuzzle.T, M.opt_bind, M.opt_ofO, M.opt_ite, M.opt_ret, IsSolved_impl xs hx, Option.bind_some, harder, cloner_g xs (by omega)]
  cases h : okPz xs with
  | false => rfl
  | true =>
    simp only [okPz, Bool.and_eq_true] at h
    cases solved xs with
    | false => rfl
    | true =>
      have := hard_impl xs.length 0 fuel xs [] (by omega) (by have := fuel_big; omega) hx h.2
      rw [show ((0 : Nat) : Int) = 0 from rfl] at this
      simp only [cond_true, Bool.not_true, cond_false, this, Option.bind_some]
      rfl

theorem HarderPuzzle_spec (xs : List Clue) (hx : xs.length ≤ 1000) : spec_HarderPuzzle.g (xs, ()) = some ((harder xs).1, (harder xs).2, ()) := by
  show (spec_HarderPuzzle.T (spec_HarderPuzzle.L5 fuel) _).opt = _
  simp only [spec_HarderPuzzle.T, M.opt_bind, M.opt_ofO, M.opt_ite, M.opt_ret, M.opt_fail, good_g xs hx, Option.bind_some, harder, List.length_nil, Nat.zero_add, List.nil_append]
  cases h : okPz xs with
  | false => rfl
  | true =>
    simp only [okPz, Bool.and_eq_true] at h
    simp only [solved_spec xs hx h.2, Option.bind_some, Bool.not_true, cond_false, Bool.true_and]
    cases solved xs with
    | false => rfl
    | true =>
      have := hard_spec xs.length 0 fuel xs [] (by omega) (by have := fuel_big; omega) hx h.2
      rw [show ((0 : Nat) : Int) = 0 from rfl] at this
      simp only [cond_true, Bool.not_true, cond_false, room24 (show xs.length ≤ 2000 by omega), this, Option.bind_some]

end Go.Proofs.YtfgkcnoiplojkaaDoor.VI
