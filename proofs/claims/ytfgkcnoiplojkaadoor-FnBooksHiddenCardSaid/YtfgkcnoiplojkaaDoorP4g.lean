/- Puzzles, plainly: harder puzzles have the same solution and no needless clue; added and dropped clues. -/
import Derived.Test.YtfgkcnoiplojkaaDoorP4f
set_option linter.unusedSimpArgs false
set_option linter.unusedVariables false
namespace Go.Proofs.YtfgkcnoiplojkaaDoor.VI
open Go

theorem fit1_sub {xs ys : List Clue} (h : ∀ c ∈ ys, c ∈ xs) (b : Book) (hb : fit1 xs b = true) : fit1 ys b = true := by
  simp only [fit1, fitAll, List.all_eq_true] at hb ⊢
  exact fun c hc => hb c (h c hc)

theorem sols_sub {xs ys : List Clue} (h : ∀ c ∈ ys, c ∈ xs) : List.Sublist (sols xs) (sols ys) := by
  have : sols xs = (sols ys).filter (fit1 xs) := by
    rw [sols_filter xs, sols_filter ys, List.filter_filter]
    congr 1
    funext b
    cases hb : fit1 xs b with
    | false => rfl
    | true => rw [fit1_sub h b hb]; rfl
  rw [this]
  exact List.filter_sublist

theorem del_append (A : List Clue) (B : List Clue) (j : Nat) : del (A ++ B) (A.length + j) = A ++ del B j := by
  unfold del
  rw [List.take_append, List.take_of_length_le (by omega), List.drop_append, List.drop_eq_nil_of_le (by omega)]
  rw [show A.length + j - A.length = j by omega, show A.length + j + 1 - A.length = j + 1 by omega]
  simp

theorem del_here (A B : List Clue) (b : Clue) : del (A ++ b :: B) A.length = A ++ B := by
  have := del_append A (b :: B) 0
  rw [Nat.add_zero] at this
  rw [this]
  simp [del]

theorem solved_iff (xs : List Clue) : solved xs = true ↔ (sols xs).length = 1 := by simp [solved]

theorem hard_law : ∀ (B A : List Clue), solved (A ++ B) = true → ∃ C, hard B.length (A ++ B) A.length = A ++ C ∧ (∀ c ∈ C, c ∈ B) ∧ C.length ≤ B.length ∧ solved (A ++ C) = true ∧ ∀ j, j < C.length → solved (A ++ del C j) = false := by
  intro B
  induction B with
  | nil => intro A h; exact ⟨[], rfl, by simp, Nat.le_refl _, h, fun j hj => by simp at hj⟩
  | cons b B ih =>
    intro A h
    show ∃ C, hard (B.length + 1) _ _ = _ ∧ _
    unfold hard
    rw [del_here]
    cases hs : solved (A ++ B) with
    | true =>
      obtain ⟨C, h1, h2, h3, h4, h5⟩ := ih A hs
      exact ⟨C, h1, fun c hc => List.mem_cons_of_mem _ (h2 c hc), by simp; omega, h4, h5⟩
    | false =>
      have e : A ++ b :: B = (A ++ [b]) ++ B := by simp
      obtain ⟨C, h1, h2, h3, h4, h5⟩ := ih (A ++ [b]) (by rw [← e]; exact h)
      rw [List.length_append, List.length_singleton, ← e] at h1
      refine ⟨b :: C, by rw [cond_false, h1]; simp, ?_, by simp; omega, by simpa using h4, ?_⟩
      · intro c hc
        rcases List.mem_cons.1 hc with rfl | hc
        · exact List.mem_cons_self
        · exact List.mem_cons_of_mem _ (h2 c hc)
      · intro j hj
        cases j with
        | succ j =>
          have := h5 j (by simpa using hj)
          simpa [del] using this
        | zero =>
          have hd : del (b :: C) 0 = C := by simp [del]
          rw [hd]
          cases hc : solved (A ++ C) with
          | false => rfl
          | true =>
            exfalso
            rw [solved_iff] at h hc
            have h6 : (sols (A ++ b :: B)).length ≤ (sols (A ++ B)).length := (sols_sub (by intro c hc; simp at hc ⊢; rcases hc with h | h <;> simp [h])).length_le
            have h7 : (sols (A ++ B)).length ≤ (sols (A ++ C)).length := (sols_sub (by intro c hc; simp at hc ⊢; rcases hc with h | h <;> simp [h, h2 c])).length_le
            have h8 : ¬ (sols (A ++ B)).length = 1 := fun e => by rw [← solved_iff, hs] at e; cases e
            omega

section
variable {q : List Clue} (hok : okPz q = true) (hs : solved q = true)
include hok hs

theorem harder_law : ∃ C, harder q = (C, true) ∧ okPz C = true ∧ C.length ≤ q.length ∧ sols C = sols q ∧ ∀ j, j < C.length → solved (del C j) = false := by
  obtain ⟨C, h1, h2, h3, h4, h5⟩ := hard_law q [] hs
  simp only [List.nil_append, List.length_nil] at h1 h4 h5
  simp only [okPz, Bool.and_eq_true, decide_eq_true_eq, List.all_eq_true] at hok
  have hok' : okPz q = true := by simp only [okPz, Bool.and_eq_true, decide_eq_true_eq, List.all_eq_true]; exact hok
  refine ⟨C, ?_, ?_, h3, ?_, h5⟩
  · unfold harder
    rw [hok', hs, h1]; rfl
  · simp only [okPz, Bool.and_eq_true, decide_eq_true_eq, List.all_eq_true]
    exact ⟨by omega, fun c hc => hok.2 c (h2 c hc)⟩
  · have hsub := sols_sub h2
    rw [solved_iff] at hs h4
    exact (hsub.eq_of_length (by omega)).symm
end

theorem needless_L (xs : List Clue) (ys : List Book) (b : List Int) (hx : xs.length ≤ 1000) (hok : xs.all okClue = true) (hn : ∀ j, j < xs.length → (sols (del xs j)).length ≠ ys.length) : ∀ (d i k : Nat), i + d = xs.length → d < k →
    impl_NeedlessClues.L6 k (ys, (xs.length : Int), (i : Int), xs, b, ()) = some (b, ()) := by
  intro d
  induction d with
  | zero =>
    intro i k hi hk
    obtain ⟨k, rfl⟩ : ∃ m, k = m + 1 := ⟨k - 1, by omega⟩
    show (impl_NeedlessClues.T6 (impl_NeedlessClues.L6 k) _).opt = _
    simp only [impl_NeedlessClues.T6, M.opt_ite, decide_eq_false (show ¬ ((i : Int) < (xs.length : Int)) by omega), cond_false, M.opt_ret]
  | succ d ih =>
    intro i k hi hk
    obtain ⟨k, rfl⟩ : ∃ m, k = m + 1 := ⟨k - 1, by omega⟩
    have hlt : i < xs.length := by omega
    have hdl := del_length hlt
    show (impl_NeedlessClues.T6 (impl_NeedlessClues.L6 k) _).opt = _
    have hne : (((sols (del xs i)).length : Int) == (ys.length : Int)) = false := beq_eq_false_iff_ne.2 (by have := hn i hlt; omega)
    simp only [impl_NeedlessClues.T6, M.opt_ite, M.opt_bind, M.opt_ofO, decide_eq_true (show ((i : Int) < (xs.length : Int)) by omega), cond_true, without_impl xs i hlt hx, Option.bind_some, solutions_impl (del xs i) (by omega) (del_ok hok), hne, cond_false, next_i (show i ≤ 100000 by omega)]
    exact ih (i + 1) k (by omega) (by omega)

theorem needless_g (xs : List Clue) (hok : okPz xs = true) (hn : ∀ j, j < xs.length → (sols (del xs j)).length ≠ (sols xs).length) : impl_NeedlessClues.g (xs, ()) = some ([], true, ()) := by
  have h6 := hok
  simp only [okPz, Bool.and_eq_true, decide_eq_true_eq] at h6
  show (impl_NeedlessClues.T (impl_NeedlessClues.L6 fuel) _).opt = _
  have h := needless_L xs (sols xs) [] (by omega) h6.2 hn xs.length 0 fuel (by omega) (by have := fuel_big; omega)
  rw [show ((0 : Nat) : Int) = 0 from rfl] at h
  simp only [impl_NeedlessClues.T, M.opt_bind, M.opt_ofO, M.opt_ite, M.opt_ret, Solutions_impl xs (by omega), hok, cond_true, Option.bind_some, Bool.not_true, cond_false, h]

theorem eqInts3 (a b c : Int) : eqInts [a, b, c] [a, b, c] = true := by simp [eqInts]
theorem eqInts2 (a b : Int) : eqInts [a, b] [a, b] = true := by simp [eqInts]

theorem xPuzzle_L (xs : List Clue) (hx : xs.length ≤ 1000) : ∀ (d i k : Nat), i + d = xs.length → d < k → laws_xPuzzle.L4 k ((xs.length : Int), (i : Int), xs, xs, ()) = some (.inr ()) := by
  intro d
  induction d with
  | zero =>
    intro i k hi hk
    obtain ⟨k, rfl⟩ : ∃ m, k = m + 1 := ⟨k - 1, by omega⟩
    show (laws_xPuzzle.T4 (laws_xPuzzle.L4 k) _).opt = _
    simp only [laws_xPuzzle.T4, M.opt_ite, decide_eq_false (show ¬ ((i : Int) < (xs.length : Int)) by omega), cond_false, M.opt_ret]
  | succ d ih =>
    intro i k hi hk
    obtain ⟨k, rfl⟩ : ∃ m, k = m + 1 := ⟨k - 1, by omega⟩
    have hlt : i < xs.length := by omega
    show (laws_xPuzzle.T4 (laws_xPuzzle.L4 k) _).opt = _
    simp only [laws_xPuzzle.T4, M.opt_ite, M.opt_bind, M.opt_ofO, M.opt_ret, M.opt_fail, decide_eq_true (show ((i : Int) < (xs.length : Int)) by omega), decide_eq_true (nat0 (i := i)), cond_true, Int.toNat_natCast, List.getElem?_eq_getElem hlt, Option.bind_some, eqInts3, Bool.not_true, cond_false, next_i (show i ≤ 100000 by omega)]
    exact ih (i + 1) k (by omega) (by omega)

theorem xPuzzle_g (xs : List Clue) (hx : xs.length ≤ 1000) : laws_xPuzzle.g (xs, xs, ()) = some (true, ()) := by
  show (laws_xPuzzle.T (laws_xPuzzle.L4 fuel) _).opt = _
  have h := xPuzzle_L xs hx xs.length 0 fuel (by omega) (by have := fuel_big; omega)
  rw [show ((0 : Nat) : Int) = 0 from rfl] at h
  have : (((xs.length : Int)) != ((xs.length : Int))) = false := by simp
  simp only [laws_xPuzzle.T, M.opt_bind, M.opt_ofO, M.opt_ite, M.opt_ret, this, cond_false, h, Option.bind_some, M.opt_sum]

theorem xBooks_L (xs : List Book) (hx : xs.length ≤ 1000) : ∀ (d i k : Nat), i + d = xs.length → d < k → laws_xBooks.L4 k (xs, xs, (xs.length : Int), (i : Int), ()) = some (.inr ()) := by
  intro d
  induction d with
  | zero =>
    intro i k hi hk
    obtain ⟨k, rfl⟩ : ∃ m, k = m + 1 := ⟨k - 1, by omega⟩
    show (laws_xBooks.T4 (laws_xBooks.L4 k) _).opt = _
    simp only [laws_xBooks.T4, M.opt_ite, decide_eq_false (show ¬ ((i : Int) < (xs.length : Int)) by omega), cond_false, M.opt_ret]
  | succ d ih =>
    intro i k hi hk
    obtain ⟨k, rfl⟩ : ∃ m, k = m + 1 := ⟨k - 1, by omega⟩
    have hlt : i < xs.length := by omega
    show (laws_xBooks.T4 (laws_xBooks.L4 k) _).opt = _
    simp only [laws_xBooks.T4, M.opt_ite, M.opt_bind, M.opt_ofO, M.opt_ret, M.opt_fail, decide_eq_true (show ((i : Int) < (xs.length : Int)) by omega), decide_eq_true (nat0 (i := i)), cond_true, Int.toNat_natCast, List.getElem?_eq_getElem hlt, Option.bind_some, eqInts2, Bool.not_true, cond_false, next_i (show i ≤ 100000 by omega)]
    exact ih (i + 1) k (by omega) (by omega)

theorem xBooks_g (xs : List Book) (hx : xs.length ≤ 1000) : laws_xBooks.g (xs, xs, ()) = some (true, ()) := by
  show (laws_xBooks.T (laws_xBooks.L4 fuel) _).opt = _
  have h := xBooks_L xs hx xs.length 0 fuel (by omega) (by have := fuel_big; omega)
  rw [show ((0 : Nat) : Int) = 0 from rfl] at h
  have : (((xs.length : Int)) != ((xs.length : Int))) = false := by simp
  simp only [laws_xBooks.T, M.opt_bind, M.opt_ofO, M.opt_ite, M.opt_ret, this, cond_false, h, Option.bind_some, M.opt_sum]

/-- What AddClue answers. -/
def added (xs : List Clue) (c : Clue) : List Clue × Bool := bif okPz xs && (okClue c && !((xs.length : Int) == 6)) then (xs ++ [c], true) else ([], false)

theorem AddClue_impl (xs : List Clue) (c : Clue) (hx : xs.length ≤ 1000) : impl_AddClue.g (xs, c.1, c.2.1, c.2.2, ()) = some ((added xs c).1, (added xs c).2, ()) := by
  show (impl_AddClue.T _).opt = _
  simp only [impl_AddClue.T, M.opt_bind, M.opt_ofO, M.opt_ite, M.opt_ret, M.opt_fail, isPuzzle_impl xs hx, isClue_impl, clone_g xs (by omega), Option.bind_some, added, room1 (show xs.length ≤ 2000 by omega) (show 24 ≤ 1000 by omega), cond_true]
  cases okPz xs with
  | false => rfl
  | true =>
    cases okClue c with
    | false => rfl
    | true => cases (xs.length : Int) == 6 <;> rfl

theorem AddClue_spec (xs : List Clue) (c : Clue) (hx : xs.length ≤ 1000) : spec_AddClue.g (xs, c.1, c.2.1, c.2.2, ()) = some ((added xs c).1, (added xs c).2, ()) := by
  show (spec_AddClue.T _).opt = _
  simp only [spec_AddClue.T, M.opt_bind, M.opt_ofO, M.opt_ite, M.opt_ret, M.opt_fail, good_g xs hx, isClue_spec, Option.bind_some, added, List.length_nil, Nat.zero_add, List.nil_append, room24 (show xs.length ≤ 2000 by omega), room1 (show xs.length ≤ 2000 by omega) (show 24 ≤ 1000 by omega), cond_true]
  cases okPz xs with
  | false => rfl
  | true =>
    cases okClue c with
    | false => rfl
    | true => cases (xs.length : Int) == 6 <;> rfl

/-- What DropClue answers. -/
def dropped (xs : List Clue) (k : Int) : List Clue × Bool := bif okPz xs && inR k 0 ((xs.length : Int) - 1) then (del xs k.toNat, true) else ([], false)

theorem DropClue_impl (xs : List Clue) (k : Int) (hx : xs.length ≤ 1000) : impl_DropClue.g (xs, k, ()) = some ((dropped xs k).1, (dropped xs k).2, ()) := by
  show (impl_DropClue.T _).opt = _
  have hw : W ((xs.length : Int) - 1) = (xs.length : Int) - 1 := W_eq (by omega) (by omega)
  simp only [impl_DropClue.T, M.opt_bind, M.opt_ofO, M.opt_ite, M.opt_ret, isPuzzle_impl xs hx, within_g, hw, Option.bind_some, dropped]
  cases okPz xs with
  | false => rfl
  | true =>
    cases hr : inR k 0 ((xs.length : Int) - 1) with
    | false => rfl
    | true =>
      rw [inR_iff] at hr
      have := without_impl xs k.toNat (by omega) hx
      rw [Int.toNat_of_nonneg (by omega)] at this
      simp only [Bool.not_true, cond_false, this, Option.bind_some]
      rfl

theorem DropClue_spec (xs : List Clue) (k : Int) (hx : xs.length ≤ 1000) : spec_DropClue.g (xs, k, ()) = some ((dropped xs k).1, (dropped xs k).2, ()) := by
  show (spec_DropClue.T _).opt = _
  have hw : W ((xs.length : Int) - 1) = (xs.length : Int) - 1 := W_eq (by omega) (by omega)
  simp only [spec_DropClue.T, M.opt_bind, M.opt_ofO, M.opt_ite, M.opt_ret, good_g xs hx, l1In_g, hw, Option.bind_some, dropped]
  cases okPz xs with
  | false => rfl
  | true =>
    cases hr : inR k 0 ((xs.length : Int) - 1) with
    | false => rfl
    | true =>
      rw [inR_iff] at hr
      have := without_spec xs k.toNat (by omega) hx
      rw [Int.toNat_of_nonneg (by omega)] at this
      simp only [Bool.not_true, cond_false, this, Option.bind_some]
      rfl

def book (h0 h1 : Int) : Bool := inR h0 2 40 && inR h1 1 (h0 / 2)

/-- What DoesFit answers. -/
def does (c : Clue) (h0 h1 : Int) : Bool × Bool := bif okClue c && book h0 h1 then (fitsB c h0.toNat h1.toNat, true) else (false, false)

theorem book_nat {h0 h1 : Int} (h : book h0 h1 = true) : ∃ p l : Nat, h0 = p ∧ h1 = l ∧ p ≤ 40 ∧ 2 ≤ p ∧ 1 ≤ l ∧ 2 * l ≤ p := by
  simp only [book, Bool.and_eq_true, inR_iff] at h
  exact ⟨h0.toNat, h1.toNat, by omega, by omega, by omega, by omega, by omega, by omega⟩

theorem DoesFit_impl (c : Clue) (h0 h1 : Int) : impl_DoesFit.g (c.1, c.2.1, c.2.2, h0, h1, ()) = some ((does c h0 h1).1, (does c h0 h1).2, ()) := by
  show (impl_DoesFit.T _).opt = _
  simp only [impl_DoesFit.T, M.opt_bind, M.opt_ofO, M.opt_ite, M.opt_ret, isClue_impl, book_impl, Option.bind_some, does]
  rw [show (inR h0 2 40 && inR h1 1 (h0 / 2)) = book h0 h1 from rfl]
  cases hc : okClue c with
  | false => rfl
  | true =>
    cases hb : book h0 h1 with
    | false => rfl
    | true =>
      obtain ⟨p, l, rfl, rfl, hp, _, h1, hl⟩ := book_nat hb
      simp only [Bool.not_true, cond_false, fits_impl hp hl hc, Option.bind_some, Int.toNat_natCast]
      rfl

theorem DoesFit_spec (c : Clue) (h0 h1 : Int) : spec_DoesFit.g (c.1, c.2.1, c.2.2, h0, h1, ()) = some ((does c h0 h1).1, (does c h0 h1).2, ()) := by
  show (spec_DoesFit.T _).opt = _
  simp only [spec_DoesFit.T, M.opt_bind, M.opt_ofO, M.opt_ite, M.opt_ret, isClue_spec, book_spec, Option.bind_some, does]
  rw [show (inR h0 2 40 && inR h1 1 (h0 / 2)) = book h0 h1 from rfl]
  cases hb : book h0 h1 with
  | false => cases okClue c <;> rfl
  | true =>
    cases hc : okClue c with
    | false => rfl
    | true =>
      obtain ⟨p, l, rfl, rfl, hp, _, h1, hl⟩ := book_nat hb
      simp only [Bool.not_true, cond_false, fits_spec hp h1 hl hc, Option.bind_some, Int.toNat_natCast]
      rfl

end Go.Proofs.YtfgkcnoiplojkaaDoor.VI
