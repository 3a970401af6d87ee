/- Made puzzles, plainly: both make the same puzzle, and its memory is its own. -/
import Derived.Test.YtfgkcnoiplojkaaDoorP4b
set_option linter.unusedSimpArgs false
set_option linter.unusedVariables false
namespace Go.Proofs.YtfgkcnoiplojkaaDoor.VI
open Go

def nxt (z : Nat) : Nat := (311 * z + 503) % 10007

theorem nxt_lt (z : Nat) : nxt z < 10007 := Nat.mod_lt _ (by decide)

theorem nxt_impl {z : Nat} (h : z < 10007) : Int.tmod (W (W ((z : Int) * 311) + 503)) 10007 = (nxt z : Int) := by
  rw [W_eq (x := (z : Int) * 311) (by omega) (by omega), W_eq (by omega) (by omega), tmod_nn (by omega), nxt]
  omega

theorem nxt_spec {z : Nat} (h : z < 10007) : Int.tmod (W (W (311 * (z : Int)) + 503)) 10007 = (nxt z : Int) := by
  rw [W_eq (x := 311 * (z : Int)) (by omega) (by omega), W_eq (by omega) (by omega), tmod_nn (by omega), nxt]
  omega

def aOf (kind y : Nat) : Nat := if kind = 2 then y % 10 else if kind = 3 then y % 20 + 1 else if kind = 4 then y % 8 + 2 else 0

def clueOf (p l z : Nat) : Int × Int × Int :=
  ((nxt z % 6 : Nat), (aOf (nxt z % 6) (nxt (nxt z)) : Nat), tellsN (nxt z % 6) (aOf (nxt z % 6) (nxt (nxt z))) p l)

def mk (p l : Nat) : Nat → Nat → List (Int × Int × Int)
  | 0, _ => []
  | n + 1, z => clueOf p l z :: mk p l n (nxt (nxt z))

theorem mk_length (p l : Nat) : ∀ n z, (mk p l n z).length = n
  | 0, _ => rfl
  | n + 1, z => by simp [mk, mk_length p l n]

theorem aOf_ok (kind y : Nat) : (kind = 2 → aOf kind y < 10) ∧ (kind = 0 ∨ kind = 1 ∨ kind = 5 → aOf kind y = 0) ∧ (kind = 4 → 2 ≤ aOf kind y) := by
  unfold aOf
  refine ⟨fun h => ?_, fun h => ?_, fun h => ?_⟩
  · rw [if_pos h]; omega
  · rw [if_neg (by omega), if_neg (by omega), if_neg (by omega)]
  · rw [if_neg (by omega), if_neg (by omega), if_pos h]; omega

theorem room_ok {n b : Nat} (h : n * b ≤ 140737488355328) : room n b = true := by simp [room, h]

theorem room_snoc {α : Type} {acc : List α} {x : α} (h : acc.length ≤ 1000) : room (List.length acc + List.length [x]) 24 = true :=
  room_ok (by rw [List.length_singleton]; omega)

theorem mod6 (z : Nat) : Int.tmod (nxt z : Int) 6 = ((nxt z % 6 : Nat) : Int) := by rw [tmod_nn (by omega)]; omega

set_option linter.unusedSectionVars false
section
variable {p l : Nat} (hp : p ≤ 40) (h1 : 1 ≤ l) (hl : 2 * l ≤ p)
include hp h1 hl

theorem tells_clue (z : Nat) : impl_Hidden_tells.g ((p : Int), (l : Int), ((nxt z % 6 : Nat) : Int), ((aOf (nxt z % 6) (nxt (nxt z)) : Nat) : Int), ()) = some (tellsN (nxt z % 6) (aOf (nxt z % 6) (nxt (nxt z))) p l, ()) := by
  obtain ⟨a1, a2, a3⟩ := aOf_ok (nxt z % 6) (nxt (nxt z))
  exact tells_g (by omega) a1 a2 a3 hp hl

theorem mk_impl {n : Nat} (hn : n ≤ 6) : ∀ (d i k z : Nat) (b acc : List (Int × Int × Int)), i + d = n → d + 1 < k → z < 10007 → acc.length = i →
    impl_MakePuzzle.L6 k ((n : Int), (i : Int), (p : Int), (l : Int), (z : Int), b, acc, ()) = some (b, acc ++ mk p l d z, ()) := by
  intro d
  induction d with
  | zero =>
    intro i k z b acc hi hk hz ha
    obtain ⟨k, rfl⟩ : ∃ m, k = m + 1 := ⟨k - 1, by omega⟩
    show (impl_MakePuzzle.T6 (impl_MakePuzzle.L16j k) (impl_MakePuzzle.L6 k) _).opt = _
    simp only [impl_MakePuzzle.T6, M.opt_ite, decide_eq_false (show ¬ ((i : Int) < (n : Int)) by omega), cond_false, M.opt_ret, mk, List.append_nil]
  | succ d ih =>
    intro i k z b acc hi hk hz ha
    obtain ⟨k, rfl⟩ : ∃ m, k = m + 1 + 1 := ⟨k - 2, by omega⟩
    show (impl_MakePuzzle.T6 (impl_MakePuzzle.L16j (k + 1)) (impl_MakePuzzle.L6 (k + 1)) _).opt = _
    have hz1 := nxt_lt z
    have hz2 := nxt_lt (nxt z)
    have hi1 : W ((i : Int) + 1) = ((i + 1 : Nat) : Int) := by rw [W_eq (by omega) (by omega)]; omega
    have join : ∀ (a : Nat), a = aOf (nxt z % 6) (nxt (nxt z)) → impl_MakePuzzle.L16j (k + 1) (((nxt z % 6 : Nat) : Int), (a : Int), (n : Int), (i : Int), (p : Int), (l : Int), ((nxt (nxt z) : Nat) : Int), b, acc, ()) =
        some ((n : Int), (i : Int), (p : Int), (l : Int), ((nxt (nxt z) : Nat) : Int), b, acc ++ [clueOf p l z], ()) := by
      intro a e0
      rw [e0]
      show (impl_MakePuzzle.T16j _).opt = _
      simp only [impl_MakePuzzle.T16j, M.opt_bind, M.opt_ofO, M.opt_ite, M.opt_ret]
      rw [tells_clue hp h1 hl z]
      have hr : room (List.length acc + List.length [clueOf p l z]) 24 = true := room_snoc (by omega)
      unfold clueOf at hr ⊢
      simp only [Option.bind_some]
      rw [hr, cond_true]
    have fin := ih (i + 1) (k + 1) (nxt (nxt z)) b (acc ++ [clueOf p l z]) (by omega) (by omega) hz2 (by simp [ha])
    simp only [impl_MakePuzzle.T6, M.opt_ite, M.opt_bind, M.opt_ofO, decide_eq_true (show ((i : Int) < (n : Int)) by omega), cond_true]
    rw [nxt_impl hz, nxt_impl hz1, mod6]
    rw [show (((nxt z % 6 : Nat) : Int) == 2) = decide (nxt z % 6 = 2) from natk, show (((nxt z % 6 : Nat) : Int) == 3) = decide (nxt z % 6 = 3) from natk, show (((nxt z % 6 : Nat) : Int) == 4) = decide (nxt z % 6 = 4) from natk]
    rw [show mk p l (d + 1) z = clueOf p l z :: mk p l d (nxt (nxt z)) from rfl, ← List.singleton_append, ← List.append_assoc, ← fin]
    have e10 : Int.tmod ((nxt (nxt z) : Nat) : Int) 10 = ((nxt (nxt z) % 10 : Nat) : Int) := by rw [tmod_nn (by omega)]; omega
    have e20 : W (Int.tmod ((nxt (nxt z) : Nat) : Int) 20 + 1) = ((nxt (nxt z) % 20 + 1 : Nat) : Int) := by rw [tmod_nn (by omega), W_eq (by omega) (by omega)]; omega
    have e8 : W (Int.tmod ((nxt (nxt z) : Nat) : Int) 8 + 2) = ((nxt (nxt z) % 8 + 2 : Nat) : Int) := by rw [tmod_nn (by omega), W_eq (by omega) (by omega)]; omega
    rw [e10, e20, e8]
    by_cases c2 : nxt z % 6 = 2
    · rw [decide_eq_true c2, cond_true, join (nxt (nxt z) % 10) (by unfold aOf; rw [if_pos c2])]
      simp only [Option.bind_some, hi1]
    · rw [decide_eq_false c2, cond_false]
      by_cases c3 : nxt z % 6 = 3
      · rw [decide_eq_true c3, cond_true, join (nxt (nxt z) % 20 + 1) (by unfold aOf; rw [if_neg c2, if_pos c3])]
        simp only [Option.bind_some, hi1]
      · rw [decide_eq_false c3, cond_false]
        by_cases c4 : nxt z % 6 = 4
        · rw [decide_eq_true c4, cond_true, join (nxt (nxt z) % 8 + 2) (by unfold aOf; rw [if_neg c2, if_neg c3, if_pos c4])]
          simp only [Option.bind_some, hi1]
        · rw [decide_eq_false c4, cond_false]
          have := join 0 (by unfold aOf; rw [if_neg c2, if_neg c3, if_neg c4])
          rw [show (((0 : Nat) : Int)) = 0 from rfl] at this
          rw [this]
          simp only [Option.bind_some, hi1]

theorem pzOf_g (z : Nat) : spec_pzOf.g (((nxt z % 6 : Nat) : Int), ((nxt (nxt z) : Nat) : Int), (p : Int), (l : Int), ()) = some ((clueOf p l z).1, (clueOf p l z).2.1, (clueOf p l z).2.2, ()) := by
  obtain ⟨a1, a2, a3⟩ := aOf_ok (nxt z % 6) (nxt (nxt z))
  have key := pzValue_g (kind := nxt z % 6) (a := aOf (nxt z % 6) (nxt (nxt z))) (by omega) a1 a2 a3 hp h1 hl
  show (spec_pzOf.T _).opt = _
  simp only [spec_pzOf.T, M.opt_bind, M.opt_ofO, M.opt_ite, M.opt_ret]
  rw [show (((nxt z % 6 : Nat) : Int) == 2) = decide (nxt z % 6 = 2) from natk, show (((nxt z % 6 : Nat) : Int) == 3) = decide (nxt z % 6 = 3) from natk, show (((nxt z % 6 : Nat) : Int) == 4) = decide (nxt z % 6 = 4) from natk]
  have e10 : Int.tmod ((nxt (nxt z) : Nat) : Int) 10 = ((nxt (nxt z) % 10 : Nat) : Int) := by rw [tmod_nn (by omega)]; omega
  have e20 : W (Int.tmod ((nxt (nxt z) : Nat) : Int) 20 + 1) = ((nxt (nxt z) % 20 + 1 : Nat) : Int) := by rw [tmod_nn (by omega), W_eq (by omega) (by omega)]; omega
  have e8 : W (Int.tmod ((nxt (nxt z) : Nat) : Int) 8 + 2) = ((nxt (nxt z) % 8 + 2 : Nat) : Int) := by rw [tmod_nn (by omega), W_eq (by omega) (by omega)]; omega
  rw [e10, e20, e8]
  unfold clueOf
  by_cases c2 : nxt z % 6 = 2
  · rw [decide_eq_true c2, cond_true]
    have e : aOf (nxt z % 6) (nxt (nxt z)) = nxt (nxt z) % 10 := by unfold aOf; rw [if_pos c2]
    rw [e] at key ⊢
    rw [key]; rfl
  · rw [decide_eq_false c2, cond_false]
    by_cases c3 : nxt z % 6 = 3
    · rw [decide_eq_true c3, cond_true]
      have e : aOf (nxt z % 6) (nxt (nxt z)) = nxt (nxt z) % 20 + 1 := by unfold aOf; rw [if_neg c2, if_pos c3]
      rw [e] at key ⊢
      rw [key]; rfl
    · rw [decide_eq_false c3, cond_false]
      by_cases c4 : nxt z % 6 = 4
      · rw [decide_eq_true c4, cond_true]
        have e : aOf (nxt z % 6) (nxt (nxt z)) = nxt (nxt z) % 8 + 2 := by unfold aOf; rw [if_neg c2, if_neg c3, if_pos c4]
        rw [e] at key ⊢
        rw [key]; rfl
      · rw [decide_eq_false c4, cond_false]
        have e : aOf (nxt z % 6) (nxt (nxt z)) = 0 := by unfold aOf; rw [if_neg c2, if_neg c3, if_neg c4]
        rw [e] at key ⊢
        rw [show (((0 : Nat) : Int)) = 0 from rfl] at key
        rw [key]; rfl

theorem mk_spec : ∀ (d k z : Nat) (b acc : List (Int × Int × Int)), d < k → z < 10007 → acc.length + d ≤ 6 →
    spec_MakePuzzle.L5 k ((d : Int), (z : Int), (p : Int), (l : Int), b, acc, ()) = some (b, acc ++ mk p l d z, ()) := by
  intro d
  induction d with
  | zero =>
    intro k z b acc hk hz ha
    obtain ⟨k, rfl⟩ : ∃ m, k = m + 1 := ⟨k - 1, by omega⟩
    show (spec_MakePuzzle.T5 (spec_MakePuzzle.L5 k) _).opt = _
    simp only [spec_MakePuzzle.T5, M.opt_ite, decide_eq_false (show ¬ (((0 : Nat) : Int) > 0) by omega), cond_false, M.opt_ret, mk, List.append_nil]
  | succ d ih =>
    intro k z b acc hk hz ha
    obtain ⟨k, rfl⟩ : ∃ m, k = m + 1 := ⟨k - 1, by omega⟩
    show (spec_MakePuzzle.T5 (spec_MakePuzzle.L5 k) _).opt = _
    have hd : W (((d + 1 : Nat) : Int) - 1) = (d : Int) := by rw [W_eq (by omega) (by omega)]; omega
    simp only [spec_MakePuzzle.T5, M.opt_ite, M.opt_bind, M.opt_ofO, M.opt_fail, decide_eq_true (show (((d + 1 : Nat) : Int) > 0) by omega), cond_true]
    rw [nxt_spec hz, nxt_spec (nxt_lt z), mod6, pzOf_g hp h1 hl z]
    simp only [Option.bind_some]
    rw [room_snoc (by omega), cond_true, hd, ih k _ b _ (by omega) (nxt_lt _) (by simp; omega)]
    simp [mk]

end

/-- What MakePuzzle answers. -/
def made (h0 h1 clues seed : Int) : List (Int × Int × Int) × Bool :=
  if inR h0 2 40 && inR h1 1 (h0 / 2) && inR clues 0 6 && inR seed 0 9999 then (mk h0.toNat h1.toNat clues.toNat seed.toNat, true) else ([], false)

theorem book_impl (h0 h1 : Int) : impl_IsHidden.g (h0, h1, ()) = some (inR h0 2 40 && inR h1 1 (h0 / 2), ()) := by
  show (impl_IsHidden.T _).opt = _
  simp only [impl_IsHidden.T, M.opt_bind, M.opt_ofO, M.opt_ite, M.opt_ret, within_g, Option.bind_some]
  cases h : inR h0 2 40 with
  | false => rfl
  | true =>
    have := inR_iff.1 h
    rw [tdiv_nn (by omega), W_eq (by omega) (by omega)]; rfl

theorem book_spec (h0 h1 : Int) : spec_pzBook.g (h0, h1, ()) = some (inR h0 2 40 && inR h1 1 (h0 / 2), ()) := by
  show (spec_pzBook.T _).opt = _
  simp only [spec_pzBook.T, M.opt_bind, M.opt_ofO, M.opt_ite, M.opt_ret, l1In_g, Option.bind_some]
  cases h : inR h0 2 40 with
  | false => rfl
  | true =>
    have := inR_iff.1 h
    rw [tdiv_nn (by omega), W_eq (by omega) (by omega)]; rfl

theorem made_impl (h0 h1 clues seed : Int) : impl_MakePuzzle.g (h0, h1, clues, seed, ()) = some ((made h0 h1 clues seed).2, (made h0 h1 clues seed).1, ()) := by
  show (impl_MakePuzzle.T (impl_MakePuzzle.L6 fuel) _).opt = _
  simp only [impl_MakePuzzle.T, M.opt_bind, M.opt_ofO, M.opt_ite, M.opt_ret, book_impl, within_g, Option.bind_some, made]
  cases ha : inR h0 2 40 with
  | false => rfl
  | true =>
    cases hb : inR h1 1 (h0 / 2) with
    | false => rfl
    | true =>
      cases hc : inR clues 0 6 with
      | false => rfl
      | true =>
        cases hd : inR seed 0 9999 with
        | false => rfl
        | true =>
          rw [inR_iff] at ha hb hc hd
          have := mk_impl (p := h0.toNat) (l := h1.toNat) (n := clues.toNat) (by omega) (by omega) (by omega) (by omega) clues.toNat 0 fuel seed.toNat [] [] (by omega) (by have := fuel_big; omega) (by omega) rfl
          rw [Int.toNat_of_nonneg (by omega), Int.toNat_of_nonneg (by omega), Int.toNat_of_nonneg (by omega), Int.toNat_of_nonneg (by omega)] at this
          simp only [Bool.and_true, Bool.not_true, cond_false, if_true]
          rw [show ((0 : Nat) : Int) = 0 from rfl] at this
          rw [this]
          rfl

theorem made_spec (h0 h1 clues seed : Int) : spec_MakePuzzle.g (h0, h1, clues, seed, ()) = some ((made h0 h1 clues seed).2, (made h0 h1 clues seed).1, ()) := by
  show (spec_MakePuzzle.T (spec_MakePuzzle.L5 fuel) _).opt = _
  simp only [spec_MakePuzzle.T, M.opt_bind, M.opt_ofO, M.opt_ite, M.opt_ret, book_spec, l1In_g, Option.bind_some, made]
  cases ha : inR h0 2 40 with
  | false => rfl
  | true =>
    cases hb : inR h1 1 (h0 / 2) with
    | false => rfl
    | true =>
      cases hc : inR clues 0 6 with
      | false => rfl
      | true =>
        cases hd : inR seed 0 9999 with
        | false => rfl
        | true =>
          rw [inR_iff] at ha hb hc hd
          have := mk_spec (p := h0.toNat) (l := h1.toNat) (by omega) (by omega) (by omega) clues.toNat fuel seed.toNat [] [] (by have := fuel_big; omega) (by omega) (by simp; omega)
          rw [Int.toNat_of_nonneg (by omega), Int.toNat_of_nonneg (by omega), Int.toNat_of_nonneg (by omega), Int.toNat_of_nonneg (by omega)] at this
          simp only [Bool.and_true, Bool.not_true, cond_false, if_true]
          rw [this]
          rfl

theorem made_length (h0 h1 clues seed : Int) : (made h0 h1 clues seed).1.length ≤ 6 := by
  unfold made
  split
  · rename_i h
    simp only [Bool.and_eq_true, inR_iff] at h
    rw [mk_length]; omega
  · simp

end Go.Proofs.YtfgkcnoiplojkaaDoor.VI
