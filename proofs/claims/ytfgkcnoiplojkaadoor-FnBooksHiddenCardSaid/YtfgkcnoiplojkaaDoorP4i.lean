/- Puzzles, plainly: the puzzles that are drawn. -/
import Derived.Test.YtfgkcnoiplojkaaDoorP4h
set_option linter.unusedSimpArgs false
set_option linter.unusedVariables false
namespace Go.Proofs.YtfgkcnoiplojkaaDoor.VI
open Go

theorem room24' {n : Nat} (h : n ≤ 2000) : room n 24 = true := room_ok (by omega)

section
variable {code : List Int} {a s : Int} {n : Nat}

theorem sure_g (h : Cur code a n) (hn : n ≤ 60000) (m : Int) (hm : 0 ≤ m) (hm2 : m ≤ 100) : OG (spec_l1Cur_surePuzzle.g (m, code, a, s, ())) fun v => ∃ a s xs, v = (code, a, s, xs, ()) ∧ Cur code a (n + 8) ∧ xs.length ≤ 6 := by
  show MG (spec_l1Cur_surePuzzle.T (m, code, a, s, ())) _
  refine MG.bindo (hidden_g h (by omega)) ?_
  rintro ⟨x0, x1, _⟩ ⟨a1, s1, rfl, c1⟩
  refine MG.bindo (pick_g c1 (by omega) _ (by rw [W_eq (by omega) (by omega)]; omega)) ?_
  rintro ⟨x2, _⟩ ⟨_, _, _, a2, s2, rfl, c2⟩
  refine MG.bindo (pick_g c2 (by omega) 10000 (by omega)) ?_
  rintro ⟨x3, _⟩ ⟨_, _, _, a3, s3, rfl, c3⟩
  refine MG.bindo (made_og _ _ _ _) ?_
  rintro _ ⟨xs, b, rfl, hl, _⟩
  exact MG.ret ⟨_, _, _, rfl, c3, hl⟩

theorem puzzle_L : ∀ (d k n : Nat) (a s : Int) (b xs : List Clue), Cur code a n → n + 2 * d ≤ 50000 → xs.length + d = 8 → d < k →
    OG (spec_l1Cur_puzzle.L7 k (code, a, s, b, xs, ())) fun v => ∃ a s b ys, v = (code, a, s, b, ys, ()) ∧ Cur code a (n + 2 * d + 2) ∧ ys.length ≤ 8 := by
  intro d
  induction d with
  | zero =>
    intro k n a s b xs h hn hl hk
    obtain ⟨k, rfl⟩ : ∃ m, k = m + 1 := ⟨k - 1, by omega⟩
    show MG (spec_l1Cur_puzzle.T7 (spec_l1Cur_puzzle.L7 k) (code, a, s, b, xs, ())) _
    refine MG.bindo (pick_g h (by omega) 2 (by omega)) ?_
    rintro ⟨x, _⟩ ⟨h0, h1, _, a1, s1, rfl, c1⟩
    have h1 := h1 (by omega)
    simp only at h0 h1
    have hw : W (6 + x) = 6 + x := W_eq (by omega) (by omega)
    exact MG.no (decide_eq_false (by simp only [hw]; omega)) (MG.ret ⟨_, _, _, _, rfl, c1.up (by omega), by omega⟩)
  | succ d ih =>
    intro k n a s b xs h hn hl hk
    obtain ⟨k, rfl⟩ : ∃ m, k = m + 1 := ⟨k - 1, by omega⟩
    show MG (spec_l1Cur_puzzle.T7 (spec_l1Cur_puzzle.L7 k) (code, a, s, b, xs, ())) _
    refine MG.bindo (pick_g h (by omega) 2 (by omega)) ?_
    rintro ⟨x, _⟩ ⟨h0, h1, _, a1, s1, rfl, c1⟩
    refine MG.ite (fun _ => MG.yes (room24' (by simp; omega)) (MG.ofO ?_)) (fun _ => MG.ret ⟨_, _, _, _, rfl, c1.up (by omega), by omega⟩)
    refine (ih k (n + 2) a1 s1 b _ c1 (by omega) (by simp; omega) (by omega)).mono ?_
    rintro _ ⟨a2, s2, b2, ys, rfl, c2, hy⟩
    exact ⟨_, _, _, _, rfl, c2.up (by omega), hy⟩

theorem puzzle_j (h : Cur code a n) (hn : n ≤ 40000) (t : Int) (f : Bool) (b xs : List Clue) (hx : xs.length ≤ 6) :
    OG (spec_l1Cur_puzzle.L5j fuel (t, f, code, a, s, b, xs, ())) fun v => ∃ a s b ys, v = (code, a, s, b, ys, ()) ∧ Cur code a (n + 20) ∧ ys.length ≤ 8 := by
  have hf := fuel_big
  obtain ⟨m, hm⟩ := fuel_succ
  rw [hm]
  show MG (spec_l1Cur_puzzle.T5j (spec_l1Cur_puzzle.L7 m) (t, f, code, a, s, b, xs, ())) _
  refine MG.ite (fun _ => ?_) (fun _ => MG.ite (fun _ => MG.ofO ?_) (fun _ => MG.ret ⟨_, _, _, _, rfl, h.up (by omega), by omega⟩))
  · refine MG.bindo (clue_g h (by omega)) ?_
    rintro ⟨x0, x1, x2, _⟩ ⟨a1, s1, rfl, c1⟩
    exact MG.yes (room24' (by simp; omega)) (MG.ret ⟨_, _, _, _, rfl, c1, by simp; omega⟩)
  · refine (puzzle_L (8 - xs.length) m n a s b xs h (by omega) (by omega) (by omega)).mono ?_
    rintro _ ⟨a2, s2, b2, ys, rfl, c2, hy⟩
    exact ⟨_, _, _, _, rfl, c2.up (by omega), hy⟩

theorem puzzle_g (h : Cur code a n) (hn : n ≤ 30000) : OG (spec_l1Cur_puzzle.g (code, a, s, ())) fun v => ∃ a s xs, v = (xs, code, a, s, ()) ∧ Cur code a (n + 30) ∧ xs.length ≤ 8 := by
  show MG (spec_l1Cur_puzzle.T (spec_l1Cur_puzzle.L5j fuel) (code, a, s, ())) _
  refine MG.bindo (sure_g h (by omega) 5 (by omega) (by omega)) ?_
  rintro _ ⟨a1, s1, xs, rfl, c1, hx⟩
  refine MG.bindo (pick_g c1 (by omega) 12 (by omega)) ?_
  rintro ⟨x, _⟩ ⟨_, _, _, a2, s2, rfl, c2⟩
  refine MG.ite (fun _ => ?_) (fun _ => ?_)
  all_goals
    refine MG.bindo (puzzle_j c2 (by omega) _ _ _ _ hx) ?_
    rintro _ ⟨a3, s3, b3, ys, rfl, c3, hy⟩
    exact MG.ret ⟨_, _, _, rfl, c3.up (by omega), hy⟩
end

section
variable {code : List Int} (h : Cur code 0 0)
include h

theorem DrawMakePuzzle_g : OG (spec_DrawMakePuzzle.g (code, ())) fun _ => True := by
  show MG (spec_DrawMakePuzzle.T (code, ())) _
  refine MG.bindo (one_g h (by omega) 12 (by omega)) ?_
  rintro ⟨x, _⟩ ⟨a1, s1, rfl, c1⟩
  refine MG.ite (fun _ => ?_) (fun _ => ?_)
  · refine MG.bindo (among_g c1 (by omega) [1, 2, 40, 41] (by decide) (by decide)) ?_
    rintro ⟨x1, _⟩ ⟨a2, s2, rfl, c2⟩
    refine MG.bindo (among_g c2 (by omega) [0, 1, 20, 21] (by decide) (by decide)) ?_
    rintro ⟨x2, _⟩ ⟨a3, s3, rfl, c3⟩
    refine MG.bindo (among_g c3 (by omega) [(-1), 6, 7] (by decide) (by decide)) ?_
    rintro ⟨x3, _⟩ ⟨a4, s4, rfl, c4⟩
    refine MG.bindo (among_g c4 (by omega) [(-1), 9999, 10000] (by decide) (by decide)) ?_
    rintro ⟨x4, _⟩ ⟨a5, s5, rfl, c5⟩
    exact MG.ret trivial
  · refine MG.bindo (hidden_g c1 (by omega)) ?_
    rintro ⟨x0, x1, _⟩ ⟨a2, s2, rfl, c2⟩
    refine MG.bindo (pick_g c2 (by omega) 7 (by omega)) ?_
    rintro ⟨x2, _⟩ ⟨_, _, _, a3, s3, rfl, c3⟩
    refine MG.bindo (pick_g c3 (by omega) 10000 (by omega)) ?_
    rintro ⟨x3, _⟩ ⟨_, _, _, a4, s4, rfl, c4⟩
    exact MG.ret trivial

theorem DrawHarderPuzzle_g : OG (spec_DrawHarderPuzzle.g (code, ())) fun v => v.1.length ≤ 8 := by
  show MG (spec_DrawHarderPuzzle.T (code, ())) _
  refine MG.bindo (one_g h (by omega) 4 (by omega)) ?_
  rintro ⟨x, _⟩ ⟨a1, s1, rfl, c1⟩
  refine MG.ite (fun _ => ?_) (fun _ => ?_)
  · refine MG.bindo (puzzle_g c1 (by omega)) ?_
    rintro _ ⟨a2, s2, xs, rfl, _, hx⟩
    exact MG.ret hx
  · refine MG.bindo (hidden_g c1 (by omega)) ?_
    rintro ⟨x0, x1, _⟩ ⟨a2, s2, rfl, c2⟩
    refine MG.bindo (pick_g c2 (by omega) 3 (by omega)) ?_
    rintro ⟨x2, _⟩ ⟨_, _, _, a3, s3, rfl, c3⟩
    refine MG.bindo (pick_g c3 (by omega) 10000 (by omega)) ?_
    rintro ⟨x3, _⟩ ⟨_, _, _, a4, s4, rfl, c4⟩
    refine MG.bindo (made_og _ _ _ _) ?_
    rintro _ ⟨xs, b, rfl, hl, _⟩
    exact MG.yes (room24' (by simp; omega)) (MG.ret (by simp; omega))

theorem DrawAddClue_g : OG (spec_DrawAddClue.g (code, ())) fun v => v.1.length ≤ 8 := by
  show MG (spec_DrawAddClue.T (code, ())) _
  refine MG.bindo (puzzle_g h (by omega)) ?_
  rintro _ ⟨a2, s2, xs, rfl, c2, hx⟩
  refine MG.bindo (clue_g c2 (by omega)) ?_
  rintro ⟨x0, x1, x2, _⟩ ⟨a3, s3, rfl, c3⟩
  exact MG.ret hx

theorem DrawDropClue_g : OG (spec_DrawDropClue.g (code, ())) fun v => v.1.length ≤ 8 := by
  show MG (spec_DrawDropClue.T (code, ())) _
  refine MG.bindo (puzzle_g h (by omega)) ?_
  rintro _ ⟨a2, s2, xs, rfl, c2, hx⟩
  refine MG.bindo (pick_g c2 (by omega) 6 (by omega)) ?_
  rintro ⟨x2, _⟩ ⟨_, _, _, a3, s3, rfl, c3⟩
  refine MG.bindo (pick_g c3 (by omega) 9 (by omega)) ?_
  rintro ⟨x3, _⟩ ⟨_, _, _, a4, s4, rfl, c4⟩
  exact MG.ret hx

theorem DrawDoesFit_g : OG (spec_DrawDoesFit.g (code, ())) fun _ => True := by
  show MG (spec_DrawDoesFit.T (code, ())) _
  refine MG.bindo (hidden_g h (by omega)) ?_
  rintro ⟨x0, x1, _⟩ ⟨a2, s2, rfl, c2⟩
  refine MG.bindo (pick_g c2 (by omega) 10000 (by omega)) ?_
  rintro ⟨x2, _⟩ ⟨_, _, _, a3, s3, rfl, c3⟩
  refine MG.bindo (made_og _ _ _ _) ?_
  rintro _ ⟨xs, b, rfl, hl, hb⟩
  refine MG.ite (fun hb1 => ?_) (fun _ => ?_)
  · refine MG.bindo (one_g c3 (by omega) 3 (by omega)) ?_
    rintro ⟨x3, _⟩ ⟨a4, s4, rfl, c4⟩
    refine MG.ite (fun _ => ?_) (fun _ => ?_)
    · have hlen : xs.length = 1 := hb hb1
      refine MG.yes (by simp [inside]; omega) ?_
      refine MG.bindo (P := fun _ => True) ⟨_, List.getElem?_eq_getElem (show (0 : Nat) < xs.length by omega), trivial⟩ ?_
      rintro e -
      exact MG.ret trivial
    · refine MG.bindo (one_g c4 (by omega) 10 (by omega)) ?_
      rintro ⟨x4, _⟩ ⟨a5, s5, rfl, c5⟩
      refine MG.ite (fun _ => ?_) (fun _ => ?_)
      · refine MG.bindo (among_g c5 (by omega) [(-1), 0, 21, 4611686018427387904] (by decide) (by decide)) ?_
        rintro ⟨x5, _⟩ ⟨a6, s6, rfl, c6⟩
        refine MG.bindo (clue_g c6 (by omega)) ?_
        rintro ⟨x6, x7, x8, _⟩ ⟨a7, s7, rfl, c7⟩
        exact MG.ret trivial
      · refine MG.bindo (clue_g c5 (by omega)) ?_
        rintro ⟨x6, x7, x8, _⟩ ⟨a7, s7, rfl, c7⟩
        exact MG.ret trivial
  · refine MG.bindo (one_g c3 (by omega) 10 (by omega)) ?_
    rintro ⟨x4, _⟩ ⟨a5, s5, rfl, c5⟩
    refine MG.ite (fun _ => ?_) (fun _ => ?_)
    · refine MG.bindo (among_g c5 (by omega) [(-1), 0, 21, 4611686018427387904] (by decide) (by decide)) ?_
      rintro ⟨x5, _⟩ ⟨a6, s6, rfl, c6⟩
      refine MG.bindo (clue_g c6 (by omega)) ?_
      rintro ⟨x6, x7, x8, _⟩ ⟨a7, s7, rfl, c7⟩
      exact MG.ret trivial
    · refine MG.bindo (clue_g c5 (by omega)) ?_
      rintro ⟨x6, x7, x8, _⟩ ⟨a7, s7, rfl, c7⟩
      exact MG.ret trivial

theorem DrawIsClue_g : OG (spec_DrawIsClue.g (code, ())) fun _ => True := by
  show MG (spec_DrawIsClue.T (code, ())) _
  refine MG.bindo (one_g h (by omega) 3 (by omega)) ?_
  rintro ⟨x, _⟩ ⟨a1, s1, rfl, c1⟩
  refine MG.ite (fun _ => ?_) (fun _ => ?_)
  · refine MG.bindo (pick_g c1 (by omega) 7 (by omega)) ?_
    rintro ⟨x2, _⟩ ⟨_, _, _, a3, s3, rfl, c3⟩
    refine MG.bindo (pick_g c3 (by omega) 9 (by omega)) ?_
    rintro ⟨x3, _⟩ ⟨_, _, _, a4, s4, rfl, c4⟩
    refine MG.bindo (among_g c4 (by omega) [(-1), 0, 0, 1, 2, 9, 10, 40, 41, 4611686018427387904] (by decide) (by decide)) ?_
    rintro ⟨x5, _⟩ ⟨a6, s6, rfl, c6⟩
    refine MG.bindo (among_g c6 (by omega) [(-1), 0, 1, 2, 1000, 1001] (by decide) (by decide)) ?_
    rintro ⟨x6, _⟩ ⟨a7, s7, rfl, c7⟩
    exact MG.ret trivial
  · refine MG.bindo (clue_g c1 (by omega)) ?_
    rintro ⟨x6, x7, x8, _⟩ ⟨a7, s7, rfl, c7⟩
    exact MG.ret trivial

theorem DrawIsHidden_g : OG (spec_DrawIsHidden.g (code, ())) fun _ => True := by
  show MG (spec_DrawIsHidden.T (code, ())) _
  refine MG.bindo (one_g h (by omega) 3 (by omega)) ?_
  rintro ⟨x, _⟩ ⟨a1, s1, rfl, c1⟩
  refine MG.ite (fun _ => ?_) (fun _ => ?_)
  · refine MG.bindo (among_g c1 (by omega) [(-1), 0, 1, 2, 3, 40, 41, 4611686018427387904] (by decide) (by decide)) ?_
    rintro ⟨x5, _⟩ ⟨a6, s6, rfl, c6⟩
    refine MG.bindo (among_g c6 (by omega) [(-1), 0, 1, 2, 20, 21, 4611686018427387904] (by decide) (by decide)) ?_
    rintro ⟨x6, _⟩ ⟨a7, s7, rfl, c7⟩
    exact MG.ret trivial
  · refine MG.bindo (hidden_g c1 (by omega)) ?_
    rintro ⟨x0, x1, _⟩ ⟨a2, s2, rfl, c2⟩
    exact MG.ret trivial
end
end Go.Proofs.YtfgkcnoiplojkaaDoor.VI
