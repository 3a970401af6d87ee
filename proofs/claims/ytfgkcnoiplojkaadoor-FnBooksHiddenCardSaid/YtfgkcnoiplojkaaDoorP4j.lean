/- Made puzzles are fit by their book. -/
import Derived.Test.YtfgkcnoiplojkaaDoorP4i
set_option linter.unusedSimpArgs false
set_option linter.unusedVariables false
namespace Go.Proofs.YtfgkcnoiplojkaaDoor.VI
open Go

theorem ge_sq {p : Nat} (h : p ≤ 40) : p * (p + 1) / 2 ≤ 820 := by
  have : p * (p + 1) ≤ 40 * 41 := Nat.mul_le_mul h (by omega)
  omega

theorem tells_range {kind a p l : Nat} (hp : p ≤ 40) (h1 : 1 ≤ l) (hl : 2 * l ≤ p) (h0 : kind < 6) : 0 ≤ tellsN kind a p l ∧ tellsN kind a p l ≤ 1000 := by
  unfold tellsN
  split
  · split <;> omega
  split
  · split <;> omega
  split
  · omega
  · obtain ⟨s1, s2⟩ := sum_all p (by omega) l (by omega) h1 hl
    have hsq := ge_sq hp
    refine ⟨by omega, ?_⟩
    by_cases k0 : kind < 2
    · rw [adds_kind k0]
      by_cases k1 : kind = 0
      · subst k1; omega
      · obtain rfl : kind = 1 := by omega
        have := tsum_le (c := len2) (b := 2) len2_le p 0
        omega
    · have : ∀ i, adds kind a l i ≤ 1 := by
        intro i
        unfold adds
        split
        · omega
        · rw [if_neg (by omega), if_neg (by omega)]; omega
      have := tsum_le (c := adds kind a l) (b := 1) this p 0
      omega

section
variable {p l : Nat} (hp : p ≤ 40) (h1 : 1 ≤ l) (hl : 2 * l ≤ p)
include hp h1 hl

theorem clueOf_ok (z : Nat) : okClue (clueOf p l z) = true ∧ fitsB (clueOf p l z) p l = true := by
  have h6 : nxt z % 6 < 6 := Nat.mod_lt _ (by decide)
  unfold clueOf
  generalize hk : nxt z % 6 = kind at h6 ⊢
  generalize nxt (nxt z) = y
  have hr := tells_range (kind := kind) (a := aOf kind y) hp h1 hl h6
  constructor
  · simp only [okClue, Bool.and_eq_true]
    refine ⟨inR_iff.2 hr, ?_⟩
    have hc : kind = 0 ∨ kind = 1 ∨ kind = 2 ∨ kind = 3 ∨ kind = 4 ∨ kind = 5 := by omega
    rcases hc with rfl | rfl | rfl | rfl | rfl | rfl
    · simp [aOf]
    · simp [aOf]
    · simp [aOf, inR_iff]; omega
    · simp only [aOf, tellsN, inR_iff] at hr ⊢
      simp [inR_iff]
      refine ⟨by omega, ?_⟩
      split <;> omega
    · simp only [aOf, tellsN, inR_iff] at hr ⊢
      simp [inR_iff]
      refine ⟨by omega, ?_⟩
      split <;> omega
    · simp [aOf]
  · simp [fitsB]

theorem mk_ok : ∀ n z, ∀ c ∈ mk p l n z, okClue c = true ∧ fitsB c p l = true
  | 0, z, c, hc => by simp [mk] at hc
  | n + 1, z, c, hc => by
    rcases List.mem_cons.1 hc with rfl | hc
    · exact clueOf_ok hp h1 hl z
    · exact mk_ok n _ c hc
end

theorem made_facts {h0 h1 c z : Int} (h : (made h0 h1 c z).2 = true) : book h0 h1 = true ∧ ((made h0 h1 c z).1.length : Int) = c ∧ okPz (made h0 h1 c z).1 = true ∧ ∀ x ∈ (made h0 h1 c z).1, okClue x = true ∧ fitsB x h0.toNat h1.toNat = true := by
  unfold made at h ⊢
  split
  · rename_i hr
    simp only [Bool.and_eq_true] at hr
    obtain ⟨⟨⟨ha, hb⟩, hc⟩, hd⟩ := hr
    have hbook : book h0 h1 = true := by simp [book, ha, hb]
    rw [inR_iff] at ha hb hc
    have hok := mk_ok (p := h0.toNat) (l := h1.toNat) (by omega) (by omega) (by omega) c.toNat z.toNat
    have hl := mk_length h0.toNat h1.toNat c.toNat z.toNat
    refine ⟨hbook, by show ((mk _ _ _ _).length : Int) = c; rw [hl]; omega, ?_, hok⟩
    simp only [okPz, Bool.and_eq_true, decide_eq_true_eq, List.all_eq_true]
    exact ⟨by rw [hl]; omega, fun x hx => (hok x hx).1⟩
  · rename_i hr; rw [if_neg hr] at h; cases h

theorem does_pair {c : Clue} {p l : Nat} (hp : 2 ≤ p) (hp2 : p ≤ 40) (h1 : 1 ≤ l) (hl : 2 * l ≤ p) (hc : okClue c = true) (hf : fitsB c p l = true) : does c (p : Int) (l : Int) = (true, true) := by
  have hb : book (p : Int) (l : Int) = true := by simp only [book, Bool.and_eq_true, inR_iff]; omega
  unfold does
  rw [hc, hb]
  show (fitsB c (Int.toNat (p : Int)) (Int.toNat (l : Int)), true) = _
  rw [Int.toNat_natCast, Int.toNat_natCast, hf]

set_option linter.unusedSectionVars false
section
variable {p l : Nat} (hp : 2 ≤ p) (hp2 : p ≤ 40) (h1 : 1 ≤ l) (hl : 2 * l ≤ p)
include hp hp2 h1 hl

theorem W_sum : W (Int.tdiv (W ((p : Int) * (W ((p : Int) + 1)))) 2) = ((p * (p + 1) / 2 : Nat) : Int) := by
  have hsq := ge_sq hp2
  have hmul : (p : Int) * ((p : Int) + 1) = ((p * (p + 1) : Nat) : Int) := by rw [Int.natCast_mul]; rfl
  have hm : p * (p + 1) ≤ 40 * 41 := Nat.mul_le_mul hp2 (by omega)
  rw [W_eq (x := (p : Int) + 1) (by omega) (by omega), hmul, W_eq (x := ((p * (p + 1) : Nat) : Int)) (by omega) (by omega), tdiv_nn (by omega), W_eq (by omega) (by omega)]
  omega

theorem SumOfPages_g : impl_SumOfPages.g ((p : Int), ()) = some (((p * (p + 1) / 2 : Nat) : Int), true, ()) := by
  show (impl_SumOfPages.T _).opt = _
  have hb : impl_isBook.g ((p : Int), ()) = some (true, ()) := by
    show (impl_isBook.T _).opt = _
    simp only [impl_isBook.T, M.opt_ofO, within_g]
    rw [inR_iff.2 (by omega)]
  simp only [impl_SumOfPages.T, M.opt_bind, M.opt_ofO, M.opt_ite, M.opt_ret, hb, Option.bind_some, Bool.not_true, cond_false, W_sum hp hp2 h1 hl]

theorem W_leaf : W (W (4 * (l : Int)) - 1) = 4 * (l : Int) - 1 := by
  rw [W_eq (x := 4 * (l : Int)) (by omega) (by omega), W_eq (by omega) (by omega)]

theorem SumOfLeaf_g : impl_SumOfLeaf.g ((l : Int), ()) = some (4 * (l : Int) - 1, true, ()) := by
  show (impl_SumOfLeaf.T _).opt = _
  have hb : impl_isLeaf.g ((l : Int), ()) = some (true, ()) := by
    show (impl_isLeaf.T _).opt = _
    simp only [impl_isLeaf.T, M.opt_ofO, within_g]
    rw [inR_iff.2 (by omega)]
  simp only [impl_SumOfLeaf.T, M.opt_bind, M.opt_ofO, M.opt_ite, M.opt_ret, hb, Option.bind_some, Bool.not_true, cond_false, W_leaf hp hp2 h1 hl]

theorem rest_eq : W (((p * (p + 1) / 2 : Nat) : Int) - (4 * (l : Int) - 1)) = ((tsum (adds 0 0 l) 0 p : Nat) : Int) := by
  obtain ⟨s1, _⟩ := sum_all p (by omega) l (by omega) h1 hl
  have hsq := ge_sq hp2
  rw [W_eq (by omega) (by omega)]
  omega

theorem TornLeaf_g : impl_TornLeaf.g ((p : Int), ((tsum (adds 0 0 l) 0 p : Nat) : Int), ()) = some ((l : Int), true, ()) := by
  obtain ⟨s1, _⟩ := sum_all p (by omega) l (by omega) h1 hl
  have hsq := ge_sq hp2
  show (impl_TornLeaf.T _).opt = _
  have hb : impl_isBook.g ((p : Int), ()) = some (true, ()) := by
    show (impl_isBook.T _).opt = _
    simp only [impl_isBook.T, M.opt_ofO, within_g]
    rw [inR_iff.2 (by omega)]
  have ht : impl_tornLeaf.g ((p : Int), ((tsum (adds 0 0 l) 0 p : Nat) : Int), ()) = some ((l : Int), ()) := by
    show (impl_tornLeaf.T _).opt = _
    have e1 : W (((p * (p + 1) / 2 : Nat) : Int) - ((tsum (adds 0 0 l) 0 p : Nat) : Int)) = 4 * (l : Int) - 1 := by rw [W_eq (by omega) (by omega)]; omega
    have e2 : W (4 * (l : Int) - 1 + 1) = 4 * (l : Int) := by rw [W_eq (by omega) (by omega)]; omega
    have e3 : W (Int.tdiv (4 * (l : Int)) 4) = (l : Int) := by rw [tdiv_nn (by omega), W_eq (by omega) (by omega)]; omega
    have e4 : W (2 * (l : Int)) = 2 * (l : Int) := W_eq (by omega) (by omega)
    simp only [impl_tornLeaf.T, M.opt_ite, M.opt_ret, W_sum hp hp2 h1 hl, e1, e2, e3, e4, W_leaf hp hp2 h1 hl, decide_eq_true (show 4 * (l : Int) - 1 > 0 by omega), decide_eq_true (show 2 * (l : Int) ≤ (p : Int) by omega), cond_true, beq_self_eq_true]
  simp only [impl_TornLeaf.T, M.opt_bind, M.opt_ofO, M.opt_ite, M.opt_ret, hb, Option.bind_some, Bool.not_true, cond_false, ht, decide_eq_false (show ¬ ((tsum (adds 0 0 l) 0 p : Nat) : Int) < 0 by omega), decide_eq_true (show (l : Int) > 0 by omega)]

theorem fit0 : does (0, 0, ((tsum (adds 0 0 l) 0 p : Nat) : Int)) (p : Int) (l : Int) = (true, true) := by
  obtain ⟨s1, _⟩ := sum_all p (by omega) l (by omega) h1 hl
  have hsq := ge_sq hp2
  refine does_pair hp hp2 h1 hl ?_ ?_
  · simp [okClue, inR_iff]; omega
  · simp [fitsB, tellsN]

theorem fit5 : does (5, 0, 4 * (l : Int) - 1) (p : Int) (l : Int) = (true, true) := by
  refine does_pair hp hp2 h1 hl ?_ ?_
  · simp [okClue, inR_iff]; omega
  · simp [fitsB, tellsN]

theorem fit3 : does (3, (l : Int), 1) (p : Int) (l : Int) = (true, true) := by
  refine does_pair hp hp2 h1 hl ?_ ?_
  · simp [okClue, inR_iff]; omega
  · simp [fitsB, tellsN]
end

end Go.Proofs.YtfgkcnoiplojkaaDoor.VI
