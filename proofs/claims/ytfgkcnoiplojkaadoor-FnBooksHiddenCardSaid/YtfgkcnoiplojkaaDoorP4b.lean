/- Made puzzles, plainly: what clues tell is the same by both. -/
import Derived.Test.YtfgkcnoiplojkaaDoorP4a
set_option linter.unusedSimpArgs false
set_option linter.unusedVariables false
namespace Go.Proofs.YtfgkcnoiplojkaaDoor.VI
open Go

/-- The sum of c over i + 1, .., i + d. -/
def tsum (c : Nat → Nat) (i : Nat) : Nat → Nat
  | 0 => 0
  | d + 1 => c (i + 1) + tsum c (i + 1) d

theorem tsum_le {c : Nat → Nat} {b : Nat} (h : ∀ i, c i ≤ b) : ∀ d i, tsum c i d ≤ d * b
  | 0, i => by simp [tsum]
  | d + 1, i => by
    have := tsum_le h d (i + 1)
    have := h (i + 1)
    simp only [tsum, Nat.succ_mul]; omega

/-- What a page adds for a kind of clue. -/
def adds (kind a l page : Nat) : Nat :=
  if (page + 1) / 2 = l then 0 else if kind = 0 then page else if kind = 1 then len2 page else min 1 (cnt2 page a)

theorem len2_le (n : Nat) : len2 n ≤ 2 := by unfold len2; split <;> omega
theorem cnt2_le (n a : Nat) : cnt2 n a ≤ 2 := by unfold cnt2; split <;> (repeat' split) <;> omega

theorem adds_le {kind a l page : Nat} (h : page ≤ 40) : adds kind a l page ≤ 40 := by
  unfold adds
  have := len2_le page
  split
  · omega
  · split
    · omega
    · split
      · omega
      · exact Nat.le_trans (Nat.min_le_left _ _) (by omega)

theorem half (i : Nat) (h : i ≤ 1000) : W (Int.tdiv (W (((i : Nat) : Int) + 1)) 2) = (((i + 1) / 2 : Nat) : Int) := by
  rw [W_eq (x := (i : Int) + 1) (by omega) (by omega), tdiv_nn (by omega), W_eq (by omega) (by omega)]
  omega

theorem tells_L {kind a p l : Nat} (ha : a < 10) (hp : p ≤ 40) : ∀ (d i k sum : Nat), i + d = p → d < k → sum ≤ 40 * i →
    impl_Hidden_tells.L10 k ((kind : Int), (a : Int), (sum : Int), ((i + 1 : Nat) : Int), (p : Int), (l : Int), ()) = some (((sum + tsum (adds kind a l) i d : Nat) : Int), ()) := by
  intro d
  induction d with
  | zero =>
    intro i k sum hi hk hs
    obtain ⟨k, rfl⟩ : ∃ m, k = m + 1 := ⟨k - 1, by omega⟩
    show (impl_Hidden_tells.T10 (impl_Hidden_tells.L10 k) _).opt = _
    simp only [impl_Hidden_tells.T10, M.opt_ite, decide_eq_false (show ¬ (((i + 1 : Nat) : Int) ≤ (p : Int)) by omega), cond_false, M.opt_ret, tsum, Nat.add_zero]
  | succ d ih =>
    intro i k sum hi hk hs
    obtain ⟨k, rfl⟩ : ∃ m, k = m + 1 := ⟨k - 1, by omega⟩
    show (impl_Hidden_tells.T10 (impl_Hidden_tells.L10 k) _).opt = _
    have h1 : W (((i + 1 : Nat) : Int) + 1) = ((i + 1 + 1 : Nat) : Int) := by rw [W_eq (by omega) (by omega)]; omega
    have h2 : ∀ x : Nat, x ≤ 40 → W ((sum : Int) + (x : Int)) = ((sum + x : Nat) : Int) := fun x hx => by rw [W_eq (by omega) (by omega)]; omega
    have h3 : ((((i + 1 + 1) / 2 : Nat) : Int) == (l : Int)) = decide ((i + 1 + 1) / 2 = l) := by
      by_cases e : (i + 1 + 1) / 2 = l
      · rw [e]; simp
      · rw [decide_eq_false e]; exact beq_eq_false_iff_ne.2 (by omega)
    have h4 : ((kind : Int) == 0) = decide (kind = 0) := by
      by_cases e : kind = 0
      · rw [e]; simp
      · rw [decide_eq_false e]; exact beq_eq_false_iff_ne.2 (by omega)
    have h5 : ((kind : Int) == 1) = decide (kind = 1) := by
      by_cases e : kind = 1
      · rw [e]; simp
      · rw [decide_eq_false e]; exact beq_eq_false_iff_ne.2 (by omega)
    have h6 : min (1 : Int) ((cnt2 (i + 1) a : Nat) : Int) = ((min 1 (cnt2 (i + 1) a) : Nat) : Int) := by omega
    simp only [impl_Hidden_tells.T10, M.opt_ite, M.opt_bind, M.opt_ofO, decide_eq_true (show (((i + 1 : Nat) : Int) ≤ (p : Int)) by omega), cond_true]
    rw [half (i + 1) (by omega), h1, h3, h4, h5, Itoa_g _ (by omega), used_g (by omega) ha]
    simp only [Option.bind_some]
    rw [digs_len2 (by omega), h6]
    have hl := len2_le (i + 1)
    have hm : min 1 (cnt2 (i + 1) a) ≤ 1 := Nat.min_le_left _ _
    rw [h2 (i + 1) (by omega), h2 _ (by omega : len2 (i + 1) ≤ 40), h2 _ (by omega : min 1 (cnt2 (i + 1) a) ≤ 40)]
    have hd := adds_le (kind := kind) (a := a) (l := l) (page := i + 1) (by omega)
    have e : adds kind a l (i + 1) = if (i + 1 + 1) / 2 = l then 0 else if kind = 0 then i + 1 else if kind = 1 then len2 (i + 1) else min 1 (cnt2 (i + 1) a) := rfl
    have fin := ih (i + 1) k (sum + adds kind a l (i + 1)) (by omega) (by omega) (by omega)
    rw [show sum + tsum (adds kind a l) i (d + 1) = sum + adds kind a l (i + 1) + tsum (adds kind a l) (i + 1) d by rw [tsum]; omega]
    rw [← fin, e]
    by_cases c1 : (i + 1 + 1) / 2 = l
    · rw [decide_eq_true c1, cond_true, if_pos c1]; rfl
    · rw [decide_eq_false c1, cond_false, if_neg c1]
      by_cases c2 : kind = 0
      · rw [decide_eq_true c2, cond_true, if_pos c2]
      · rw [decide_eq_false c2, cond_false, if_neg c2]
        by_cases c3 : kind = 1
        · rw [decide_eq_true c3, cond_true, if_pos c3]
        · rw [decide_eq_false c3, cond_false, if_neg c3]

theorem pz_L {a p l : Nat} (ha : a < 10) (hp : p ≤ 40) : ∀ (d i k sum : Nat), i + d = p → d < k → sum ≤ 40 * i →
    spec_pzValue.L10 k ((a : Int), (sum : Int), ((i + 1 : Nat) : Int), (p : Int), (l : Int), ()) = some (((sum + tsum (adds 2 a l) i d : Nat) : Int), ()) := by
  intro d
  induction d with
  | zero =>
    intro i k sum hi hk hs
    obtain ⟨k, rfl⟩ : ∃ m, k = m + 1 := ⟨k - 1, by omega⟩
    show (spec_pzValue.T10 (spec_pzValue.L10 k) _).opt = _
    simp only [spec_pzValue.T10, M.opt_ite, decide_eq_false (show ¬ (((i + 1 : Nat) : Int) ≤ (p : Int)) by omega), cond_false, M.opt_ret, tsum, Nat.add_zero]
  | succ d ih =>
    intro i k sum hi hk hs
    obtain ⟨k, rfl⟩ : ∃ m, k = m + 1 := ⟨k - 1, by omega⟩
    show (spec_pzValue.T10 (spec_pzValue.L10 k) _).opt = _
    have h1 : W (((i + 1 : Nat) : Int) + 1) = ((i + 1 + 1 : Nat) : Int) := by rw [W_eq (by omega) (by omega)]; omega
    have h2 : W ((sum : Int) + 1) = ((sum + 1 : Nat) : Int) := by rw [W_eq (by omega) (by omega)]; omega
    have h3 : ((((i + 1 + 1) / 2 : Nat) : Int) != (l : Int)) = !decide ((i + 1 + 1) / 2 = l) := by
      by_cases e : (i + 1 + 1) / 2 = l
      · rw [e]; simp
      · rw [decide_eq_false e]; exact bne_iff_ne.2 (by omega)
    have h4 : (decide (((cnt2 (i + 1) a : Nat) : Int) > 0)) = decide (min 1 (cnt2 (i + 1) a) = 1) := by
      apply decide_eq_decide.2; omega
    simp only [spec_pzValue.T10, M.opt_ite, M.opt_bind, M.opt_ofO, decide_eq_true (show (((i + 1 : Nat) : Int) ≤ (p : Int)) by omega), cond_true]
    rw [half (i + 1) (by omega), h1, h2, h3, bpCount_g (by omega) (by omega)]
    simp only [Option.bind_some]
    rw [h4]
    have hd := adds_le (kind := 2) (a := a) (l := l) (page := i + 1) (by omega)
    have e : adds 2 a l (i + 1) = if (i + 1 + 1) / 2 = l then 0 else min 1 (cnt2 (i + 1) a) := by simp [adds]
    have fin := ih (i + 1) k (sum + adds 2 a l (i + 1)) (by omega) (by omega) (by omega)
    have hm : min 1 (cnt2 (i + 1) a) ≤ 1 := Nat.min_le_left _ _
    rw [show sum + tsum (adds 2 a l) i (d + 1) = sum + adds 2 a l (i + 1) + tsum (adds 2 a l) (i + 1) d by rw [tsum]; omega]
    rw [← fin, e]
    by_cases c1 : (i + 1 + 1) / 2 = l
    · rw [decide_eq_true c1, Bool.not_true, cond_false, if_pos c1]; rfl
    · rw [decide_eq_false c1, Bool.not_false, cond_true, if_neg c1]
      by_cases c2 : min 1 (cnt2 (i + 1) a) = 1
      · rw [decide_eq_true c2, cond_true, c2]
      · rw [decide_eq_false c2, cond_false, show min 1 (cnt2 (i + 1) a) = 0 by omega]; rfl

theorem dig_L {p : Nat} (hp : p ≤ 40) : ∀ (d i k sum : Nat), i + d = p → d < k → sum ≤ 2 * i →
    spec_bpDigits.L3 k ((p : Int), (sum : Int), ((i + 1 : Nat) : Int), ()) = some (((sum + tsum len2 i d : Nat) : Int), ()) := by
  intro d
  induction d with
  | zero =>
    intro i k sum hi hk hs
    obtain ⟨k, rfl⟩ : ∃ m, k = m + 1 := ⟨k - 1, by omega⟩
    show (spec_bpDigits.T3 (spec_bpDigits.L3 k) _).opt = _
    simp only [spec_bpDigits.T3, M.opt_ite, decide_eq_false (show ¬ (((i + 1 : Nat) : Int) ≤ (p : Int)) by omega), cond_false, M.opt_ret, tsum, Nat.add_zero]
  | succ d ih =>
    intro i k sum hi hk hs
    obtain ⟨k, rfl⟩ : ∃ m, k = m + 1 := ⟨k - 1, by omega⟩
    show (spec_bpDigits.T3 (spec_bpDigits.L3 k) _).opt = _
    have hl := len2_le (i + 1)
    have h1 : W (((i + 1 : Nat) : Int) + 1) = ((i + 1 + 1 : Nat) : Int) := by rw [W_eq (by omega) (by omega)]; omega
    have h2 : W ((sum : Int) + ((len2 (i + 1) : Nat) : Int)) = ((sum + len2 (i + 1) : Nat) : Int) := by rw [W_eq (by omega) (by omega)]; omega
    simp only [spec_bpDigits.T3, M.opt_ite, M.opt_bind, M.opt_ofO, decide_eq_true (show (((i + 1 : Nat) : Int) ≤ (p : Int)) by omega), cond_true]
    rw [h1, l1Num_g _ (by omega)]
    simp only [Option.bind_some]
    rw [digs_len2 (by omega), h2, ih (i + 1) k _ (by omega) (by omega) (by omega), tsum, Nat.add_assoc]

theorem bpDigits_g {p : Nat} (hp : p ≤ 40) : spec_bpDigits.g ((p : Int), ()) = some (((tsum len2 0 p : Nat) : Int), ()) := by
  show (spec_bpDigits.T (spec_bpDigits.L3 fuel) _).opt = _
  simp only [spec_bpDigits.T, M.opt_ofO]
  have := dig_L hp p 0 fuel 0 (by omega) (by have := fuel_big; omega) (by omega)
  rw [Nat.zero_add (tsum _ _ _)] at this
  exact this

theorem sum_all : ∀ p, p < 41 → ∀ l, l < 21 → 1 ≤ l → 2 * l ≤ p → tsum (adds 0 0 l) 0 p + (4 * l - 1) = p * (p + 1) / 2 ∧ tsum (adds 1 0 l) 0 p + len2 (2 * l - 1) + len2 (2 * l) = tsum len2 0 p := by
  decide +kernel

theorem adds_kind {kind : Nat} (h : kind < 2) (a l : Nat) : adds kind a l = adds kind 0 l := by
  funext page
  unfold adds
  split
  · rfl
  · split
    · rfl
    · split
      · rfl
      · omega

/-- What a clue of a kind tells of a hidden book, with a number. -/
def tellsN (kind a p l : Nat) : Int :=
  if kind = 3 then (if a ≤ l then 1 else 0) else if kind = 4 then (if p % a = 0 then 1 else 0) else if kind = 5 then 4 * l - 1 else (tsum (adds kind a l) 0 p : Nat)

theorem natk {kind n : Nat} : ((kind : Int) == (n : Int)) = decide (kind = n) := by
  by_cases e : kind = n
  · rw [e]; simp
  · rw [decide_eq_false e]; exact beq_eq_false_iff_ne.2 (by omega)

theorem tells_g {kind a p l : Nat} (hk : kind < 6) (ha : kind = 2 → a < 10) (h0 : kind = 0 ∨ kind = 1 ∨ kind = 5 → a = 0) (h4 : kind = 4 → 2 ≤ a) (hp : p ≤ 40) (hl : 2 * l ≤ p) :
    impl_Hidden_tells.g ((p : Int), (l : Int), (kind : Int), (a : Int), ()) = some (tellsN kind a p l, ()) := by
  show (impl_Hidden_tells.T (impl_Hidden_tells.L10 fuel) _).opt = _
  have e3 := natk (kind := kind) (n := 3)
  have e4 := natk (kind := kind) (n := 4)
  have e5 := natk (kind := kind) (n := 5)
  simp only [impl_Hidden_tells.T, M.opt_ite, M.opt_ofO, M.opt_fail, M.opt_ret]
  rw [show ((kind : Int) == 3) = decide (kind = 3) from e3, show ((kind : Int) == 4) = decide (kind = 4) from e4, show ((kind : Int) == 5) = decide (kind = 5) from e5]
  have flag : ∀ b : Bool, impl_flag.g (b, ()) = some (if b = true then 1 else 0, ()) := by
    intro b
    show (impl_flag.T _).opt = _
    cases b <;> rfl
  rw [flag, flag]
  unfold tellsN
  by_cases c3 : kind = 3
  · rw [decide_eq_true c3, cond_true, if_pos c3]
    by_cases c : a ≤ l
    · rw [if_pos c, if_pos (by simpa using (by omega : (l : Int) ≥ (a : Int)))]
    · rw [if_neg c, if_neg (by simpa using (by omega : (l : Int) < (a : Int)))]
  · rw [decide_eq_false c3, cond_false, if_neg c3]
    by_cases c4 : kind = 4
    · have h2 := h4 c4
      rw [decide_eq_true c4, cond_true, if_pos c4, decide_eq_false (show ¬ ((a : Int) = 0) by omega), cond_false, tmod_nn (by omega)]
      have : (((p : Int) % (a : Int)) == 0) = decide (p % a = 0) := by
        have := natk (kind := p % a) (n := 0)
        rw [← this]
        simp
      rw [this]
      by_cases c : p % a = 0 <;> simp [c]
    · rw [decide_eq_false c4, cond_false, if_neg c4]
      by_cases c5 : kind = 5
      · rw [decide_eq_true c5, cond_true, if_pos c5, W_eq (x := 4 * (l : Int)) (by omega) (by omega), W_eq (by omega) (by omega)]
      · rw [decide_eq_false c5, cond_false, if_neg c5]
        have ha' : a < 10 := by
          by_cases c2 : kind = 2
          · exact ha c2
          · have := h0 (by omega); omega
        have := tells_L (kind := kind) (a := a) (p := p) (l := l) ha' hp p 0 fuel 0 (by omega) (by have := fuel_big; omega) (by omega)
        rw [Nat.zero_add (tsum _ _ _)] at this
        exact this

theorem pzValue_g {kind a p l : Nat} (hk : kind < 6) (ha : kind = 2 → a < 10) (h0 : kind = 0 ∨ kind = 1 ∨ kind = 5 → a = 0) (h4 : kind = 4 → 2 ≤ a) (hp : p ≤ 40) (h1 : 1 ≤ l) (hl : 2 * l ≤ p) :
    spec_pzValue.g ((kind : Int), (a : Int), (p : Int), (l : Int), ()) = some (tellsN kind a p l, ()) := by
  show (spec_pzValue.T (spec_pzValue.L10 fuel) _).opt = _
  simp only [spec_pzValue.T, M.opt_ite, M.opt_ofO, M.opt_fail, M.opt_ret, M.opt_bind]
  rw [show ((kind : Int) == 0) = decide (kind = 0) from natk, show ((kind : Int) == 1) = decide (kind = 1) from natk, show ((kind : Int) == 2) = decide (kind = 2) from natk, show ((kind : Int) == 3) = decide (kind = 3) from natk, show ((kind : Int) == 4) = decide (kind = 4) from natk]
  obtain ⟨s0, s1⟩ := sum_all p (by omega) l (by omega) h1 hl
  unfold tellsN
  by_cases c0 : kind = 0
  · subst c0
    simp only [decide_true, cond_true, show ¬ (0 = 3) from by decide, show ¬ (0 = 4) from by decide, show ¬ (0 = 5) from by decide, if_false]
    rw [adds_kind (by omega) a l]
    have hb : p * (p + 1) ≤ 40 * 41 := Nat.mul_le_mul hp (by omega)
    have e1 : W ((p : Int) + 1) = ((p + 1 : Nat) : Int) := by rw [W_eq (by omega) (by omega)]; omega
    have e2 : W ((p : Int) * W ((p : Int) + 1)) = ((p * (p + 1) : Nat) : Int) := by
      rw [e1, ← Int.natCast_mul, W_eq (by omega) (by omega)]
    have e3 : W (Int.tdiv (W ((p : Int) * W ((p : Int) + 1))) 2) = ((p * (p + 1) / 2 : Nat) : Int) := by
      rw [e2, tdiv_nn (by omega), W_eq (by omega) (by omega)]; omega
    have e4 : W (W (4 * (l : Int)) - 1) = 4 * (l : Int) - 1 := by rw [W_eq (x := 4 * (l : Int)) (by omega) (by omega), W_eq (by omega) (by omega)]
    rw [e3, e4, W_eq (by omega) (by omega)]
    congr 2
    omega
  · by_cases c1 : kind = 1
    · subst c1
      simp only [decide_true, decide_false, cond_true, cond_false, show ¬ (1 = 0) from by decide, show ¬ (1 = 3) from by decide, show ¬ (1 = 4) from by decide, show ¬ (1 = 5) from by decide, if_false]
      rw [adds_kind (by omega) a l, bpDigits_g hp]
      have hl1 := len2_le (2 * l)
      have hl2 := len2_le (2 * l - 1)
      have hb : tsum len2 0 p ≤ p * 2 := tsum_le len2_le p 0
      have e1 : W (2 * (l : Int)) = ((2 * l : Nat) : Int) := by rw [W_eq (by omega) (by omega)]; omega
      have e2 : W (W (2 * (l : Int)) - 1) = ((2 * l - 1 : Nat) : Int) := by rw [e1, W_eq (by omega) (by omega)]; omega
      rw [e2, e1, l1Num_g _ (by omega), l1Num_g _ (by omega)]
      simp only [Option.bind_some]
      rw [digs_len2 (by omega), digs_len2 (by omega), W_eq (x := _ - ((len2 (2 * l - 1) : Nat) : Int)) (by omega) (by omega), W_eq (by omega) (by omega)]
      congr 2
      omega
    · rw [decide_eq_false c0, cond_false, decide_eq_false c1, cond_false]
      by_cases c2 : kind = 2
      · subst c2
        simp only [decide_true, cond_true, show ¬ (2 = 3) from by decide, show ¬ (2 = 4) from by decide, show ¬ (2 = 5) from by decide, if_false]
        have := pz_L (a := a) (p := p) (l := l) (ha rfl) hp p 0 fuel 0 (by omega) (by have := fuel_big; omega) (by omega)
        rw [Nat.zero_add (tsum _ _ _)] at this
        exact this
      · rw [decide_eq_false c2, cond_false]
        by_cases c3 : kind = 3
        · rw [decide_eq_true c3, cond_true, if_pos c3]
          by_cases c : a ≤ l
          · rw [if_pos c, decide_eq_true (show (l : Int) ≥ (a : Int) by omega), cond_true]
          · rw [if_neg c, decide_eq_false (show ¬ (l : Int) ≥ (a : Int) by omega), cond_false]
        · rw [decide_eq_false c3, cond_false, if_neg c3]
          by_cases c4 : kind = 4
          · have h2 := h4 c4
            rw [decide_eq_true c4, cond_true, if_pos c4, decide_eq_false (show ¬ ((a : Int) = 0) by omega), cond_false, tmod_nn (by omega)]
            have : (((p : Int) % (a : Int)) == 0) = decide (p % a = 0) := by
              have := natk (kind := p % a) (n := 0)
              rw [← this]
              simp
            rw [this]
            by_cases c : p % a = 0
            · rw [decide_eq_true c, cond_true, if_pos c]
            · rw [decide_eq_false c, cond_false, if_neg c]
          · rw [decide_eq_false c4, cond_false, if_neg c4, if_pos (by omega), W_eq (x := 4 * (l : Int)) (by omega) (by omega), W_eq (by omega) (by omega)]

end Go.Proofs.YtfgkcnoiplojkaaDoor.VI
