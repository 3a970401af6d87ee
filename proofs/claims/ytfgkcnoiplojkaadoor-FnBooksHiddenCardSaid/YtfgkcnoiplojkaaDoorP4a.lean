/- Made puzzles, plainly: texts of numbers, digits, what clues tell. -/
import Derived.Test.YtfgkcnoiplojkaaDoorG4
import Derived.Test.YtfgkcnoiplojkaaDoorPu
set_option linter.unusedSimpArgs false
set_option linter.unusedVariables false
namespace Go.Proofs.YtfgkcnoiplojkaaDoor.VI
open Go

theorem within_g (n lo hi : Int) : impl_within.g (n, lo, hi, ()) = some (inR n lo hi, ()) := by
  show (impl_within.T _).opt = _
  simp only [impl_within.T, M.opt_ite, M.opt_ret, inR, ge_iff_le]
  by_cases h : lo ≤ n <;> simp [h]

theorem l1In_g (n lo hi : Int) : spec_l1In.g (n, lo, hi, ()) = some (inR n lo hi, ()) := by
  show (spec_l1In.T _).opt = _
  simp only [spec_l1In.T, M.opt_ite, M.opt_ret, inR, ge_iff_le]
  by_cases h : lo ≤ n <;> simp [h]

def digs (n : Nat) : ByteArray := ⟨(Lib.decDigits n).toArray⟩

theorem strOf_one (n : Nat) (h : n < 10) : strOf [WB (W (48 + (n : Int)))] = ⟨#[UInt8.ofNat (48 + n)]⟩ := by
  rw [W_eq (by omega) (by omega), WB_def]
  have : (48 + (n : Int)) % 256 = ((48 + n : Nat) : Int) := by omega
  rw [this]
  rfl

theorem size_digs (n : Nat) : (digs n).size = (Lib.decDigits n).length := by simp [digs, ByteArray.size]

theorem decDigits_length (n : Nat) : ∀ d, n < 10 ^ (d + 1) → (Lib.decDigits n).length ≤ d + 1 := by
  induction n using Nat.strongRecOn with
  | _ n ih =>
    intro d hd
    by_cases h : n < 10
    · rw [Lib.decDigits, dif_pos h]; simp
    · cases d with
      | zero => omega
      | succ d =>
        rw [Lib.decDigits, dif_neg h]
        have := ih (n / 10) (by omega) d (by rw [Nat.pow_succ] at hd; omega)
        simp; omega

theorem digs_big {n : Nat} (h : ¬ n < 10) : digs n = digs (n / 10) ++ ⟨#[UInt8.ofNat (48 + n % 10)]⟩ := by
  unfold digs
  rw [Lib.decDigits, dif_neg h]
  apply ByteArray.ext
  simp

theorem l1Num_gr : ∀ (d k n : Nat), n < 10 ^ (d + 1) → d ≤ 17 → d < k → spec_l1Num.gr k ((n : Int), ()) = some (digs n, ()) := by
  intro d
  induction d with
  | zero =>
    intro k n hn _ hk
    obtain ⟨k, rfl⟩ : ∃ m, k = m + 1 := ⟨k - 1, by omega⟩
    show (spec_l1Num.T (spec_l1Num.gr k) _).opt = _
    have h : (n : Int) < 10 := by omega
    simp only [spec_l1Num.T, M.opt_ite, decide_eq_true h, cond_true, M.opt_ret]
    rw [strOf_one n (by omega), digs, Lib.decDigits, dif_pos (by omega)]
  | succ d ih =>
    intro k n hn hd hk
    obtain ⟨k, rfl⟩ : ∃ m, k = m + 1 := ⟨k - 1, by omega⟩
    show (spec_l1Num.T (spec_l1Num.gr k) _).opt = _
    have hb : n < 1000000000000000000 := Nat.lt_of_lt_of_le hn (by
      have := Nat.pow_le_pow_right (n := 10) (by decide) (show d + 1 + 1 ≤ 18 by omega)
      simpa using this)
    by_cases h : (n : Int) < 10
    · simp only [spec_l1Num.T, M.opt_ite, decide_eq_true h, cond_true, M.opt_ret]
      rw [strOf_one n (by omega), digs, Lib.decDigits, dif_pos (by omega)]
    · have h1 : W (Int.tdiv (n : Int) 10) = ((n / 10 : Nat) : Int) := by
        rw [tdiv_nn (by omega), W_eq (by omega) (by omega)]; omega
      have h2 : Int.tmod (n : Int) 10 = ((n % 10 : Nat) : Int) := by rw [tmod_nn (by omega)]; omega
      have hs : (digs (n / 10)).size ≤ 100 := by
        rw [size_digs]
        have := decDigits_length (n / 10) d (by rw [Nat.pow_succ] at hn; omega)
        omega
      simp only [spec_l1Num.T, M.opt_ite, decide_eq_false h, cond_false, M.opt_bind, M.opt_ofO, M.opt_fail, M.opt_ret]
      rw [h1, h2, strOf_one _ (by omega), ih k (n / 10) (by rw [Nat.pow_succ] at hn; omega) (by omega) (by omega)]
      simp only [Option.bind_some]
      have hlt : ¬ (((digs (n / 10)).size : Int) + ((ByteArray.mk #[UInt8.ofNat (48 + n % 10)]).size : Int)) > IntKind.max .i64 := by
        rw [max_i64]
        have : (ByteArray.mk #[UInt8.ofNat (48 + n % 10)]).size = 1 := rfl
        omega
      rw [decide_eq_false hlt, cond_false, digs_big (n := n) (by omega)]

theorem l1Num_g (n : Nat) (h : n < 1000000000000000000) : spec_l1Num.g ((n : Int), ()) = some (digs n, ()) :=
  l1Num_gr 17 fuel n (by simpa using h) (by omega) (by have := fuel_big; omega)

theorem decDigits_two {n : Nat} (h0 : 10 ≤ n) (h : n < 100) : Lib.decDigits n = [UInt8.ofNat (48 + n / 10), UInt8.ofNat (48 + n % 10)] := by
  rw [Lib.decDigits, dif_neg (by omega), Lib.decDigits, dif_pos (by omega)]
  rfl

/-- How many digits a number below a hundred has. -/
def len2 (n : Nat) : Nat := if n < 10 then 1 else 2

theorem digs_len2 {n : Nat} (h : n < 100) : (digs n).size = len2 n := by
  rw [size_digs, len2]
  by_cases h1 : n < 10
  · rw [Lib.decDigits, dif_pos h1, if_pos h1]; rfl
  · rw [decDigits_two (by omega) h, if_neg h1]; rfl

theorem Itoa_g (n : Nat) (h : n < 100) : strconv_Itoa.g ((n : Int), ()) = some (digs n, ()) := by
  unfold strconv_Itoa.g
  rw [if_pos (by omega)]
  rfl

/-- How often a digit is in a number below a hundred. -/
def cnt2 (n a : Nat) : Nat := if n < 10 then (if n = a then 1 else 0) else (if n / 10 = a then 1 else 0) + (if n % 10 = a then 1 else 0)

theorem digit_inj {x y : Nat} (hx : x < 10) (hy : y < 10) : UInt8.ofNat (48 + x) = UInt8.ofNat (48 + y) ↔ x = y := by
  constructor
  · intro h
    have := congrArg UInt8.toNat h
    simp [UInt8.toNat_ofNat'] at this
    omega
  · rintro rfl; rfl

theorem count_digs {n a : Nat} (h : n < 100) (ha : a < 10) : Lib.countByte (digs n).data.toList (UInt8.ofNat (48 + a)) = cnt2 n a := by
  unfold Lib.countByte digs cnt2
  have key : ∀ x, x < 10 → (UInt8.ofNat (48 + x) == UInt8.ofNat (48 + a)) = decide (x = a) := by
    intro x hx
    by_cases e : x = a
    · subst e; simp
    · rw [decide_eq_false e]
      exact beq_eq_false_iff_ne.2 fun e' => e ((digit_inj hx ha).1 e')
  by_cases h1 : n < 10
  · rw [if_pos h1]
    have e : Lib.decDigits n = [UInt8.ofNat (48 + n)] := by rw [Lib.decDigits, dif_pos h1]
    rw [e]
    show List.count _ [_] = _
    rw [List.count_cons, key n h1, List.count_nil]
    by_cases h2 : n = a <;> simp [h2]
  · rw [if_neg h1, decDigits_two (by omega) h]
    show List.count _ [_, _] = _
    rw [List.count_cons, List.count_cons, key _ (by omega), key _ (by omega), List.count_nil]
    by_cases h5 : n / 10 = a <;> by_cases h6 : n % 10 = a <;> simp [h5, h6]

theorem used_g {n a : Nat} (h : n < 100) (ha : a < 10) : impl_used.g ((n : Int), (a : Int), ()) = some ((cnt2 n a : Int), ()) := by
  show (impl_used.T _).opt = _
  simp only [impl_used.T, M.opt_bind, M.opt_ofO, M.opt_ret]
  rw [Itoa_g n h, Itoa_g a (by omega)]
  simp only [Option.bind_some]
  have e : (digs a).data.toList = [UInt8.ofNat (48 + a)] := by simp [digs, Lib.decDigits, ha]
  unfold strings_Count.g
  simp only [e, count_digs h ha]


theorem bpCount_g {p a : Nat} (h0 : 0 < p) (h : p < 100) : spec_bpCount.g ((p : Int), (a : Int), ()) = some ((cnt2 p a : Int), ()) := by
  obtain ⟨k, hk⟩ : ∃ k, fuel = k + 1 + 1 + 1 := ⟨fuel - 3, by have := fuel_big; omega⟩
  show (spec_bpCount.T (spec_bpCount.L2 fuel) _).opt = _
  simp only [spec_bpCount.T, M.opt_bind, M.opt_ofO, M.opt_ret]
  rw [hk]
  have step : ∀ k (q : Nat) (n : Int), 0 < q → q < 100 → spec_bpCount.L2 (k + 1) ((q : Int), (a : Int), n, ()) = spec_bpCount.L2 k (((q / 10 : Nat) : Int), (a : Int), (if q % 10 = a then W (n + 1) else n), ()) := by
    intro k q n hq h
    show (spec_bpCount.T2 (spec_bpCount.L2 k) _).opt = _
    have e1 : W (Int.tdiv (q : Int) 10) = ((q / 10 : Nat) : Int) := by rw [tdiv_nn (by omega), W_eq (by omega) (by omega)]; omega
    have e2 : Int.tmod (q : Int) 10 = ((q % 10 : Nat) : Int) := by rw [tmod_nn (by omega)]; omega
    simp only [spec_bpCount.T2, M.opt_ite, decide_eq_true (show (q : Int) > 0 by omega), cond_true, M.opt_ofO, e1, e2]
    have e3 : (((q % 10 : Nat) : Int) == (a : Int)) = decide (q % 10 = a) := by
      by_cases h5 : q % 10 = a
      · rw [h5]; simp
      · rw [decide_eq_false h5]; exact beq_eq_false_iff_ne.2 (by omega)
    rw [e3]
    by_cases h5 : q % 10 = a
    · rw [decide_eq_true h5, cond_true, if_pos h5]
    · rw [decide_eq_false h5, cond_false, if_neg h5]
  have stop : ∀ k (n : Int), spec_bpCount.L2 (k + 1) (((0 : Nat) : Int), (a : Int), n, ()) = some (n, ()) := by
    intro k n
    show (spec_bpCount.T2 (spec_bpCount.L2 k) _).opt = _
    simp [spec_bpCount.T2, M.opt_ite, M.opt_ret]
  rw [step _ _ _ h0 h]
  unfold cnt2
  by_cases h1 : p < 10
  · rw [show p / 10 = 0 from by omega, stop, if_pos h1, show p % 10 = p from by omega]
    by_cases h2 : p = a
    · simp only [h2, if_true, Option.bind_some]; rfl
    · simp [h2]
  · rw [step _ _ _ (by omega) (by omega), show p / 10 / 10 = 0 from by omega, stop, if_neg h1, show p / 10 % 10 = p / 10 from by omega]
    by_cases h2 : p % 10 = a <;> by_cases h3 : p / 10 = a
    · simp only [h2, h3, if_true, Option.bind_some]; rfl
    · simp only [h2, h3, if_true, if_false, Option.bind_some]; rfl
    · simp only [h2, h3, if_true, if_false, Option.bind_some]; rfl
    · simp [h2, h3]

end Go.Proofs.YtfgkcnoiplojkaaDoor.VI
