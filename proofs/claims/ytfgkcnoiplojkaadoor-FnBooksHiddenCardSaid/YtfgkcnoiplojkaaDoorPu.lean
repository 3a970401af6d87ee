/- Plain words for the printed functions: numbers of 64 bits, and an answer that may be missing. -/
import Derived.Test.YtfgkcnoiplojkaaDoorTt
namespace Go.Proofs.YtfgkcnoiplojkaaDoor.VI
open Go

theorem W_def (x : Int) : W x = if x % 18446744073709551616 ≥ 9223372036854775808 then x % 18446744073709551616 - 18446744073709551616 else x % 18446744073709551616 := by
  show (if (true && decide (x % (2 ^ 64 : Int) ≥ (2 ^ 63 : Int))) = true then x % (2 ^ 64 : Int) - (2 ^ 64 : Int) else x % (2 ^ 64 : Int)) = _
  rw [show (2 : Int) ^ 64 = 18446744073709551616 from by decide, show (2 : Int) ^ 63 = 9223372036854775808 from by decide]
  by_cases h : x % 18446744073709551616 ≥ 9223372036854775808
  · rw [if_pos h, if_pos (by simpa using h)]
  · rw [if_neg h, if_neg (by simpa using h)]

theorem W_eq {x : Int} (h0 : -9223372036854775808 ≤ x) (h1 : x ≤ 9223372036854775807) : W x = x := by
  rw [W_def]; split <;> omega

theorem WB_def (x : Int) : WB x = x % 256 := by
  show (if (false && decide (x % (2 ^ 8 : Int) ≥ (2 ^ 7 : Int))) = true then x % (2 ^ 8 : Int) - (2 ^ 8 : Int) else x % (2 ^ 8 : Int)) = _
  rw [show (2 : Int) ^ 8 = 256 from by decide]
  simp

theorem fuel_eq : fuel = 1073741823 + 1 := rfl
theorem fuel_big : 1000000000 < fuel := by decide

/-- Is a number within bounds? -/
def inR (n lo hi : Int) : Bool := decide (lo ≤ n) && decide (n ≤ hi)
theorem inR_iff {n lo hi : Int} : inR n lo hi = true ↔ lo ≤ n ∧ n ≤ hi := by simp [inR]

theorem max_i64 : (IntKind.max .i64 : Int) = 9223372036854775807 := by decide

theorem tdiv_nn {a b : Int} (h : 0 ≤ a) : Int.tdiv a b = a / b := Int.tdiv_eq_ediv_of_nonneg h
theorem tmod_nn {a b : Int} (h : 0 ≤ a) : Int.tmod a b = a % b := Int.tmod_eq_emod_of_nonneg h

end Go.Proofs.YtfgkcnoiplojkaaDoor.VI
