/- The value interpreter: numbers below a hundred as texts, and how often a byte stands in a text: the library's contracts. -/
import Derived.Test.YtfgkcnoiplojkaaDoorOr
import Derived.Test.YtfgkcnoiplojkaaDoorTt
import Derived.Test.YtfgkcnoiplojkaaDoorShelf
namespace Go.Proofs.YtfgkcnoiplojkaaDoor.VI
open Go

namespace strconv_Itoa
@[reducible] def pa : PFn := ⟨[.c (.int .i64)], []⟩
@[reducible] def al : Res := [⟨[.c .str], []⟩]
noncomputable def g (v : Int × Unit) : Option (ByteArray × Unit) := if 0 ≤ v.1 ∧ v.1 < 100 then some (⟨(Lib.decDigits v.1.toNat).toArray⟩, ()) else none
noncomputable def ent : Entry := ⟨180, pa, al, g⟩
theorem ok : ent.ok PA := quiet_int_str (hasFn (fn := Tryd.f180) (by kernel_rfl) (by kernel_rfl) (by kernel_rfl)) fun n r w h => by
  unfold g at h
  split at h
  · rename_i hn
    obtain ⟨rfl, _⟩ := Prod.mk.inj (Option.some.inj h)
    have := Tryd.strconv_Itoa_small n.toNat (by omega) w
    rw [Int.toNat_of_nonneg hn.1] at this
    exact this
  · cases h
end strconv_Itoa

namespace strings_Count
@[reducible] def pa : PFn := ⟨[.c .str, .c .str], []⟩
@[reducible] def al : Res := [⟨[.c (.int .i64)], []⟩]
noncomputable def g (v : ByteArray × ByteArray × Unit) : Option (Int × Unit) := match v.2.1.data.toList with
  | [c] => some ((Lib.countByte v.1.data.toList c : Nat), ())
  | _ => none
noncomputable def ent : Entry := ⟨212, pa, al, g⟩
theorem ok : ent.ok PA := quiet_str2_int (hasFn (fn := Tryd.f212) (by kernel_rfl) (by kernel_rfl) (by kernel_rfl)) fun a b r w h => by
  unfold g at h
  split at h
  · rename_i c hc
    obtain ⟨rfl, _⟩ := Prod.mk.inj (Option.some.inj h)
    have hb : b = ⟨#[c]⟩ := by
      cases b with
      | mk d => congr 1; exact Array.toList_inj.1 hc
    rw [hb]
    exact Tryd.strings_Count_one a c w
  · cases h
end strings_Count

end Go.Proofs.YtfgkcnoiplojkaaDoor.VI
