/- The value interpreter: slices.Clone at this program's types (printed by clones.py). -/
import Derived.Test.YtfgkcnoiplojkaaDoorOrSl
import Derived.Test.YtfgkcnoiplojkaaDoorTt
import Derived.Test.YtfgkcnoiplojkaaDoorShelf
set_option linter.unusedVariables false
namespace Go.Proofs.YtfgkcnoiplojkaaDoor.VI
open Go Go.Proofs Go.Shelf

namespace slices_Clone_24
def ren : Go.Shelf.Ren := ⟨fun | 41 => 120 | n => n, fun | 22 => 24 | 23 => 44 | 4 => 4 | n => n, fun | n => n⟩
theorem lays : Go.Proofs.SlLaysE0.n41 Tryd.prog ren := {
  mixed := by kernel_rfl
  f41 := ⟨Tryd.f120.name, by decide, Tryd.func120.trans (congrArg some (by kernel_rfl))⟩
  t4 := Tryd.underlying4
  a4 := Tryd.isAgg4
  z4 := Tryd.sizeOf4
  v4 := Tryd.zeroValue4
  t22 := Tryd.underlying24
  a22 := Tryd.isAgg24
  z22 := Tryd.sizeOf24
  v22 := Tryd.zeroValue24 }
@[reducible] def pa : PFn := ⟨[.c (.row (.pair (.int .i64) (.pair (.int .i64) (.int .i64))))], []⟩
@[reducible] def al : Res := [⟨[.c (.own 0)], [.arr false (.pair (.int .i64) (.pair (.int .i64) (.int .i64)))]⟩]
noncomputable def g (v : List (Ty.den (.pair (.int .i64) (.pair (.int .i64) (.int .i64)))) × Unit) : Option (List (Ty.den (.pair (.int .i64) (.pair (.int .i64) (.int .i64)))) × Unit) := bif decide (v.1.length * 24 ≤ 140737488355328) then some (v.1, ()) else none
noncomputable def ent : Entry := ⟨120, pa, al, g⟩
theorem ok : ent.ok PA := by
  have hi : (PA.info? 44).map (fun i => (i.size, i.bytes, i.zero)) = some (((.pair (.int .i64) (.pair (.int .i64) (.int .i64))) : Ty).size, 24, some (.agg #[.int .i64 0, .int .i64 0, .int .i64 0])) := by kernel_rfl
  simp only [Option.map_eq_some_iff] at hi
  obtain ⟨i, h1, h2⟩ := hi
  obtain ⟨h3, h4⟩ := Prod.mk.inj h2
  obtain ⟨h4, h5⟩ := Prod.mk.inj h4
  exact clone_ok lays (z := .agg #[.int .i64 0, .int .i64 0, .int .i64 0]) (ty := (.pair (.int .i64) (.pair (.int .i64) (.int .i64)))) (bytes := 24) h1 h5 h3 h4 rfl (by decide) rfl
end slices_Clone_24
namespace slices_Clone_24r
@[reducible] def pa : PFn := ⟨[.c (.row (.pair (.int .i64) (.pair (.int .i64) (.int .i64))))], []⟩
@[reducible] def al : Res := [⟨[.c (.row (.pair (.int .i64) (.pair (.int .i64) (.int .i64))))], [.arr true (.pair (.int .i64) (.pair (.int .i64) (.int .i64)))]⟩]
noncomputable def g (v : List (Ty.den (.pair (.int .i64) (.pair (.int .i64) (.int .i64)))) × Unit) : Option (List (Ty.den (.pair (.int .i64) (.pair (.int .i64) (.int .i64)))) × List (Ty.den (.pair (.int .i64) (.pair (.int .i64) (.int .i64)))) × Unit) := bif decide (v.1.length * 24 ≤ 140737488355328) then some (v.1, v.1, ()) else none
noncomputable def ent : Entry := ⟨120, pa, al, g⟩
theorem ok : ent.ok PA := clone_row_ok (f := 120) (ty := (.pair (.int .i64) (.pair (.int .i64) (.int .i64)))) (bytes := 24) slices_Clone_24.ok (hasFn (fn := Tryd.f120) (by kernel_rfl) (by kernel_rfl) (by kernel_rfl))
end slices_Clone_24r

namespace slices_Clone_53
def ren : Go.Shelf.Ren := ⟨fun | 41 => 141 | n => n, fun | 22 => 53 | 23 => 3 | 4 => 4 | n => n, fun | n => n⟩
theorem lays : Go.Proofs.SlLaysE0.n41 Tryd.prog ren := {
  mixed := by kernel_rfl
  f41 := ⟨Tryd.f141.name, by decide, Tryd.func141.trans (congrArg some (by kernel_rfl))⟩
  t4 := Tryd.underlying4
  a4 := Tryd.isAgg4
  z4 := Tryd.sizeOf4
  v4 := Tryd.zeroValue4
  t22 := Tryd.underlying53
  a22 := Tryd.isAgg53
  z22 := Tryd.sizeOf53
  v22 := Tryd.zeroValue53 }
@[reducible] def pa : PFn := ⟨[.c (.row (.int .i64))], []⟩
@[reducible] def al : Res := [⟨[.c (.own 0)], [.arr false (.int .i64)]⟩]
noncomputable def g (v : List (Ty.den (.int .i64)) × Unit) : Option (List (Ty.den (.int .i64)) × Unit) := bif decide (v.1.length * 8 ≤ 140737488355328) then some (v.1, ()) else none
noncomputable def ent : Entry := ⟨141, pa, al, g⟩
theorem ok : ent.ok PA := by
  have hi : (PA.info? 3).map (fun i => (i.size, i.bytes, i.zero)) = some (((.int .i64) : Ty).size, 8, some (.int .i64 0)) := by kernel_rfl
  simp only [Option.map_eq_some_iff] at hi
  obtain ⟨i, h1, h2⟩ := hi
  obtain ⟨h3, h4⟩ := Prod.mk.inj h2
  obtain ⟨h4, h5⟩ := Prod.mk.inj h4
  exact clone_ok lays (z := .int .i64 0) (ty := (.int .i64)) (bytes := 8) h1 h5 h3 h4 rfl (by decide) rfl
end slices_Clone_53
namespace slices_Clone_53r
@[reducible] def pa : PFn := ⟨[.c (.row (.int .i64))], []⟩
@[reducible] def al : Res := [⟨[.c (.row (.int .i64))], [.arr true (.int .i64)]⟩]
noncomputable def g (v : List (Ty.den (.int .i64)) × Unit) : Option (List (Ty.den (.int .i64)) × List (Ty.den (.int .i64)) × Unit) := bif decide (v.1.length * 8 ≤ 140737488355328) then some (v.1, v.1, ()) else none
noncomputable def ent : Entry := ⟨141, pa, al, g⟩
theorem ok : ent.ok PA := clone_row_ok (f := 141) (ty := (.int .i64)) (bytes := 8) slices_Clone_53.ok (hasFn (fn := Tryd.f141) (by kernel_rfl) (by kernel_rfl) (by kernel_rfl))
end slices_Clone_53r

end Go.Proofs.YtfgkcnoiplojkaaDoor.VI
