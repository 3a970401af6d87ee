/- Functions of the program as the interpreter tells them, printed by a program of ours; each with its proof. -/
import Derived.Test.YtfgkcnoiplojkaaDoorTt
import Derived.Test.YtfgkcnoiplojkaaDoorOrItoa
import Derived.Test.YtfgkcnoiplojkaaDoorOrCl
set_option maxRecDepth 100000
set_option linter.unusedVariables false
namespace Go.Proofs.YtfgkcnoiplojkaaDoor.VI
open Go
/-! slices.Delete[[]loop.example/g01394/impl.Clue,loop.example/g01394/impl.Clue] -/
namespace slices_Delete_impl_Clue_impl_Clue
@[reducible] def pa : PFn := ⟨[.c (.own 0), .c (.int .i64), .c (.int .i64)], [.arr false (.pair (.int .i64) (.pair (.int .i64) (.int .i64)))]⟩
@[reducible] def al : Res := [⟨[.c (.row (.pair (.int .i64) (.pair (.int .i64) (.int .i64))))], [.arr true (.pair (.int .i64) (.pair (.int .i64) (.int .i64)))]⟩]
noncomputable def T  : Int × Int × (List (Prod Int (Prod Int Int))) × Unit → M ((List (Prod Int (Prod Int Int))) × (List (Prod Int (Prod Int Int))) × Unit) := fun (i, j, b0, _) =>
  .ite (decide (((List.length b0) : Int) = ((List.length b0) : Int)))
    (.ite ((decide (0 ≤ i)) && ((decide (i ≤ j)) && (decide (j ≤ ((List.length b0) : Int)))))
      (.ite (i == j)
        (.ret (b0, b0, ()))
        (.ite ((decide (0 ≤ 0)) && ((decide (0 ≤ i)) && (decide (i ≤ ((List.length b0) : Int)))))
          (.ite ((decide (0 ≤ j)) && ((decide (j ≤ ((List.length b0) : Int))) && (decide (((List.length b0) : Int) ≤ ((List.length b0) : Int)))))
            (.ite ((decide ((Int.toNat 0) < (List.length b0))) && ((decide ((((Int.toNat 0) + ((Int.toNat i) - (Int.toNat 0))) + (List.length (List.take ((Int.toNat ((List.length b0) : Int)) - (Int.toNat j)) (List.drop (Int.toNat j) b0)))) ≤ (List.length b0))) && (room (((Int.toNat i) - (Int.toNat 0)) + (List.length (List.take ((Int.toNat ((List.length b0) : Int)) - (Int.toNat j)) (List.drop (Int.toNat j) b0)))) 24)))
              (.ite ((decide (0 ≤ ((((Int.toNat i) - (Int.toNat 0)) + (List.length (List.take ((Int.toNat ((List.length b0) : Int)) - (Int.toNat j)) (List.drop (Int.toNat j) b0)))) : Int))) && ((decide (((((Int.toNat i) - (Int.toNat 0)) + (List.length (List.take ((Int.toNat ((List.length b0) : Int)) - (Int.toNat j)) (List.drop (Int.toNat j) b0)))) : Int) ≤ ((List.length b0) : Int))) && (decide (((List.length b0) : Int) ≤ (((List.length (splice b0 ((Int.toNat 0) + ((Int.toNat i) - (Int.toNat 0))) (List.take ((Int.toNat ((List.length b0) : Int)) - (Int.toNat j)) (List.drop (Int.toNat j) b0)))) - (Int.toNat 0)) : Int)))))
                (.ite (decide (0 < ((Int.toNat ((List.length b0) : Int)) - (Int.toNat ((((Int.toNat i) - (Int.toNat 0)) + (List.length (List.take ((Int.toNat ((List.length b0) : Int)) - (Int.toNat j)) (List.drop (Int.toNat j) b0)))) : Int)))))
                  (.ret ((List.take (((Int.toNat i) - (Int.toNat 0)) + (List.length (List.take ((Int.toNat ((List.length b0) : Int)) - (Int.toNat j)) (List.drop (Int.toNat j) b0)))) (List.drop (Int.toNat 0) (splice (splice b0 ((Int.toNat 0) + ((Int.toNat i) - (Int.toNat 0))) (List.take ((Int.toNat ((List.length b0) : Int)) - (Int.toNat j)) (List.drop (Int.toNat j) b0))) ((Int.toNat 0) + (Int.toNat ((((Int.toNat i) - (Int.toNat 0)) + (List.length (List.take ((Int.toNat ((List.length b0) : Int)) - (Int.toNat j)) (List.drop (Int.toNat j) b0)))) : Int))) (List.replicate ((Int.toNat ((List.length b0) : Int)) - (Int.toNat ((((Int.toNat i) - (Int.toNat 0)) + (List.length (List.take ((Int.toNat ((List.length b0) : Int)) - (Int.toNat j)) (List.drop (Int.toNat j) b0)))) : Int))) (0, 0, 0))))), (splice (splice b0 ((Int.toNat 0) + ((Int.toNat i) - (Int.toNat 0))) (List.take ((Int.toNat ((List.length b0) : Int)) - (Int.toNat j)) (List.drop (Int.toNat j) b0))) ((Int.toNat 0) + (Int.toNat ((((Int.toNat i) - (Int.toNat 0)) + (List.length (List.take ((Int.toNat ((List.length b0) : Int)) - (Int.toNat j)) (List.drop (Int.toNat j) b0)))) : Int))) (List.replicate ((Int.toNat ((List.length b0) : Int)) - (Int.toNat ((((Int.toNat i) - (Int.toNat 0)) + (List.length (List.take ((Int.toNat ((List.length b0) : Int)) - (Int.toNat j)) (List.drop (Int.toNat j) b0)))) : Int))) (0, 0, 0))), ()))
                  (.fail))
                (.fail))
              (.fail))
            (.fail))
          (.fail)))
      (.fail))
    (.fail)
noncomputable def g (v : Int × Int × (List (Prod Int (Prod Int Int))) × Unit) : Option ((List (Prod Int (Prod Int Int))) × (List (Prod Int (Prod Int Int))) × Unit) := (T  v).opt
noncomputable def ent : Entry := ⟨186, pa, al, g⟩
@[reducible] noncomputable def E : EC := ⟨[], [], [], [], [], [[some (false, (.pair (.int .i64) (.pair (.int .i64) (.int .i64))))]], []⟩
noncomputable def H (_ : Nat) : List Lab := []
theorem ok : ent.ok PA := fn_ok E ent Tryd.f186 H trivial (by kernel_rfl) (by kernel_rfl) (by kernel_rfl) trivial (fun k => by kernel_rfl) (fun _ => trivial)
  (fun v => (M.bind_ofO_opt (T  v) (res al)).trans (by kernel_rfl))
end slices_Delete_impl_Clue_impl_Clue
/-! loop.example/g01394/impl.within -/
namespace impl_within
@[reducible] def pa : PFn := ⟨[.c (.int .i64), .c (.int .i64), .c (.int .i64)], []⟩
@[reducible] def al : Res := [⟨[.c (.bool)], []⟩]
noncomputable def T  : Int × Int × Int × Unit → M (Bool × Unit) := fun (n, low, high, _) =>
  .ite (decide (n ≥ low))
    (.ret ((decide (n ≤ high)), ()))
    (.ret (false, ()))
noncomputable def g (v : Int × Int × Int × Unit) : Option (Bool × Unit) := (T  v).opt
noncomputable def ent : Entry := ⟨102, pa, al, g⟩
@[reducible] noncomputable def E : EC := ⟨[], [], [], [], [], [], []⟩
noncomputable def H (_ : Nat) : List Lab := []
theorem ok : ent.ok PA := fn_ok E ent Tryd.f102 H trivial (by kernel_rfl) (by kernel_rfl) (by kernel_rfl) trivial (fun k => by kernel_rfl) (fun _ => trivial)
  (fun v => (M.bind_ofO_opt (T  v) (res al)).trans (by kernel_rfl))
end impl_within
/-! loop.example/g01394/impl.IsClue -/
namespace impl_IsClue
@[reducible] def pa : PFn := ⟨[.agg [.int .i64, .int .i64, .int .i64]], []⟩
@[reducible] def al : Res := [⟨[.c (.bool)], []⟩]
def p7j : PSt := ⟨41, 0, [(1, .c (.ptr 0 0)), (8, .c (.int .i64)), (9, .c (.bool))], [.cells [.int .i64, .int .i64, .int .i64]]⟩
def a7j : Exs := [(Ex.ret, ⟨41, 0, [(2, .c (.bool))], []⟩), (Ex.normal, ⟨41, 0, [], []⟩)]
noncomputable def T7j  : Int × Bool × Int × Int × Int × Unit → M (Sum (Bool × Unit) (Unit)) := fun (t8, t9, b0_0, b0_1, b0_2, _) =>
  .ite t9
    (.ret (.inl ((b0_1 == 0), ())))
    (.ite (t8 == 2)
      (.bind (.ofO (impl_within.g (b0_1, 0, 9, ()))) fun (r1, _) =>
      .ret (.inl (r1, ())))
      (.ite (t8 == 3)
        (.bind (.ofO (impl_within.g (b0_1, 1, 40, ()))) fun (r2, _) =>
        .ite r2
          (.ret (.inl ((decide (b0_2 ≤ 1)), ())))
          (.ret (.inl (false, ()))))
        (.ite (t8 == 4)
          (.bind (.ofO (impl_within.g (b0_1, 2, 9, ()))) fun (r3, _) =>
          .ite r3
            (.ret (.inl ((decide (b0_2 ≤ 1)), ())))
            (.ret (.inl (false, ()))))
          (.ret (.inr ((())))))))
noncomputable def L7j (k : Nat) : Int × Bool × Int × Int × Int × Unit → Option (Sum (Bool × Unit) (Unit)) := Nat.rec (fun _ => none) (fun _ _ v => (T7j  v).opt) k
noncomputable def T (o7j : Int × Bool × Int × Int × Int × Unit → Option (Sum (Bool × Unit) (Unit))) : Int × Int × Int × Unit → M (Bool × Unit) := fun (c_0, c_1, c_2, _) =>
  .bind (.ofO (impl_within.g (c_2, 0, 1000, ()))) fun (r, _) =>
  .ite (!r)
    (.ret (false, ()))
    (.ite (c_0 == 0)
      (.bind (.ofO (o7j (c_0, (c_0 == 0), c_0, c_1, c_2, ()))) fun q => .sum q
        (fun (t2, _) =>
        .ret (t2, ()))
        (fun (_) =>
        .ret (false, ())))
      (.ite (c_0 == 1)
        (.bind (.ofO (o7j (c_0, (c_0 == 1), c_0, c_1, c_2, ()))) fun q => .sum q
          (fun (t21, _) =>
          .ret (t21, ()))
          (fun (_) =>
          .ret (false, ())))
        (.bind (.ofO (o7j (c_0, (c_0 == 5), c_0, c_1, c_2, ()))) fun q => .sum q
          (fun (t22, _) =>
          .ret (t22, ()))
          (fun (_) =>
          .ret (false, ())))))
noncomputable def g (v : Int × Int × Int × Unit) : Option (Bool × Unit) := (T (L7j fuel) v).opt
noncomputable def ent : Entry := ⟨40, pa, al, g⟩
@[reducible] noncomputable def E : EC := ⟨[impl_within.ent], [], [], [(7, [1, 8, 9])], [(7, [2])], [], []⟩
noncomputable def H (k : Nat) : List Lab := [⟨true, 7, p7j, a7j, L7j k⟩]
theorem s7j (k : Nat) (v) : M.bind (.ofO (L7j (k + 1) v)) (exs a7j) = evStep (mkE E) (ask (H k)) true (codeAt (bodyOf Tryd.f40) true 7) (stOf p7j v) := (M.bind_ofO_opt (T7j  v) (exs a7j)).trans (by kernel_rfl)
theorem ok : ent.ok PA := fn_ok E ent Tryd.f40 H ⟨impl_within.ok, trivial⟩ (by kernel_rfl) (by kernel_rfl) (by kernel_rfl) ⟨fun _ => rfl, trivial⟩ (fun k => by kernel_rfl) (fun k => ⟨s7j k, trivial⟩)
  (fun v => (M.bind_ofO_opt (T (L7j fuel) v) (res al)).trans (by kernel_rfl))
end impl_IsClue
/-! loop.example/g01394/impl.IsPuzzle$1 -/
namespace impl_IsPuzzle_1
@[reducible] def pa : PFn := ⟨[.agg [.int .i64, .int .i64, .int .i64]], []⟩
@[reducible] def al : Res := [⟨[.c (.bool)], []⟩]
noncomputable def T  : Int × Int × Int × Unit → M (Bool × Unit) := fun (c_0, c_1, c_2, _) =>
  .bind (.ofO (impl_IsClue.g (c_0, c_1, c_2, ()))) fun (r, _) =>
  .ret ((!r), ())
noncomputable def g (v : Int × Int × Int × Unit) : Option (Bool × Unit) := (T  v).opt
noncomputable def ent : Entry := ⟨118, pa, al, g⟩
@[reducible] noncomputable def E : EC := ⟨[impl_IsClue.ent], [], [], [], [], [], []⟩
noncomputable def H (_ : Nat) : List Lab := []
theorem ok : ent.ok PA := fn_ok E ent Tryd.f118 H ⟨impl_IsClue.ok, trivial⟩ (by kernel_rfl) (by kernel_rfl) (by kernel_rfl) trivial (fun k => by kernel_rfl) (fun _ => trivial)
  (fun v => (M.bind_ofO_opt (T  v) (res al)).trans (by kernel_rfl))
end impl_IsPuzzle_1
/-! loop.example/g01394/impl.flag -/
namespace impl_flag
@[reducible] def pa : PFn := ⟨[.c (.bool)], []⟩
@[reducible] def al : Res := [⟨[.c (.int .i64)], []⟩]
noncomputable def T  : Bool × Unit → M (Int × Unit) := fun (is, _) =>
  .ite is
    (.ret (1, ()))
    (.ret (0, ()))
noncomputable def g (v : Bool × Unit) : Option (Int × Unit) := (T  v).opt
noncomputable def ent : Entry := ⟨179, pa, al, g⟩
@[reducible] noncomputable def E : EC := ⟨[], [], [], [], [], [], []⟩
noncomputable def H (_ : Nat) : List Lab := []
theorem ok : ent.ok PA := fn_ok E ent Tryd.f179 H trivial (by kernel_rfl) (by kernel_rfl) (by kernel_rfl) trivial (fun k => by kernel_rfl) (fun _ => trivial)
  (fun v => (M.bind_ofO_opt (T  v) (res al)).trans (by kernel_rfl))
end impl_flag
/-! loop.example/g01394/impl.used -/
namespace impl_used
@[reducible] def pa : PFn := ⟨[.c (.int .i64), .c (.int .i64)], []⟩
@[reducible] def al : Res := [⟨[.c (.int .i64)], []⟩]
noncomputable def T  : Int × Int × Unit → M (Int × Unit) := fun (page, digit, _) =>
  .bind (.ofO (strconv_Itoa.g (page, ()))) fun (r, _) =>
  .bind (.ofO (strconv_Itoa.g (digit, ()))) fun (r1, _) =>
  .ofO (strings_Count.g (r, r1, ()))
noncomputable def g (v : Int × Int × Unit) : Option (Int × Unit) := (T  v).opt
noncomputable def ent : Entry := ⟨181, pa, al, g⟩
@[reducible] noncomputable def E : EC := ⟨[strconv_Itoa.ent, strings_Count.ent], [], [], [], [], [], []⟩
noncomputable def H (_ : Nat) : List Lab := []
theorem ok : ent.ok PA := fn_ok E ent Tryd.f181 H ⟨strconv_Itoa.ok, ⟨strings_Count.ok, trivial⟩⟩ (by kernel_rfl) (by kernel_rfl) (by kernel_rfl) trivial (fun k => by kernel_rfl) (fun _ => trivial)
  (fun v => (M.bind_ofO_opt (T  v) (res al)).trans (by kernel_rfl))
end impl_used
/-! (loop.example/g01394/impl.Hidden).tells -/
namespace impl_Hidden_tells
@[reducible] def pa : PFn := ⟨[.agg [.int .i64, .int .i64], .c (.int .i64), .c (.int .i64)], []⟩
@[reducible] def al : Res := [⟨[.c (.int .i64)], []⟩]
def p10 : PSt := ⟨65, 0, [(1, .c (.int .i64)), (2, .c (.int .i64)), (3, .c (.ptr 0 0)), (7, .c (.int .i64)), (8, .c (.int .i64))], [.cells [.int .i64, .int .i64]]⟩
def a10 : Exs := [((Ex.exit 1), ⟨65, 0, [(7, .c (.int .i64))], []⟩)]
noncomputable def T10 (o : Int × Int × Int × Int × Int × Int × Unit → Option (Int × Unit)) : Int × Int × Int × Int × Int × Int × Unit → M (Int × Unit) := fun (kind1, a1, sum, page, b0_0, b0_1, _) =>
  .ite (decide (page ≤ b0_0))
    (.ite ((W (Int.tdiv (W (page + 1)) 2)) == b0_1)
      (.ofO (o (kind1, a1, sum, (W (page + 1)), b0_0, b0_1, ())))
      (.ite (kind1 == 0)
        (.ofO (o (kind1, a1, (W (sum + page)), (W (page + 1)), b0_0, b0_1, ())))
        (.ite (kind1 == 1)
          (.bind (.ofO (strconv_Itoa.g (page, ()))) fun (r2, _) =>
          .ofO (o (kind1, a1, (W (sum + ((ByteArray.size r2) : Int))), (W (page + 1)), b0_0, b0_1, ())))
          (.bind (.ofO (impl_used.g (page, a1, ()))) fun (r3, _) =>
          .ofO (o (kind1, a1, (W (sum + (Min.min 1 r3))), (W (page + 1)), b0_0, b0_1, ()))))))
    (.ret (sum, ()))
noncomputable def L10 (k : Nat) : Int × Int × Int × Int × Int × Int × Unit → Option (Int × Unit) := Nat.rec (fun _ => none) (fun _ ih v => (T10 ih v).opt) k
noncomputable def T (o10 : Int × Int × Int × Int × Int × Int × Unit → Option (Int × Unit)) : Int × Int × Int × Int × Unit → M (Int × Unit) := fun (h_0, h_1, kind, a, _) =>
  .ite (kind == 3)
    (.ofO (impl_flag.g ((decide (h_1 ≥ a)), ())))
    (.ite (kind == 4)
      (.ite (decide (a = 0))
        (.fail)
        (.ofO (impl_flag.g (((Int.tmod h_0 a) == 0), ()))))
      (.ite (kind == 5)
        (.ret ((W ((W (4 * h_1)) - 1)), ()))
        (.ofO (o10 (kind, a, 0, 1, h_0, h_1, ())))))
noncomputable def g (v : Int × Int × Int × Int × Unit) : Option (Int × Unit) := (T (L10 fuel) v).opt
noncomputable def ent : Entry := ⟨104, pa, al, g⟩
@[reducible] noncomputable def E : EC := ⟨[impl_flag.ent, strconv_Itoa.ent, impl_used.ent], [(10, [1, 2, 3, 7, 8])], [(10, [7])], [], [], [], []⟩
noncomputable def H (k : Nat) : List Lab := [⟨false, 10, p10, a10, L10 k⟩]
theorem s10 (k : Nat) (v) : M.bind (.ofO (L10 (k + 1) v)) (exs a10) = evStep (mkE E) (ask (H k)) false (codeAt (bodyOf Tryd.f104) false 10) (stOf p10 v) := (M.bind_ofO_opt (T10 (L10 k) v) (exs a10)).trans (by kernel_rfl)
theorem ok : ent.ok PA := fn_ok E ent Tryd.f104 H ⟨impl_flag.ok, ⟨strconv_Itoa.ok, ⟨impl_used.ok, trivial⟩⟩⟩ (by kernel_rfl) (by kernel_rfl) (by kernel_rfl) ⟨fun _ => rfl, trivial⟩ (fun k => by kernel_rfl) (fun k => ⟨s10 k, trivial⟩)
  (fun v => (M.bind_ofO_opt (T (L10 fuel) v) (res al)).trans (by kernel_rfl))
end impl_Hidden_tells
/-! (loop.example/g01394/impl.Hidden).fits -/
namespace impl_Hidden_fits
@[reducible] def pa : PFn := ⟨[.agg [.int .i64, .int .i64], .agg [.int .i64, .int .i64, .int .i64]], []⟩
@[reducible] def al : Res := [⟨[.c (.bool)], []⟩]
noncomputable def T  : Int × Int × Int × Int × Int × Unit → M (Bool × Unit) := fun (h_0, h_1, c_0, c_1, c_2, _) =>
  .bind (.ofO (impl_Hidden_tells.g (h_0, h_1, c_0, c_1, ()))) fun (r, _) =>
  .ret ((r == c_2), ())
noncomputable def g (v : Int × Int × Int × Int × Int × Unit) : Option (Bool × Unit) := (T  v).opt
noncomputable def ent : Entry := ⟨115, pa, al, g⟩
@[reducible] noncomputable def E : EC := ⟨[impl_Hidden_tells.ent], [], [], [], [], [], []⟩
noncomputable def H (_ : Nat) : List Lab := []
theorem ok : ent.ok PA := fn_ok E ent Tryd.f115 H ⟨impl_Hidden_tells.ok, trivial⟩ (by kernel_rfl) (by kernel_rfl) (by kernel_rfl) trivial (fun k => by kernel_rfl) (fun _ => trivial)
  (fun v => (M.bind_ofO_opt (T  v) (res al)).trans (by kernel_rfl))
end impl_Hidden_fits
/-! loop.example/g01394/impl.solutions$1 -/
namespace impl_solutions_1
@[reducible] def pa : PFn := ⟨[.agg [.int .i64, .int .i64, .int .i64], .c (.ptr 0 0)], [.cells [.int .i64, .int .i64]]⟩
@[reducible] def al : Res := [⟨[.c (.bool)], [.cells [.int .i64, .int .i64]]⟩]
noncomputable def T  : Int × Int × Int × Int × Int × Unit → M (Bool × Int × Int × Unit) := fun (c_0, c_1, c_2, b0_0, b0_1, _) =>
  .bind (.ofO (impl_Hidden_fits.g (b0_0, b0_1, c_0, c_1, c_2, ()))) fun (r, _) =>
  .ret ((!r), b0_0, b0_1, ())
noncomputable def g (v : Int × Int × Int × Int × Int × Unit) : Option (Bool × Int × Int × Unit) := (T  v).opt
noncomputable def ent : Entry := ⟨187, pa, al, g⟩
@[reducible] noncomputable def E : EC := ⟨[impl_Hidden_fits.ent], [], [], [], [], [], []⟩
noncomputable def H (_ : Nat) : List Lab := []
theorem ok : ent.ok PA := fn_ok E ent Tryd.f187 H ⟨impl_Hidden_fits.ok, trivial⟩ (by kernel_rfl) (by kernel_rfl) (by kernel_rfl) trivial (fun k => by kernel_rfl) (fun _ => trivial)
  (fun v => (M.bind_ofO_opt (T  v) (res al)).trans (by kernel_rfl))
end impl_solutions_1
/-! slices.IndexFunc[[]loop.example/g01394/impl.Clue,loop.example/g01394/impl.Clue] -/
namespace slices_IndexFunc_impl_Clue_impl_Clue_a
@[reducible] def pa : PFn := ⟨[.c (.row (.pair (.int .i64) (.pair (.int .i64) (.int .i64)))), .c (.fn 118 [])], []⟩
@[reducible] def al : Res := [⟨[.c (.int .i64)], []⟩]
def p2 : PSt := ⟨19, 0, [(0, .c (.row (.pair (.int .i64) (.pair (.int .i64) (.int .i64))))), (1, .c (.fn 118 [])), (7, .c (.int .i64)), (8, .c (.int .i64))], []⟩
def a2 : Exs := [(Ex.ret, ⟨19, 0, [(4, .c (.int .i64))], []⟩), ((Ex.exit 0), ⟨19, 0, [], []⟩)]
noncomputable def T2 (o : (List (Prod Int (Prod Int Int))) × Int × Int × Unit → Option (Sum (Int × Unit) (Unit))) : (List (Prod Int (Prod Int Int))) × Int × Int × Unit → M (Sum (Int × Unit) (Unit)) := fun (s1, t7, t8, _) =>
  .ite (decide (t8 < t7))
    (.ite (decide (0 ≤ t8))
      (.bind (.ofO (s1)[(Int.toNat t8)]?) fun e =>
      .bind (.ofO (impl_IsPuzzle_1.g (e.1, e.2.1, e.2.2, ()))) fun (r, _) =>
      .ite r
        (.ret (.inl (t8, ())))
        (.ofO (o (s1, t7, (W (t8 + 1)), ()))))
      (.fail))
    (.ret (.inr ((()))))
noncomputable def L2 (k : Nat) : (List (Prod Int (Prod Int Int))) × Int × Int × Unit → Option (Sum (Int × Unit) (Unit)) := Nat.rec (fun _ => none) (fun _ ih v => (T2 ih v).opt) k
noncomputable def T (o2 : (List (Prod Int (Prod Int Int))) × Int × Int × Unit → Option (Sum (Int × Unit) (Unit))) : (List (Prod Int (Prod Int Int))) × Unit → M (Int × Unit) := fun (s, _) =>
  .bind (.ofO (o2 (s, ((List.length s) : Int), 0, ()))) fun q => .sum q
    (fun (t4, _) =>
    .ret (t4, ()))
    (fun (_) =>
    .ret ((-1), ()))
noncomputable def g (v : (List (Prod Int (Prod Int Int))) × Unit) : Option (Int × Unit) := (T (L2 fuel) v).opt
noncomputable def ent : Entry := ⟨184, pa, al, g⟩
@[reducible] noncomputable def E : EC := ⟨[impl_IsPuzzle_1.ent], [(2, [0, 1, 7, 8])], [(2, [4])], [], [], [], []⟩
noncomputable def H (k : Nat) : List Lab := [⟨false, 2, p2, a2, L2 k⟩]
theorem s2 (k : Nat) (v) : M.bind (.ofO (L2 (k + 1) v)) (exs a2) = evStep (mkE E) (ask (H k)) false (codeAt (bodyOf Tryd.f184) false 2) (stOf p2 v) := (M.bind_ofO_opt (T2 (L2 k) v) (exs a2)).trans (by kernel_rfl)
theorem ok : ent.ok PA := fn_ok E ent Tryd.f184 H ⟨impl_IsPuzzle_1.ok, trivial⟩ (by kernel_rfl) (by kernel_rfl) (by kernel_rfl) ⟨fun _ => rfl, trivial⟩ (fun k => by kernel_rfl) (fun k => ⟨s2 k, trivial⟩)
  (fun v => (M.bind_ofO_opt (T (L2 fuel) v) (res al)).trans (by kernel_rfl))
end slices_IndexFunc_impl_Clue_impl_Clue_a
/-! slices.ContainsFunc[[]loop.example/g01394/impl.Clue,loop.example/g01394/impl.Clue] -/
namespace slices_ContainsFunc_impl_Clue_impl_Clue_a
@[reducible] def pa : PFn := ⟨[.c (.row (.pair (.int .i64) (.pair (.int .i64) (.int .i64)))), .c (.fn 118 [])], []⟩
@[reducible] def al : Res := [⟨[.c (.bool)], []⟩]
noncomputable def T  : (List (Prod Int (Prod Int Int))) × Unit → M (Bool × Unit) := fun (s, _) =>
  .bind (.ofO (slices_IndexFunc_impl_Clue_impl_Clue_a.g (s, ()))) fun (r, _) =>
  .ret ((decide (r ≥ 0)), ())
noncomputable def g (v : (List (Prod Int (Prod Int Int))) × Unit) : Option (Bool × Unit) := (T  v).opt
noncomputable def ent : Entry := ⟨117, pa, al, g⟩
@[reducible] noncomputable def E : EC := ⟨[slices_IndexFunc_impl_Clue_impl_Clue_a.ent, impl_IsPuzzle_1.ent], [], [], [], [], [], []⟩
noncomputable def H (_ : Nat) : List Lab := []
theorem ok : ent.ok PA := fn_ok E ent Tryd.f117 H ⟨slices_IndexFunc_impl_Clue_impl_Clue_a.ok, ⟨impl_IsPuzzle_1.ok, trivial⟩⟩ (by kernel_rfl) (by kernel_rfl) (by kernel_rfl) trivial (fun k => by kernel_rfl) (fun _ => trivial)
  (fun v => (M.bind_ofO_opt (T  v) (res al)).trans (by kernel_rfl))
end slices_ContainsFunc_impl_Clue_impl_Clue_a
/-! slices.IndexFunc[[]loop.example/g01394/impl.Clue,loop.example/g01394/impl.Clue] -/
namespace slices_IndexFunc_impl_Clue_impl_Clue_b
@[reducible] def pa : PFn := ⟨[.c (.row (.pair (.int .i64) (.pair (.int .i64) (.int .i64)))), .c (.fn 187 [0])], [.cells [.int .i64, .int .i64]]⟩
@[reducible] def al : Res := [⟨[.c (.int .i64)], [.cells [.int .i64, .int .i64]]⟩]
def p2 : PSt := ⟨19, 1, [(0, .c (.row (.pair (.int .i64) (.pair (.int .i64) (.int .i64))))), (1, .c (.fn 187 [0])), (7, .c (.int .i64)), (8, .c (.int .i64))], [.cells [.int .i64, .int .i64]]⟩
def a2 : Exs := [(Ex.ret, ⟨19, 1, [(4, .c (.int .i64))], [.cells [.int .i64, .int .i64]]⟩), ((Ex.exit 0), ⟨19, 1, [], [.cells [.int .i64, .int .i64]]⟩)]
noncomputable def T2 (o : (List (Prod Int (Prod Int Int))) × Int × Int × Int × Int × Unit → Option (Sum (Int × Int × Int × Unit) (Int × Int × Unit))) : (List (Prod Int (Prod Int Int))) × Int × Int × Int × Int × Unit → M (Sum (Int × Int × Int × Unit) (Int × Int × Unit)) := fun (s1, t7, t8, b0_01, b0_11, _) =>
  .ite (decide (t8 < t7))
    (.ite (decide (0 ≤ t8))
      (.bind (.ofO (s1)[(Int.toNat t8)]?) fun e =>
      .bind (.ofO (impl_solutions_1.g (e.1, e.2.1, e.2.2, b0_01, b0_11, ()))) fun (r, r1, r2, _) =>
      .ite r
        (.ret (.inl (t8, r1, r2, ())))
        (.ofO (o (s1, t7, (W (t8 + 1)), r1, r2, ()))))
      (.fail))
    (.ret (.inr ((b0_01, b0_11, ()))))
noncomputable def L2 (k : Nat) : (List (Prod Int (Prod Int Int))) × Int × Int × Int × Int × Unit → Option (Sum (Int × Int × Int × Unit) (Int × Int × Unit)) := Nat.rec (fun _ => none) (fun _ ih v => (T2 ih v).opt) k
noncomputable def T (o2 : (List (Prod Int (Prod Int Int))) × Int × Int × Int × Int × Unit → Option (Sum (Int × Int × Int × Unit) (Int × Int × Unit))) : (List (Prod Int (Prod Int Int))) × Int × Int × Unit → M (Int × Int × Int × Unit) := fun (s, b0_0, b0_1, _) =>
  .bind (.ofO (o2 (s, ((List.length s) : Int), 0, b0_0, b0_1, ()))) fun q => .sum q
    (fun (t4, b0_01, b0_11, _) =>
    .ret (t4, b0_01, b0_11, ()))
    (fun (b0_02, b0_12, _) =>
    .ret ((-1), b0_02, b0_12, ()))
noncomputable def g (v : (List (Prod Int (Prod Int Int))) × Int × Int × Unit) : Option (Int × Int × Int × Unit) := (T (L2 fuel) v).opt
noncomputable def ent : Entry := ⟨184, pa, al, g⟩
@[reducible] noncomputable def E : EC := ⟨[impl_solutions_1.ent], [(2, [0, 1, 7, 8])], [(2, [4])], [], [], [], []⟩
noncomputable def H (k : Nat) : List Lab := [⟨false, 2, p2, a2, L2 k⟩]
theorem s2 (k : Nat) (v) : M.bind (.ofO (L2 (k + 1) v)) (exs a2) = evStep (mkE E) (ask (H k)) false (codeAt (bodyOf Tryd.f184) false 2) (stOf p2 v) := (M.bind_ofO_opt (T2 (L2 k) v) (exs a2)).trans (by kernel_rfl)
theorem ok : ent.ok PA := fn_ok E ent Tryd.f184 H ⟨impl_solutions_1.ok, trivial⟩ (by kernel_rfl) (by kernel_rfl) (by kernel_rfl) ⟨fun _ => rfl, trivial⟩ (fun k => by kernel_rfl) (fun k => ⟨s2 k, trivial⟩)
  (fun v => (M.bind_ofO_opt (T (L2 fuel) v) (res al)).trans (by kernel_rfl))
end slices_IndexFunc_impl_Clue_impl_Clue_b
/-! slices.ContainsFunc[[]loop.example/g01394/impl.Clue,loop.example/g01394/impl.Clue] -/
namespace slices_ContainsFunc_impl_Clue_impl_Clue_b
@[reducible] def pa : PFn := ⟨[.c (.row (.pair (.int .i64) (.pair (.int .i64) (.int .i64)))), .c (.fn 187 [0])], [.cells [.int .i64, .int .i64]]⟩
@[reducible] def al : Res := [⟨[.c (.bool)], [.cells [.int .i64, .int .i64]]⟩]
noncomputable def T  : (List (Prod Int (Prod Int Int))) × Int × Int × Unit → M (Bool × Int × Int × Unit) := fun (s, b0_0, b0_1, _) =>
  .bind (.ofO (slices_IndexFunc_impl_Clue_impl_Clue_b.g (s, b0_0, b0_1, ()))) fun (r, r1, r2, _) =>
  .ret ((decide (r ≥ 0)), r1, r2, ())
noncomputable def g (v : (List (Prod Int (Prod Int Int))) × Int × Int × Unit) : Option (Bool × Int × Int × Unit) := (T  v).opt
noncomputable def ent : Entry := ⟨117, pa, al, g⟩
@[reducible] noncomputable def E : EC := ⟨[slices_IndexFunc_impl_Clue_impl_Clue_a.ent, slices_IndexFunc_impl_Clue_impl_Clue_b.ent, impl_solutions_1.ent], [], [], [], [], [], []⟩
noncomputable def H (_ : Nat) : List Lab := []
theorem ok : ent.ok PA := fn_ok E ent Tryd.f117 H ⟨slices_IndexFunc_impl_Clue_impl_Clue_a.ok, ⟨slices_IndexFunc_impl_Clue_impl_Clue_b.ok, ⟨impl_solutions_1.ok, trivial⟩⟩⟩ (by kernel_rfl) (by kernel_rfl) (by kernel_rfl) trivial (fun k => by kernel_rfl) (fun _ => trivial)
  (fun v => (M.bind_ofO_opt (T  v) (res al)).trans (by kernel_rfl))
end slices_ContainsFunc_impl_Clue_impl_Clue_b
/-! loop.example/g01394/laws.big -/
namespace laws_big
@[reducible] def pa : PFn := ⟨[.c (.row (.int .u8)), .c (.row (.int .u8))], []⟩
@[reducible] def al : Res := [⟨[.c (.bool)], []⟩]
noncomputable def T  : (List Int) × (List Int) × Unit → M (Bool × Unit) := fun (code, more, _) =>
  .ite (decide (((List.length code) : Int) > 1048576))
    (.ret (true, ()))
    (.ret ((decide (((List.length more) : Int) > (W (1048576 - ((List.length code) : Int))))), ()))
noncomputable def g (v : (List Int) × (List Int) × Unit) : Option (Bool × Unit) := (T  v).opt
noncomputable def ent : Entry := ⟨13, pa, al, g⟩
@[reducible] noncomputable def E : EC := ⟨[], [], [], [], [], [], []⟩
noncomputable def H (_ : Nat) : List Lab := []
theorem ok : ent.ok PA := fn_ok E ent Tryd.f13 H trivial (by kernel_rfl) (by kernel_rfl) (by kernel_rfl) trivial (fun k => by kernel_rfl) (fun _ => trivial)
  (fun v => (M.bind_ofO_opt (T  v) (res al)).trans (by kernel_rfl))
end laws_big
/-! (*loop.example/g01394/spec.l1Cur).next -/
namespace spec_l1Cur_next
@[reducible] def pa : PFn := ⟨[.c (.ptr 0 0)], [.cells [.row (.int .u8), .int .i64, .int .u64]]⟩
@[reducible] def al : Res := [⟨[.c (.int .i64)], [.cells [.row (.int .u8), .int .i64, .int .u64]]⟩]
def p4j : PSt := ⟨62, 1, [(0, .c (.ptr 0 0)), (3, .c (.int .i64))], [.cells [.row (.int .u8), .int .i64, .int .u64]]⟩
def a4j : Exs := [(Ex.ret, ⟨62, 1, [(2, .c (.int .i64))], [.cells [.row (.int .u8), .int .i64, .int .u64]]⟩)]
noncomputable def T4j  : Int × (List Int) × Int × Int × Unit → M (Int × (List Int) × Int × Int × Unit) := fun (b, b0_01, b0_11, b0_21, _) =>
  .ite (decide ((W (b0_11 + 1)) ≤ ((List.length b0_01) : Int)))
    (.ret (b, b0_01, (W (b0_11 + 1)), (WU ((WU ((WU (b0_21 * 6364136223846793005)) + (WU b))) + 1442695040888963407)), ()))
    (.ret ((W (WU ((BitVec.toNat (HAnd.hAnd (BitVec.ofInt (Go.IntKind.bits Go.IntKind.u64) (Int.fdiv (WU ((WU ((WU (b0_21 * 6364136223846793005)) + (WU b))) + 1442695040888963407)) (2 ^ (Min.min (Int.toNat 40) (Go.IntKind.bits Go.IntKind.u64))))) (BitVec.ofInt (Go.IntKind.bits Go.IntKind.u64) 255))) : Int))), b0_01, (W (b0_11 + 1)), (WU ((WU ((WU (b0_21 * 6364136223846793005)) + (WU b))) + 1442695040888963407)), ()))
noncomputable def L4j (k : Nat) : Int × (List Int) × Int × Int × Unit → Option (Int × (List Int) × Int × Int × Unit) := Nat.rec (fun _ => none) (fun _ _ v => (T4j  v).opt) k
noncomputable def T (o4j : Int × (List Int) × Int × Int × Unit → Option (Int × (List Int) × Int × Int × Unit)) : (List Int) × Int × Int × Unit → M (Int × (List Int) × Int × Int × Unit) := fun (b0_0, b0_1, b0_2, _) =>
  .ite (decide (b0_1 < ((List.length b0_0) : Int)))
    (.ite (decide (0 ≤ b0_1))
      (.bind (.ofO (b0_0)[(Int.toNat b0_1)]?) fun e =>
      .ofO (o4j ((W e), b0_0, b0_1, b0_2, ())))
      (.fail))
    (.ofO (o4j (0, b0_0, b0_1, b0_2, ())))
noncomputable def g (v : (List Int) × Int × Int × Unit) : Option (Int × (List Int) × Int × Int × Unit) := (T (L4j fuel) v).opt
noncomputable def ent : Entry := ⟨183, pa, al, g⟩
@[reducible] noncomputable def E : EC := ⟨[], [], [], [(4, [0, 3])], [(4, [2])], [], []⟩
noncomputable def H (k : Nat) : List Lab := [⟨true, 4, p4j, a4j, L4j k⟩]
theorem s4j (k : Nat) (v) : M.bind (.ofO (L4j (k + 1) v)) (exs a4j) = evStep (mkE E) (ask (H k)) true (codeAt (bodyOf Tryd.f183) true 4) (stOf p4j v) := (M.bind_ofO_opt (T4j  v) (exs a4j)).trans (by kernel_rfl)
theorem ok : ent.ok PA := fn_ok E ent Tryd.f183 H trivial (by kernel_rfl) (by kernel_rfl) (by kernel_rfl) ⟨fun _ => rfl, trivial⟩ (fun k => by kernel_rfl) (fun k => ⟨s4j k, trivial⟩)
  (fun v => (M.bind_ofO_opt (T (L4j fuel) v) (res al)).trans (by kernel_rfl))
end spec_l1Cur_next
/-! (*loop.example/g01394/spec.l1Cur).pick -/
namespace spec_l1Cur_pick
@[reducible] def pa : PFn := ⟨[.c (.ptr 0 0), .c (.int .i64)], [.cells [.row (.int .u8), .int .i64, .int .u64]]⟩
@[reducible] def al : Res := [⟨[.c (.int .i64)], [.cells [.row (.int .u8), .int .i64, .int .u64]]⟩]
noncomputable def T  : Int × (List Int) × Int × Int × Unit → M (Int × (List Int) × Int × Int × Unit) := fun (n, b0_0, b0_1, b0_2, _) =>
  .ite (decide (n ≤ 1))
    (.ret (0, b0_0, b0_1, b0_2, ()))
    (.bind (.ofO (spec_l1Cur_next.g (b0_0, b0_1, b0_2, ()))) fun (r, r1, r2, r3, _) =>
    .ite (decide (n > 200))
      (.bind (.ofO (spec_l1Cur_next.g (r1, r2, r3, ()))) fun (r4, r5, r6, r7, _) =>
      .ite (decide (n = 0))
        (.fail)
        (.ret ((Int.tmod (W ((W (r * 256)) + r4)) n), r5, r6, r7, ())))
      (.ite (decide (n = 0))
        (.fail)
        (.ret ((Int.tmod r n), r1, r2, r3, ()))))
noncomputable def g (v : Int × (List Int) × Int × Int × Unit) : Option (Int × (List Int) × Int × Int × Unit) := (T  v).opt
noncomputable def ent : Entry := ⟨111, pa, al, g⟩
@[reducible] noncomputable def E : EC := ⟨[spec_l1Cur_next.ent], [], [], [], [], [], []⟩
noncomputable def H (_ : Nat) : List Lab := []
theorem ok : ent.ok PA := fn_ok E ent Tryd.f111 H ⟨spec_l1Cur_next.ok, trivial⟩ (by kernel_rfl) (by kernel_rfl) (by kernel_rfl) trivial (fun k => by kernel_rfl) (fun _ => trivial)
  (fun v => (M.bind_ofO_opt (T  v) (res al)).trans (by kernel_rfl))
end spec_l1Cur_pick
/-! (*loop.example/g01394/spec.l1Cur).one -/
namespace spec_l1Cur_one
@[reducible] def pa : PFn := ⟨[.c (.ptr 0 0), .c (.int .i64)], [.cells [.row (.int .u8), .int .i64, .int .u64]]⟩
@[reducible] def al : Res := [⟨[.c (.bool)], [.cells [.row (.int .u8), .int .i64, .int .u64]]⟩]
noncomputable def T  : Int × (List Int) × Int × Int × Unit → M (Bool × (List Int) × Int × Int × Unit) := fun (n, b0_0, b0_1, b0_2, _) =>
  .bind (.ofO (spec_l1Cur_pick.g (n, b0_0, b0_1, b0_2, ()))) fun (r, r1, r2, r3, _) =>
  .ret ((r == 0), r1, r2, r3, ())
noncomputable def g (v : Int × (List Int) × Int × Int × Unit) : Option (Bool × (List Int) × Int × Int × Unit) := (T  v).opt
noncomputable def ent : Entry := ⟨108, pa, al, g⟩
@[reducible] noncomputable def E : EC := ⟨[spec_l1Cur_pick.ent], [], [], [], [], [], []⟩
noncomputable def H (_ : Nat) : List Lab := []
theorem ok : ent.ok PA := fn_ok E ent Tryd.f108 H ⟨spec_l1Cur_pick.ok, trivial⟩ (by kernel_rfl) (by kernel_rfl) (by kernel_rfl) trivial (fun k => by kernel_rfl) (fun _ => trivial)
  (fun v => (M.bind_ofO_opt (T  v) (res al)).trans (by kernel_rfl))
end spec_l1Cur_one
/-! (*loop.example/g01394/spec.l1Cur).among -/
namespace spec_l1Cur_among
@[reducible] def pa : PFn := ⟨[.c (.ptr 0 0), .c (.row (.int .i64))], [.cells [.row (.int .u8), .int .i64, .int .u64]]⟩
@[reducible] def al : Res := [⟨[.c (.int .i64)], [.cells [.row (.int .u8), .int .i64, .int .u64]]⟩]
noncomputable def T  : (List Int) × (List Int) × Int × Int × Unit → M (Int × (List Int) × Int × Int × Unit) := fun (list, b0_0, b0_1, b0_2, _) =>
  .bind (.ofO (spec_l1Cur_pick.g (((List.length list) : Int), b0_0, b0_1, b0_2, ()))) fun (r, r1, r2, r3, _) =>
  .ite (decide (0 ≤ r))
    (.bind (.ofO (list)[(Int.toNat r)]?) fun e =>
    .ret (e, r1, r2, r3, ()))
    (.fail)
noncomputable def g (v : (List Int) × (List Int) × Int × Int × Unit) : Option (Int × (List Int) × Int × Int × Unit) := (T  v).opt
noncomputable def ent : Entry := ⟨109, pa, al, g⟩
@[reducible] noncomputable def E : EC := ⟨[spec_l1Cur_pick.ent], [], [], [], [], [], []⟩
noncomputable def H (_ : Nat) : List Lab := []
theorem ok : ent.ok PA := fn_ok E ent Tryd.f109 H ⟨spec_l1Cur_pick.ok, trivial⟩ (by kernel_rfl) (by kernel_rfl) (by kernel_rfl) trivial (fun k => by kernel_rfl) (fun _ => trivial)
  (fun v => (M.bind_ofO_opt (T  v) (res al)).trans (by kernel_rfl))
end spec_l1Cur_among
/-! (*loop.example/g01394/spec.l1Cur).hidden -/
namespace spec_l1Cur_hidden
@[reducible] def pa : PFn := ⟨[.c (.ptr 0 0)], [.cells [.row (.int .u8), .int .i64, .int .u64]]⟩
@[reducible] def al : Res := [⟨[.agg [.int .i64, .int .i64]], [.cells [.row (.int .u8), .int .i64, .int .u64]]⟩]
noncomputable def T  : (List Int) × Int × Int × Unit → M (Int × Int × (List Int) × Int × Int × Unit) := fun (b0_0, b0_1, b0_2, _) =>
  .bind (.ofO (spec_l1Cur_pick.g (39, b0_0, b0_1, b0_2, ()))) fun (r, r1, r2, r3, _) =>
  .bind (.ofO (spec_l1Cur_pick.g ((W (Int.tdiv (W (2 + r)) 2)), r1, r2, r3, ()))) fun (r4, r5, r6, r7, _) =>
  .ret ((W (2 + r)), (W (1 + r4)), r5, r6, r7, ())
noncomputable def g (v : (List Int) × Int × Int × Unit) : Option (Int × Int × (List Int) × Int × Int × Unit) := (T  v).opt
noncomputable def ent : Entry := ⟨110, pa, al, g⟩
@[reducible] noncomputable def E : EC := ⟨[spec_l1Cur_pick.ent], [], [], [], [], [], []⟩
noncomputable def H (_ : Nat) : List Lab := []
theorem ok : ent.ok PA := fn_ok E ent Tryd.f110 H ⟨spec_l1Cur_pick.ok, trivial⟩ (by kernel_rfl) (by kernel_rfl) (by kernel_rfl) trivial (fun k => by kernel_rfl) (fun _ => trivial)
  (fun v => (M.bind_ofO_opt (T  v) (res al)).trans (by kernel_rfl))
end spec_l1Cur_hidden
/-! loop.example/g01394/spec.DrawMakePuzzle -/
namespace spec_DrawMakePuzzle
@[reducible] def pa : PFn := ⟨[.c (.row (.int .u8))], []⟩
@[reducible] def al : Res := [⟨[.agg [.int .i64, .int .i64], .c (.int .i64), .c (.int .i64)], []⟩]
noncomputable def T  : (List Int) × Unit → M (Int × Int × Int × Int × Unit) := fun (code, _) =>
  .bind (.ofO (spec_l1Cur_one.g (12, code, 0, 0, ()))) fun (r, r1, r2, r3, _) =>
  .ite r
    (.bind (.ofO (spec_l1Cur_among.g ([1, 2, 40, 41], r1, r2, r3, ()))) fun (r4, r5, r6, r7, _) =>
    .bind (.ofO (spec_l1Cur_among.g ([0, 1, 20, 21], r5, r6, r7, ()))) fun (r8, r9, r10, r11, _) =>
    .bind (.ofO (spec_l1Cur_among.g ([(-1), 6, 7], r9, r10, r11, ()))) fun (r12, r13, r14, r15, _) =>
    .bind (.ofO (spec_l1Cur_among.g ([(-1), 9999, 10000], r13, r14, r15, ()))) fun (r16, r17, r18, r19, _) =>
    .ret (r4, r8, r12, r16, ()))
    (.bind (.ofO (spec_l1Cur_hidden.g (r1, r2, r3, ()))) fun (r20, r21, r22, r23, r24, _) =>
    .bind (.ofO (spec_l1Cur_pick.g (7, r22, r23, r24, ()))) fun (r25, r26, r27, r28, _) =>
    .bind (.ofO (spec_l1Cur_pick.g (10000, r26, r27, r28, ()))) fun (r29, r30, r31, r32, _) =>
    .ret (r20, r21, r25, r29, ()))
noncomputable def g (v : (List Int) × Unit) : Option (Int × Int × Int × Int × Unit) := (T  v).opt
noncomputable def ent : Entry := ⟨14, pa, al, g⟩
@[reducible] noncomputable def E : EC := ⟨[spec_l1Cur_one.ent, spec_l1Cur_among.ent, spec_l1Cur_hidden.ent, spec_l1Cur_pick.ent], [], [], [], [], [], []⟩
noncomputable def H (_ : Nat) : List Lab := []
theorem ok : ent.ok PA := fn_ok E ent Tryd.f14 H ⟨spec_l1Cur_one.ok, ⟨spec_l1Cur_among.ok, ⟨spec_l1Cur_hidden.ok, ⟨spec_l1Cur_pick.ok, trivial⟩⟩⟩⟩ (by kernel_rfl) (by kernel_rfl) (by kernel_rfl) trivial (fun k => by kernel_rfl) (fun _ => trivial)
  (fun v => (M.bind_ofO_opt (T  v) (res al)).trans (by kernel_rfl))
end spec_DrawMakePuzzle
/-! loop.example/g01394/impl.IsHidden -/
namespace impl_IsHidden
@[reducible] def pa : PFn := ⟨[.agg [.int .i64, .int .i64]], []⟩
@[reducible] def al : Res := [⟨[.c (.bool)], []⟩]
noncomputable def T  : Int × Int × Unit → M (Bool × Unit) := fun (h_0, h_1, _) =>
  .bind (.ofO (impl_within.g (h_0, 2, 40, ()))) fun (r, _) =>
  .ite r
    (.ofO (impl_within.g (h_1, 1, (W (Int.tdiv h_0 2)), ())))
    (.ret (false, ()))
noncomputable def g (v : Int × Int × Unit) : Option (Bool × Unit) := (T  v).opt
noncomputable def ent : Entry := ⟨16, pa, al, g⟩
@[reducible] noncomputable def E : EC := ⟨[impl_within.ent], [], [], [], [], [], []⟩
noncomputable def H (_ : Nat) : List Lab := []
theorem ok : ent.ok PA := fn_ok E ent Tryd.f16 H ⟨impl_within.ok, trivial⟩ (by kernel_rfl) (by kernel_rfl) (by kernel_rfl) trivial (fun k => by kernel_rfl) (fun _ => trivial)
  (fun v => (M.bind_ofO_opt (T  v) (res al)).trans (by kernel_rfl))
end impl_IsHidden
/-! loop.example/g01394/impl.MakePuzzle$1 -/
namespace impl_MakePuzzle_1
@[reducible] def pa : PFn := ⟨[.c (.ptr 0 0)], [.cells [.int .i64]]⟩
@[reducible] def al : Res := [⟨[.c (.int .i64)], [.cells [.int .i64]]⟩]
noncomputable def T  : Int × Unit → M (Int × Int × Unit) := fun (b0_0, _) =>
  .ret ((Int.tmod (W ((W (b0_0 * 311)) + 503)) 10007), (Int.tmod (W ((W (b0_0 * 311)) + 503)) 10007), ())
noncomputable def g (v : Int × Unit) : Option (Int × Int × Unit) := (T  v).opt
noncomputable def ent : Entry := ⟨103, pa, al, g⟩
@[reducible] noncomputable def E : EC := ⟨[], [], [], [], [], [], []⟩
noncomputable def H (_ : Nat) : List Lab := []
theorem ok : ent.ok PA := fn_ok E ent Tryd.f103 H trivial (by kernel_rfl) (by kernel_rfl) (by kernel_rfl) trivial (fun k => by kernel_rfl) (fun _ => trivial)
  (fun v => (M.bind_ofO_opt (T  v) (res al)).trans (by kernel_rfl))
end impl_MakePuzzle_1
/-! loop.example/g01394/impl.MakePuzzle -/
namespace impl_MakePuzzle
@[reducible] def pa : PFn := ⟨[.agg [.int .i64, .int .i64], .c (.int .i64), .c (.int .i64)], []⟩
@[reducible] def al : Res := [⟨[.agg [.own 0], .c (.bool)], [.arr false (.pair (.int .i64) (.pair (.int .i64) (.int .i64)))]⟩]
def p16j : PSt := ⟨68, 0, [(3, .c (.ptr 0 0)), (6, .c (.ptr 1 0)), (9, .c (.ptr 2 0)), (10, .c (.fn 103 [3])), (11, .c (.int .i64)), (12, .c (.int .i64)), (31, .c (.int .i64)), (32, .c (.int .i64))], [.cells [.int .i64, .int .i64], .cells [.own 4], .cells [.own 5], .cells [.int .i64], .arr false (.pair (.int .i64) (.pair (.int .i64) (.int .i64))), .arr false (.pair (.int .i64) (.pair (.int .i64) (.int .i64)))]⟩
def a16j : Exs := [(Ex.normal, ⟨68, 0, [(3, .c (.ptr 0 0)), (6, .c (.ptr 1 0)), (9, .c (.ptr 2 0)), (10, .c (.fn 103 [3])), (31, .c (.int .i64)), (32, .c (.int .i64))], [.cells [.int .i64, .int .i64], .cells [.own 4], .cells [.own 5], .cells [.int .i64], .arr false (.pair (.int .i64) (.pair (.int .i64) (.int .i64))), .arr false (.pair (.int .i64) (.pair (.int .i64) (.int .i64)))]⟩)]
noncomputable def T16j  : Int × Int × Int × Int × Int × Int × Int × (List (Prod Int (Prod Int Int))) × (List (Prod Int (Prod Int Int))) × Unit → M (Int × Int × Int × Int × Int × (List (Prod Int (Prod Int Int))) × (List (Prod Int (Prod Int Int))) × Unit) := fun (kind, a, t311, t321, b0_01, b0_11, b3_01, b41, b51, _) =>
  .bind (.ofO (impl_Hidden_tells.g (b0_01, b0_11, kind, a, ()))) fun (r3, _) =>
  .ite (room ((List.length b51) + (List.length [(kind, a, r3)])) 24)
    (.ret (t311, t321, b0_01, b0_11, b3_01, b41, (b51 ++ [(kind, a, r3)]), ()))
    (.fail)
noncomputable def L16j (k : Nat) : Int × Int × Int × Int × Int × Int × Int × (List (Prod Int (Prod Int Int))) × (List (Prod Int (Prod Int Int))) × Unit → Option (Int × Int × Int × Int × Int × (List (Prod Int (Prod Int Int))) × (List (Prod Int (Prod Int Int))) × Unit) := Nat.rec (fun _ => none) (fun _ _ v => (T16j  v).opt) k
def p6 : PSt := ⟨68, 0, [(3, .c (.ptr 0 0)), (6, .c (.ptr 1 0)), (9, .c (.ptr 2 0)), (10, .c (.fn 103 [3])), (31, .c (.int .i64)), (32, .c (.int .i64))], [.cells [.int .i64, .int .i64], .cells [.own 4], .cells [.own 5], .cells [.int .i64], .arr false (.pair (.int .i64) (.pair (.int .i64) (.int .i64))), .arr false (.pair (.int .i64) (.pair (.int .i64) (.int .i64)))]⟩
def a6 : Exs := [((Ex.exit 0), ⟨68, 0, [(6, .c (.ptr 0 0)), (9, .c (.ptr 1 0))], [.cells [.own 2], .cells [.own 3], .arr false (.pair (.int .i64) (.pair (.int .i64) (.int .i64))), .arr false (.pair (.int .i64) (.pair (.int .i64) (.int .i64)))]⟩)]
noncomputable def T6 (o16j : Int × Int × Int × Int × Int × Int × Int × (List (Prod Int (Prod Int Int))) × (List (Prod Int (Prod Int Int))) × Unit → Option (Int × Int × Int × Int × Int × (List (Prod Int (Prod Int Int))) × (List (Prod Int (Prod Int Int))) × Unit)) (o : Int × Int × Int × Int × Int × (List (Prod Int (Prod Int Int))) × (List (Prod Int (Prod Int Int))) × Unit → Option ((List (Prod Int (Prod Int Int))) × (List (Prod Int (Prod Int Int))) × Unit)) : Int × Int × Int × Int × Int × (List (Prod Int (Prod Int Int))) × (List (Prod Int (Prod Int Int))) × Unit → M ((List (Prod Int (Prod Int Int))) × (List (Prod Int (Prod Int Int))) × Unit) := fun (t31, t32, b0_0, b0_1, b3_0, b4, b5, _) =>
  .ite (decide (t32 < t31))
    (.ite ((Int.tmod (Int.tmod (W ((W (b3_0 * 311)) + 503)) 10007) 6) == 2)
      (.bind (.ofO (o16j ((Int.tmod (Int.tmod (W ((W (b3_0 * 311)) + 503)) 10007) 6), (Int.tmod (Int.tmod (W ((W ((Int.tmod (W ((W (b3_0 * 311)) + 503)) 10007) * 311)) + 503)) 10007) 10), t31, t32, b0_0, b0_1, (Int.tmod (W ((W ((Int.tmod (W ((W (b3_0 * 311)) + 503)) 10007) * 311)) + 503)) 10007), b4, b5, ()))) fun (t311, t321, b0_01, b0_11, b3_01, b41, b51, _) =>
      .ofO (o (t311, (W (t321 + 1)), b0_01, b0_11, b3_01, b41, b51, ())))
      (.ite ((Int.tmod (Int.tmod (W ((W (b3_0 * 311)) + 503)) 10007) 6) == 3)
        (.bind (.ofO (o16j ((Int.tmod (Int.tmod (W ((W (b3_0 * 311)) + 503)) 10007) 6), (W ((Int.tmod (Int.tmod (W ((W ((Int.tmod (W ((W (b3_0 * 311)) + 503)) 10007) * 311)) + 503)) 10007) 20) + 1)), t31, t32, b0_0, b0_1, (Int.tmod (W ((W ((Int.tmod (W ((W (b3_0 * 311)) + 503)) 10007) * 311)) + 503)) 10007), b4, b5, ()))) fun (t312, t322, b0_02, b0_12, b3_02, b42, b52, _) =>
        .ofO (o (t312, (W (t322 + 1)), b0_02, b0_12, b3_02, b42, b52, ())))
        (.ite ((Int.tmod (Int.tmod (W ((W (b3_0 * 311)) + 503)) 10007) 6) == 4)
          (.bind (.ofO (o16j ((Int.tmod (Int.tmod (W ((W (b3_0 * 311)) + 503)) 10007) 6), (W ((Int.tmod (Int.tmod (W ((W ((Int.tmod (W ((W (b3_0 * 311)) + 503)) 10007) * 311)) + 503)) 10007) 8) + 2)), t31, t32, b0_0, b0_1, (Int.tmod (W ((W ((Int.tmod (W ((W (b3_0 * 311)) + 503)) 10007) * 311)) + 503)) 10007), b4, b5, ()))) fun (t313, t323, b0_03, b0_13, b3_03, b43, b53, _) =>
          .ofO (o (t313, (W (t323 + 1)), b0_03, b0_13, b3_03, b43, b53, ())))
          (.bind (.ofO (o16j ((Int.tmod (Int.tmod (W ((W (b3_0 * 311)) + 503)) 10007) 6), 0, t31, t32, b0_0, b0_1, (Int.tmod (W ((W ((Int.tmod (W ((W (b3_0 * 311)) + 503)) 10007) * 311)) + 503)) 10007), b4, b5, ()))) fun (t314, t324, b0_04, b0_14, b3_04, b44, b54, _) =>
          .ofO (o (t314, (W (t324 + 1)), b0_04, b0_14, b3_04, b44, b54, ()))))))
    (.ret (b4, b5, ()))
noncomputable def L6 (k : Nat) : Int × Int × Int × Int × Int × (List (Prod Int (Prod Int Int))) × (List (Prod Int (Prod Int Int))) × Unit → Option ((List (Prod Int (Prod Int Int))) × (List (Prod Int (Prod Int Int))) × Unit) := Nat.rec (fun _ => none) (fun k ih v => (T6 (L16j k) ih v).opt) k
noncomputable def T (o6 : Int × Int × Int × Int × Int × (List (Prod Int (Prod Int Int))) × (List (Prod Int (Prod Int Int))) × Unit → Option ((List (Prod Int (Prod Int Int))) × (List (Prod Int (Prod Int Int))) × Unit)) : Int × Int × Int × Int × Unit → M (Bool × (List (Prod Int (Prod Int Int))) × Unit) := fun (h_0, h_1, clues, seed, _) =>
  .bind (.ofO (impl_IsHidden.g (h_0, h_1, ()))) fun (r, _) =>
  .ite (!r)
    (.ret (false, ([] : List (Prod Int (Prod Int Int))), ()))
    (.bind (.ofO (impl_within.g (clues, 0, 6, ()))) fun (r1, _) =>
    .ite (!r1)
      (.ret (false, ([] : List (Prod Int (Prod Int Int))), ()))
      (.bind (.ofO (impl_within.g (seed, 0, 9999, ()))) fun (r2, _) =>
      .ite (!r2)
        (.ret (false, ([] : List (Prod Int (Prod Int Int))), ()))
        (.bind (.ofO (o6 (clues, 0, h_0, h_1, seed, ([] : List (Prod Int (Prod Int Int))), ([] : List (Prod Int (Prod Int Int))), ()))) fun (b2, b3, _) =>
        .ret (true, b3, ()))))
noncomputable def g (v : Int × Int × Int × Int × Unit) : Option (Bool × (List (Prod Int (Prod Int Int))) × Unit) := (T (L6 fuel) v).opt
noncomputable def ent : Entry := ⟨9, pa, al, g⟩
@[reducible] noncomputable def E : EC := ⟨[impl_IsHidden.ent, impl_within.ent, impl_MakePuzzle_1.ent, impl_Hidden_tells.ent], [(6, [3, 6, 9, 10, 31, 32])], [(6, [6, 9])], [(16, [3, 6, 9, 10, 11, 12, 31, 32])], [(16, [3, 6, 9, 10, 31, 32])], [[some (true, (.pair (.int .i64) (.pair (.int .i64) (.int .i64))))], []], []⟩
noncomputable def H (k : Nat) : List Lab := [⟨true, 16, p16j, a16j, L16j k⟩, ⟨false, 6, p6, a6, L6 k⟩]
theorem s16j (k : Nat) (v) : M.bind (.ofO (L16j (k + 1) v)) (exs a16j) = evStep (mkE E) (ask (H k)) true (codeAt (bodyOf Tryd.f9) true 16) (stOf p16j v) := (M.bind_ofO_opt (T16j  v) (exs a16j)).trans (by kernel_rfl)
theorem s6 (k : Nat) (v) : M.bind (.ofO (L6 (k + 1) v)) (exs a6) = evStep (mkE E) (ask (H k)) false (codeAt (bodyOf Tryd.f9) false 6) (stOf p6 v) := (M.bind_ofO_opt (T6 (L16j k) (L6 k) v) (exs a6)).trans (by kernel_rfl)
theorem ok : ent.ok PA := fn_ok E ent Tryd.f9 H ⟨impl_IsHidden.ok, ⟨impl_within.ok, ⟨impl_MakePuzzle_1.ok, ⟨impl_Hidden_tells.ok, trivial⟩⟩⟩⟩ (by kernel_rfl) (by kernel_rfl) (by kernel_rfl) ⟨fun _ => rfl, ⟨fun _ => rfl, trivial⟩⟩ (fun k => by kernel_rfl) (fun k => ⟨s16j k, ⟨s6 k, trivial⟩⟩)
  (fun v => (M.bind_ofO_opt (T (L6 fuel) v) (res al)).trans (by kernel_rfl))
end impl_MakePuzzle
/-! loop.example/g01394/spec.l1In -/
namespace spec_l1In
@[reducible] def pa : PFn := ⟨[.c (.int .i64), .c (.int .i64), .c (.int .i64)], []⟩
@[reducible] def al : Res := [⟨[.c (.bool)], []⟩]
noncomputable def T  : Int × Int × Int × Unit → M (Bool × Unit) := fun (n, lo, hi, _) =>
  .ite (decide (n ≥ lo))
    (.ret ((decide (n ≤ hi)), ()))
    (.ret (false, ()))
noncomputable def g (v : Int × Int × Int × Unit) : Option (Bool × Unit) := (T  v).opt
noncomputable def ent : Entry := ⟨99, pa, al, g⟩
@[reducible] noncomputable def E : EC := ⟨[], [], [], [], [], [], []⟩
noncomputable def H (_ : Nat) : List Lab := []
theorem ok : ent.ok PA := fn_ok E ent Tryd.f99 H trivial (by kernel_rfl) (by kernel_rfl) (by kernel_rfl) trivial (fun k => by kernel_rfl) (fun _ => trivial)
  (fun v => (M.bind_ofO_opt (T  v) (res al)).trans (by kernel_rfl))
end spec_l1In
/-! loop.example/g01394/spec.pzBook -/
namespace spec_pzBook
@[reducible] def pa : PFn := ⟨[.agg [.int .i64, .int .i64]], []⟩
@[reducible] def al : Res := [⟨[.c (.bool)], []⟩]
noncomputable def T  : Int × Int × Unit → M (Bool × Unit) := fun (h_0, h_1, _) =>
  .bind (.ofO (spec_l1In.g (h_0, 2, 40, ()))) fun (r, _) =>
  .ite r
    (.ofO (spec_l1In.g (h_1, 1, (W (Int.tdiv h_0 2)), ())))
    (.ret (false, ()))
noncomputable def g (v : Int × Int × Unit) : Option (Bool × Unit) := (T  v).opt
noncomputable def ent : Entry := ⟨98, pa, al, g⟩
@[reducible] noncomputable def E : EC := ⟨[spec_l1In.ent], [], [], [], [], [], []⟩
noncomputable def H (_ : Nat) : List Lab := []
theorem ok : ent.ok PA := fn_ok E ent Tryd.f98 H ⟨spec_l1In.ok, trivial⟩ (by kernel_rfl) (by kernel_rfl) (by kernel_rfl) trivial (fun k => by kernel_rfl) (fun _ => trivial)
  (fun v => (M.bind_ofO_opt (T  v) (res al)).trans (by kernel_rfl))
end spec_pzBook
/-! loop.example/g01394/spec.pzNext -/
namespace spec_pzNext
@[reducible] def pa : PFn := ⟨[.c (.int .i64)], []⟩
@[reducible] def al : Res := [⟨[.c (.int .i64)], []⟩]
noncomputable def T  : Int × Unit → M (Int × Unit) := fun (z, _) =>
  .ret ((Int.tmod (W ((W (311 * z)) + 503)) 10007), ())
noncomputable def g (v : Int × Unit) : Option (Int × Unit) := (T  v).opt
noncomputable def ent : Entry := ⟨100, pa, al, g⟩
@[reducible] noncomputable def E : EC := ⟨[], [], [], [], [], [], []⟩
noncomputable def H (_ : Nat) : List Lab := []
theorem ok : ent.ok PA := fn_ok E ent Tryd.f100 H trivial (by kernel_rfl) (by kernel_rfl) (by kernel_rfl) trivial (fun k => by kernel_rfl) (fun _ => trivial)
  (fun v => (M.bind_ofO_opt (T  v) (res al)).trans (by kernel_rfl))
end spec_pzNext
/-! loop.example/g01394/spec.bpSum -/
namespace spec_bpSum
@[reducible] def pa : PFn := ⟨[.c (.int .i64)], []⟩
@[reducible] def al : Res := [⟨[.c (.int .i64)], []⟩]
noncomputable def T  : Int × Unit → M (Int × Unit) := fun (pages, _) =>
  .ret ((W (Int.tdiv (W (pages * (W (pages + 1)))) 2)), ())
noncomputable def g (v : Int × Unit) : Option (Int × Unit) := (T  v).opt
noncomputable def ent : Entry := ⟨208, pa, al, g⟩
@[reducible] noncomputable def E : EC := ⟨[], [], [], [], [], [], []⟩
noncomputable def H (_ : Nat) : List Lab := []
theorem ok : ent.ok PA := fn_ok E ent Tryd.f208 H trivial (by kernel_rfl) (by kernel_rfl) (by kernel_rfl) trivial (fun k => by kernel_rfl) (fun _ => trivial)
  (fun v => (M.bind_ofO_opt (T  v) (res al)).trans (by kernel_rfl))
end spec_bpSum
/-! loop.example/g01394/spec.l1Num -/
namespace spec_l1Num
@[reducible] def pa : PFn := ⟨[.c (.int .i64)], []⟩
@[reducible] def al : Res := [⟨[.c (.str)], []⟩]
noncomputable def T (self : Int × Unit → Option (ByteArray × Unit))  : Int × Unit → M (ByteArray × Unit) := fun (n, _) =>
  .ite (decide (n < 10))
    (.ret ((strOf [(WB (W (48 + n)))]), ()))
    (.bind (.ofO (self ((W (Int.tdiv n 10)), ()))) fun (r, _) =>
    .ite (decide ((((ByteArray.size r) + (ByteArray.size (strOf [(WB (W (48 + (Int.tmod n 10))))]))) : Int) > (Go.IntKind.max Go.IntKind.i64)))
      (.fail)
      (.ret ((r ++ (strOf [(WB (W (48 + (Int.tmod n 10))))])), ())))
noncomputable def gr (n : Nat) : Int × Unit → Option (ByteArray × Unit) := Nat.rec (fun _ => none) (fun _ self v => (T self  v).opt) n
noncomputable def g : Int × Unit → Option (ByteArray × Unit) := gr fuel
noncomputable def ent : Entry := ⟨192, pa, al, g⟩
@[reducible] noncomputable def E (self : Int × Unit → Option (ByteArray × Unit)) : EC := ⟨[⟨192, pa, al, self⟩], [], [], [], [], [], []⟩
noncomputable def H (self : Int × Unit → Option (ByteArray × Unit)) (_ : Nat) : List Lab := []
theorem okr : ∀ n, Entry.ok PA ⟨192, pa, al, gr n⟩
  | 0 => none_ok (fun _ => rfl)
  | n + 1 => fn_ok (E (gr n)) ⟨192, pa, al, gr (n + 1)⟩ Tryd.f192 (H (gr n)) ⟨okr n, trivial⟩ (by kernel_rfl) (by kernel_rfl) (by kernel_rfl) trivial (fun k => by kernel_rfl) (fun _ => trivial)
    (fun v => (M.bind_ofO_opt (T (gr n)  v) (res al)).trans (by kernel_rfl))
theorem ok : ent.ok PA := okr fuel
end spec_l1Num
/-! loop.example/g01394/spec.bpDigits -/
namespace spec_bpDigits
@[reducible] def pa : PFn := ⟨[.c (.int .i64)], []⟩
@[reducible] def al : Res := [⟨[.c (.int .i64)], []⟩]
def p3 : PSt := ⟨16, 0, [(0, .c (.int .i64)), (3, .c (.int .i64)), (4, .c (.int .i64))], []⟩
def a3 : Exs := [((Ex.exit 0), ⟨16, 0, [(3, .c (.int .i64))], []⟩)]
noncomputable def T3 (o : Int × Int × Int × Unit → Option (Int × Unit)) : Int × Int × Int × Unit → M (Int × Unit) := fun (pages1, n, page, _) =>
  .ite (decide (page ≤ pages1))
    (.bind (.ofO (spec_l1Num.g (page, ()))) fun (r, _) =>
    .ofO (o (pages1, (W (n + ((ByteArray.size r) : Int))), (W (page + 1)), ())))
    (.ret (n, ()))
noncomputable def L3 (k : Nat) : Int × Int × Int × Unit → Option (Int × Unit) := Nat.rec (fun _ => none) (fun _ ih v => (T3 ih v).opt) k
noncomputable def T (o3 : Int × Int × Int × Unit → Option (Int × Unit)) : Int × Unit → M (Int × Unit) := fun (pages, _) =>
  .ofO (o3 (pages, 0, 1, ()))
noncomputable def g (v : Int × Unit) : Option (Int × Unit) := (T (L3 fuel) v).opt
noncomputable def ent : Entry := ⟨209, pa, al, g⟩
@[reducible] noncomputable def E : EC := ⟨[spec_l1Num.ent], [(3, [0, 3, 4])], [(3, [3])], [], [], [], []⟩
noncomputable def H (k : Nat) : List Lab := [⟨false, 3, p3, a3, L3 k⟩]
theorem s3 (k : Nat) (v) : M.bind (.ofO (L3 (k + 1) v)) (exs a3) = evStep (mkE E) (ask (H k)) false (codeAt (bodyOf Tryd.f209) false 3) (stOf p3 v) := (M.bind_ofO_opt (T3 (L3 k) v) (exs a3)).trans (by kernel_rfl)
theorem ok : ent.ok PA := fn_ok E ent Tryd.f209 H ⟨spec_l1Num.ok, trivial⟩ (by kernel_rfl) (by kernel_rfl) (by kernel_rfl) ⟨fun _ => rfl, trivial⟩ (fun k => by kernel_rfl) (fun k => ⟨s3 k, trivial⟩)
  (fun v => (M.bind_ofO_opt (T (L3 fuel) v) (res al)).trans (by kernel_rfl))
end spec_bpDigits
/-! loop.example/g01394/spec.bpCount -/
namespace spec_bpCount
@[reducible] def pa : PFn := ⟨[.c (.int .i64), .c (.int .i64)], []⟩
@[reducible] def al : Res := [⟨[.c (.int .i64)], []⟩]
def p2 : PSt := ⟨17, 0, [(0, .c (.int .i64)), (1, .c (.int .i64)), (5, .c (.int .i64))], []⟩
def a2 : Exs := [((Ex.exit 0), ⟨17, 0, [(5, .c (.int .i64))], []⟩)]
noncomputable def T2 (o : Int × Int × Int × Unit → Option (Int × Unit)) : Int × Int × Int × Unit → M (Int × Unit) := fun (page1, digit1, n, _) =>
  .ite (decide (page1 > 0))
    (.ite ((Int.tmod page1 10) == digit1)
      (.ofO (o ((W (Int.tdiv page1 10)), digit1, (W (n + 1)), ())))
      (.ofO (o ((W (Int.tdiv page1 10)), digit1, n, ()))))
    (.ret (n, ()))
noncomputable def L2 (k : Nat) : Int × Int × Int × Unit → Option (Int × Unit) := Nat.rec (fun _ => none) (fun _ ih v => (T2 ih v).opt) k
noncomputable def T (o2 : Int × Int × Int × Unit → Option (Int × Unit)) : Int × Int × Unit → M (Int × Unit) := fun (page, digit, _) =>
  .ofO (o2 (page, digit, 0, ()))
noncomputable def g (v : Int × Int × Unit) : Option (Int × Unit) := (T (L2 fuel) v).opt
noncomputable def ent : Entry := ⟨210, pa, al, g⟩
@[reducible] noncomputable def E : EC := ⟨[], [(2, [0, 1, 5])], [(2, [5])], [], [], [], []⟩
noncomputable def H (k : Nat) : List Lab := [⟨false, 2, p2, a2, L2 k⟩]
theorem s2 (k : Nat) (v) : M.bind (.ofO (L2 (k + 1) v)) (exs a2) = evStep (mkE E) (ask (H k)) false (codeAt (bodyOf Tryd.f210) false 2) (stOf p2 v) := (M.bind_ofO_opt (T2 (L2 k) v) (exs a2)).trans (by kernel_rfl)
theorem ok : ent.ok PA := fn_ok E ent Tryd.f210 H trivial (by kernel_rfl) (by kernel_rfl) (by kernel_rfl) ⟨fun _ => rfl, trivial⟩ (fun k => by kernel_rfl) (fun k => ⟨s2 k, trivial⟩)
  (fun v => (M.bind_ofO_opt (T (L2 fuel) v) (res al)).trans (by kernel_rfl))
end spec_bpCount
/-! loop.example/g01394/spec.pzValue -/
namespace spec_pzValue
@[reducible] def pa : PFn := ⟨[.c (.int .i64), .c (.int .i64), .agg [.int .i64, .int .i64]], []⟩
@[reducible] def al : Res := [⟨[.c (.int .i64)], []⟩]
def p10 : PSt := ⟨78, 0, [(1, .c (.int .i64)), (5, .c (.ptr 0 0)), (7, .c (.int .i64)), (8, .c (.int .i64))], [.cells [.int .i64, .int .i64]]⟩
def a10 : Exs := [((Ex.exit 1), ⟨78, 0, [(7, .c (.int .i64))], []⟩)]
noncomputable def T10 (o : Int × Int × Int × Int × Int × Unit → Option (Int × Unit)) : Int × Int × Int × Int × Int × Unit → M (Int × Unit) := fun (a1, n, page, b0_0, b0_1, _) =>
  .ite (decide (page ≤ b0_0))
    (.ite ((W (Int.tdiv (W (page + 1)) 2)) != b0_1)
      (.bind (.ofO (spec_bpCount.g (page, a1, ()))) fun (r3, _) =>
      .ite (decide (r3 > 0))
        (.ofO (o (a1, (W (n + 1)), (W (page + 1)), b0_0, b0_1, ())))
        (.ofO (o (a1, n, (W (page + 1)), b0_0, b0_1, ()))))
      (.ofO (o (a1, n, (W (page + 1)), b0_0, b0_1, ()))))
    (.ret (n, ()))
noncomputable def L10 (k : Nat) : Int × Int × Int × Int × Int × Unit → Option (Int × Unit) := Nat.rec (fun _ => none) (fun _ ih v => (T10 ih v).opt) k
noncomputable def T (o10 : Int × Int × Int × Int × Int × Unit → Option (Int × Unit)) : Int × Int × Int × Int × Unit → M (Int × Unit) := fun (kind, a, h_0, h_1, _) =>
  .ite (kind == 0)
    (.ret ((W ((W (Int.tdiv (W (h_0 * (W (h_0 + 1)))) 2)) - (W ((W (4 * h_1)) - 1)))), ()))
    (.ite (kind == 1)
      (.bind (.ofO (spec_bpDigits.g (h_0, ()))) fun (r, _) =>
      .bind (.ofO (spec_l1Num.g ((W ((W (2 * h_1)) - 1)), ()))) fun (r1, _) =>
      .bind (.ofO (spec_l1Num.g ((W (2 * h_1)), ()))) fun (r2, _) =>
      .ret ((W ((W (r - ((ByteArray.size r1) : Int))) - ((ByteArray.size r2) : Int))), ()))
      (.ite (kind == 2)
        (.ofO (o10 (a, 0, 1, h_0, h_1, ())))
        (.ite (kind == 3)
          (.ite (decide (h_1 ≥ a))
            (.ret (1, ()))
            (.ret (0, ())))
          (.ite (kind == 4)
            (.ite (decide (a = 0))
              (.fail)
              (.ite ((Int.tmod h_0 a) == 0)
                (.ret (1, ()))
                (.ret (0, ()))))
            (.ret ((W ((W (4 * h_1)) - 1)), ()))))))
noncomputable def g (v : Int × Int × Int × Int × Unit) : Option (Int × Unit) := (T (L10 fuel) v).opt
noncomputable def ent : Entry := ⟨178, pa, al, g⟩
@[reducible] noncomputable def E : EC := ⟨[spec_bpSum.ent, spec_bpDigits.ent, spec_l1Num.ent, spec_bpCount.ent], [(10, [1, 5, 7, 8])], [(10, [7])], [], [], [], []⟩
noncomputable def H (k : Nat) : List Lab := [⟨false, 10, p10, a10, L10 k⟩]
theorem s10 (k : Nat) (v) : M.bind (.ofO (L10 (k + 1) v)) (exs a10) = evStep (mkE E) (ask (H k)) false (codeAt (bodyOf Tryd.f178) false 10) (stOf p10 v) := (M.bind_ofO_opt (T10 (L10 k) v) (exs a10)).trans (by kernel_rfl)
theorem ok : ent.ok PA := fn_ok E ent Tryd.f178 H ⟨spec_bpSum.ok, ⟨spec_bpDigits.ok, ⟨spec_l1Num.ok, ⟨spec_bpCount.ok, trivial⟩⟩⟩⟩ (by kernel_rfl) (by kernel_rfl) (by kernel_rfl) ⟨fun _ => rfl, trivial⟩ (fun k => by kernel_rfl) (fun k => ⟨s10 k, trivial⟩)
  (fun v => (M.bind_ofO_opt (T (L10 fuel) v) (res al)).trans (by kernel_rfl))
end spec_pzValue
/-! loop.example/g01394/spec.pzOf -/
namespace spec_pzOf
@[reducible] def pa : PFn := ⟨[.c (.int .i64), .c (.int .i64), .agg [.int .i64, .int .i64]], []⟩
@[reducible] def al : Res := [⟨[.agg [.int .i64, .int .i64, .int .i64]], []⟩]
noncomputable def T  : Int × Int × Int × Int × Unit → M (Int × Int × Int × Unit) := fun (kind, y, h_0, h_1, _) =>
  .ite (kind == 2)
    (.bind (.ofO (spec_pzValue.g (kind, (Int.tmod y 10), h_0, h_1, ()))) fun (r, _) =>
    .ret (kind, (Int.tmod y 10), r, ()))
    (.ite (kind == 3)
      (.bind (.ofO (spec_pzValue.g (kind, (W ((Int.tmod y 20) + 1)), h_0, h_1, ()))) fun (r1, _) =>
      .ret (kind, (W ((Int.tmod y 20) + 1)), r1, ()))
      (.ite (kind == 4)
        (.bind (.ofO (spec_pzValue.g (kind, (W ((Int.tmod y 8) + 2)), h_0, h_1, ()))) fun (r2, _) =>
        .ret (kind, (W ((Int.tmod y 8) + 2)), r2, ()))
        (.bind (.ofO (spec_pzValue.g (kind, 0, h_0, h_1, ()))) fun (r3, _) =>
        .ret (kind, 0, r3, ()))))
noncomputable def g (v : Int × Int × Int × Int × Unit) : Option (Int × Int × Int × Unit) := (T  v).opt
noncomputable def ent : Entry := ⟨101, pa, al, g⟩
@[reducible] noncomputable def E : EC := ⟨[spec_pzValue.ent], [], [], [], [], [], []⟩
noncomputable def H (_ : Nat) : List Lab := []
theorem ok : ent.ok PA := fn_ok E ent Tryd.f101 H ⟨spec_pzValue.ok, trivial⟩ (by kernel_rfl) (by kernel_rfl) (by kernel_rfl) trivial (fun k => by kernel_rfl) (fun _ => trivial)
  (fun v => (M.bind_ofO_opt (T  v) (res al)).trans (by kernel_rfl))
end spec_pzOf
/-! loop.example/g01394/spec.MakePuzzle -/
namespace spec_MakePuzzle
@[reducible] def pa : PFn := ⟨[.agg [.int .i64, .int .i64], .c (.int .i64), .c (.int .i64)], []⟩
@[reducible] def al : Res := [⟨[.agg [.own 0], .c (.bool)], [.arr false (.pair (.int .i64) (.pair (.int .i64) (.int .i64)))]⟩]
def p5 : PSt := ⟨47, 0, [(1, .c (.int .i64)), (3, .c (.ptr 0 0)), (6, .c (.ptr 1 0)), (8, .c (.ptr 2 0)), (9, .c (.int .i64))], [.cells [.int .i64, .int .i64], .cells [.own 3], .cells [.own 4], .arr false (.pair (.int .i64) (.pair (.int .i64) (.int .i64))), .arr false (.pair (.int .i64) (.pair (.int .i64) (.int .i64)))]⟩
def a5 : Exs := [((Ex.exit 0), ⟨47, 0, [(6, .c (.ptr 0 0)), (8, .c (.ptr 1 0))], [.cells [.own 2], .cells [.own 3], .arr false (.pair (.int .i64) (.pair (.int .i64) (.int .i64))), .arr false (.pair (.int .i64) (.pair (.int .i64) (.int .i64)))]⟩)]
noncomputable def T5 (o : Int × Int × Int × Int × (List (Prod Int (Prod Int Int))) × (List (Prod Int (Prod Int Int))) × Unit → Option ((List (Prod Int (Prod Int Int))) × (List (Prod Int (Prod Int Int))) × Unit)) : Int × Int × Int × Int × (List (Prod Int (Prod Int Int))) × (List (Prod Int (Prod Int Int))) × Unit → M ((List (Prod Int (Prod Int Int))) × (List (Prod Int (Prod Int Int))) × Unit) := fun (clues1, z, b0_0, b0_1, b3, b4, _) =>
  .ite (decide (clues1 > 0))
    (.bind (.ofO (spec_pzOf.g ((Int.tmod (Int.tmod (W ((W (311 * z)) + 503)) 10007) 6), (Int.tmod (W ((W (311 * (Int.tmod (W ((W (311 * z)) + 503)) 10007))) + 503)) 10007), b0_0, b0_1, ()))) fun (r3, r4, r5, _) =>
    .ite (room ((List.length b4) + (List.length [(r3, r4, r5)])) 24)
      (.ofO (o ((W (clues1 - 1)), (Int.tmod (W ((W (311 * (Int.tmod (W ((W (311 * z)) + 503)) 10007))) + 503)) 10007), b0_0, b0_1, b3, (b4 ++ [(r3, r4, r5)]), ())))
      (.fail))
    (.ret (b3, b4, ()))
noncomputable def L5 (k : Nat) : Int × Int × Int × Int × (List (Prod Int (Prod Int Int))) × (List (Prod Int (Prod Int Int))) × Unit → Option ((List (Prod Int (Prod Int Int))) × (List (Prod Int (Prod Int Int))) × Unit) := Nat.rec (fun _ => none) (fun _ ih v => (T5 ih v).opt) k
noncomputable def T (o5 : Int × Int × Int × Int × (List (Prod Int (Prod Int Int))) × (List (Prod Int (Prod Int Int))) × Unit → Option ((List (Prod Int (Prod Int Int))) × (List (Prod Int (Prod Int Int))) × Unit)) : Int × Int × Int × Int × Unit → M (Bool × (List (Prod Int (Prod Int Int))) × Unit) := fun (h_0, h_1, clues, seed, _) =>
  .bind (.ofO (spec_pzBook.g (h_0, h_1, ()))) fun (r, _) =>
  .ite (!r)
    (.ret (false, ([] : List (Prod Int (Prod Int Int))), ()))
    (.bind (.ofO (spec_l1In.g (clues, 0, 6, ()))) fun (r1, _) =>
    .ite (!r1)
      (.ret (false, ([] : List (Prod Int (Prod Int Int))), ()))
      (.bind (.ofO (spec_l1In.g (seed, 0, 9999, ()))) fun (r2, _) =>
      .ite (!r2)
        (.ret (false, ([] : List (Prod Int (Prod Int Int))), ()))
        (.bind (.ofO (o5 (clues, seed, h_0, h_1, ([] : List (Prod Int (Prod Int Int))), ([] : List (Prod Int (Prod Int Int))), ()))) fun (b2, b3, _) =>
        .ret (true, b3, ()))))
noncomputable def g (v : Int × Int × Int × Int × Unit) : Option (Bool × (List (Prod Int (Prod Int Int))) × Unit) := (T (L5 fuel) v).opt
noncomputable def ent : Entry := ⟨7, pa, al, g⟩
@[reducible] noncomputable def E : EC := ⟨[spec_pzBook.ent, spec_l1In.ent, spec_pzNext.ent, spec_pzOf.ent], [(5, [1, 3, 6, 8, 9])], [(5, [6, 8])], [], [], [[some (true, (.pair (.int .i64) (.pair (.int .i64) (.int .i64))))], []], []⟩
noncomputable def H (k : Nat) : List Lab := [⟨false, 5, p5, a5, L5 k⟩]
theorem s5 (k : Nat) (v) : M.bind (.ofO (L5 (k + 1) v)) (exs a5) = evStep (mkE E) (ask (H k)) false (codeAt (bodyOf Tryd.f7) false 5) (stOf p5 v) := (M.bind_ofO_opt (T5 (L5 k) v) (exs a5)).trans (by kernel_rfl)
theorem ok : ent.ok PA := fn_ok E ent Tryd.f7 H ⟨spec_pzBook.ok, ⟨spec_l1In.ok, ⟨spec_pzNext.ok, ⟨spec_pzOf.ok, trivial⟩⟩⟩⟩ (by kernel_rfl) (by kernel_rfl) (by kernel_rfl) ⟨fun _ => rfl, trivial⟩ (fun k => by kernel_rfl) (fun k => ⟨s5 k, trivial⟩)
  (fun v => (M.bind_ofO_opt (T (L5 fuel) v) (res al)).trans (by kernel_rfl))
end spec_MakePuzzle
/-! loop.example/g01394/laws.xPuzzle -/
namespace laws_xPuzzle
@[reducible] def pa : PFn := ⟨[.agg [.row (.pair (.int .i64) (.pair (.int .i64) (.int .i64)))], .agg [.row (.pair (.int .i64) (.pair (.int .i64) (.int .i64)))]], []⟩
@[reducible] def al : Res := [⟨[.c (.bool)], []⟩]
def p4 : PSt := ⟨31, 0, [(2, .c (.ptr 0 0)), (3, .c (.ptr 1 0)), (15, .c (.int .i64)), (16, .c (.int .i64))], [.cells [.row (.pair (.int .i64) (.pair (.int .i64) (.int .i64)))], .cells [.row (.pair (.int .i64) (.pair (.int .i64) (.int .i64)))]]⟩
def a4 : Exs := [(Ex.ret, ⟨31, 0, [(4, .c (.bool))], []⟩), ((Ex.exit 0), ⟨31, 0, [], []⟩)]
noncomputable def T4 (o : Int × Int × (List (Prod Int (Prod Int Int))) × (List (Prod Int (Prod Int Int))) × Unit → Option (Sum (Bool × Unit) (Unit))) : Int × Int × (List (Prod Int (Prod Int Int))) × (List (Prod Int (Prod Int Int))) × Unit → M (Sum (Bool × Unit) (Unit)) := fun (t15, t16, b0_0, b1_0, _) =>
  .ite (decide (t16 < t15))
    (.ite (decide (0 ≤ t16))
      (.bind (.ofO (b0_0)[(Int.toNat t16)]?) fun e =>
      .ite (decide (0 ≤ t16))
        (.bind (.ofO (b1_0)[(Int.toNat t16)]?) fun e1 =>
        .ite (!(eqInts [e.1, e.2.1, e.2.2] [e1.1, e1.2.1, e1.2.2]))
          (.ret (.inl (false, ())))
          (.ofO (o (t15, (W (t16 + 1)), b0_0, b1_0, ()))))
        (.fail))
      (.fail))
    (.ret (.inr ((()))))
noncomputable def L4 (k : Nat) : Int × Int × (List (Prod Int (Prod Int Int))) × (List (Prod Int (Prod Int Int))) × Unit → Option (Sum (Bool × Unit) (Unit)) := Nat.rec (fun _ => none) (fun _ ih v => (T4 ih v).opt) k
noncomputable def T (o4 : Int × Int × (List (Prod Int (Prod Int Int))) × (List (Prod Int (Prod Int Int))) × Unit → Option (Sum (Bool × Unit) (Unit))) : (List (Prod Int (Prod Int Int))) × (List (Prod Int (Prod Int Int))) × Unit → M (Bool × Unit) := fun (a_0, b_0, _) =>
  .ite (((List.length a_0) : Int) != ((List.length b_0) : Int))
    (.ret (false, ()))
    (.bind (.ofO (o4 (((List.length a_0) : Int), 0, a_0, b_0, ()))) fun q => .sum q
      (fun (t4, _) =>
      .ret (t4, ()))
      (fun (_) =>
      .ret (true, ())))
noncomputable def g (v : (List (Prod Int (Prod Int Int))) × (List (Prod Int (Prod Int Int))) × Unit) : Option (Bool × Unit) := (T (L4 fuel) v).opt
noncomputable def ent : Entry := ⟨15, pa, al, g⟩
@[reducible] noncomputable def E : EC := ⟨[], [(4, [2, 3, 15, 16])], [(4, [4])], [], [], [], []⟩
noncomputable def H (k : Nat) : List Lab := [⟨false, 4, p4, a4, L4 k⟩]
theorem s4 (k : Nat) (v) : M.bind (.ofO (L4 (k + 1) v)) (exs a4) = evStep (mkE E) (ask (H k)) false (codeAt (bodyOf Tryd.f15) false 4) (stOf p4 v) := (M.bind_ofO_opt (T4 (L4 k) v) (exs a4)).trans (by kernel_rfl)
theorem ok : ent.ok PA := fn_ok E ent Tryd.f15 H trivial (by kernel_rfl) (by kernel_rfl) (by kernel_rfl) ⟨fun _ => rfl, trivial⟩ (fun k => by kernel_rfl) (fun k => ⟨s4 k, trivial⟩)
  (fun v => (M.bind_ofO_opt (T (L4 fuel) v) (res al)).trans (by kernel_rfl))
end laws_xPuzzle
/-! loop.example/g01394/spec.IsHidden -/
namespace spec_IsHidden
@[reducible] def pa : PFn := ⟨[.agg [.int .i64, .int .i64]], []⟩
@[reducible] def al : Res := [⟨[.c (.bool)], []⟩]
noncomputable def T  : Int × Int × Unit → M (Bool × Unit) := fun (h_0, h_1, _) =>
  .ofO (spec_pzBook.g (h_0, h_1, ()))
noncomputable def g (v : Int × Int × Unit) : Option (Bool × Unit) := (T  v).opt
noncomputable def ent : Entry := ⟨17, pa, al, g⟩
@[reducible] noncomputable def E : EC := ⟨[spec_pzBook.ent], [], [], [], [], [], []⟩
noncomputable def H (_ : Nat) : List Lab := []
theorem ok : ent.ok PA := fn_ok E ent Tryd.f17 H ⟨spec_pzBook.ok, trivial⟩ (by kernel_rfl) (by kernel_rfl) (by kernel_rfl) trivial (fun k => by kernel_rfl) (fun _ => trivial)
  (fun v => (M.bind_ofO_opt (T  v) (res al)).trans (by kernel_rfl))
end spec_IsHidden
/-! loop.example/g01394/impl.isBook -/
namespace impl_isBook
@[reducible] def pa : PFn := ⟨[.c (.int .i64)], []⟩
@[reducible] def al : Res := [⟨[.c (.bool)], []⟩]
noncomputable def T  : Int × Unit → M (Bool × Unit) := fun (pages, _) =>
  .ofO (impl_within.g (pages, 1, 2000, ()))
noncomputable def g (v : Int × Unit) : Option (Bool × Unit) := (T  v).opt
noncomputable def ent : Entry := ⟨112, pa, al, g⟩
@[reducible] noncomputable def E : EC := ⟨[impl_within.ent], [], [], [], [], [], []⟩
noncomputable def H (_ : Nat) : List Lab := []
theorem ok : ent.ok PA := fn_ok E ent Tryd.f112 H ⟨impl_within.ok, trivial⟩ (by kernel_rfl) (by kernel_rfl) (by kernel_rfl) trivial (fun k => by kernel_rfl) (fun _ => trivial)
  (fun v => (M.bind_ofO_opt (T  v) (res al)).trans (by kernel_rfl))
end impl_isBook
/-! loop.example/g01394/impl.sumOf -/
namespace impl_sumOf
@[reducible] def pa : PFn := ⟨[.c (.int .i64)], []⟩
@[reducible] def al : Res := [⟨[.c (.int .i64)], []⟩]
noncomputable def T  : Int × Unit → M (Int × Unit) := fun (pages, _) =>
  .ret ((W (Int.tdiv (W (pages * (W (pages + 1)))) 2)), ())
noncomputable def g (v : Int × Unit) : Option (Int × Unit) := (T  v).opt
noncomputable def ent : Entry := ⟨113, pa, al, g⟩
@[reducible] noncomputable def E : EC := ⟨[], [], [], [], [], [], []⟩
noncomputable def H (_ : Nat) : List Lab := []
theorem ok : ent.ok PA := fn_ok E ent Tryd.f113 H trivial (by kernel_rfl) (by kernel_rfl) (by kernel_rfl) trivial (fun k => by kernel_rfl) (fun _ => trivial)
  (fun v => (M.bind_ofO_opt (T  v) (res al)).trans (by kernel_rfl))
end impl_sumOf
/-! loop.example/g01394/impl.SumOfPages -/
namespace impl_SumOfPages
@[reducible] def pa : PFn := ⟨[.c (.int .i64)], []⟩
@[reducible] def al : Res := [⟨[.c (.int .i64), .c (.bool)], []⟩]
noncomputable def T  : Int × Unit → M (Int × Bool × Unit) := fun (pages, _) =>
  .bind (.ofO (impl_isBook.g (pages, ()))) fun (r, _) =>
  .ite (!r)
    (.ret (0, false, ()))
    (.ret ((W (Int.tdiv (W (pages * (W (pages + 1)))) 2)), true, ()))
noncomputable def g (v : Int × Unit) : Option (Int × Bool × Unit) := (T  v).opt
noncomputable def ent : Entry := ⟨18, pa, al, g⟩
@[reducible] noncomputable def E : EC := ⟨[impl_isBook.ent, impl_sumOf.ent], [], [], [], [], [], []⟩
noncomputable def H (_ : Nat) : List Lab := []
theorem ok : ent.ok PA := fn_ok E ent Tryd.f18 H ⟨impl_isBook.ok, ⟨impl_sumOf.ok, trivial⟩⟩ (by kernel_rfl) (by kernel_rfl) (by kernel_rfl) trivial (fun k => by kernel_rfl) (fun _ => trivial)
  (fun v => (M.bind_ofO_opt (T  v) (res al)).trans (by kernel_rfl))
end impl_SumOfPages
/-! loop.example/g01394/impl.isLeaf -/
namespace impl_isLeaf
@[reducible] def pa : PFn := ⟨[.c (.int .i64)], []⟩
@[reducible] def al : Res := [⟨[.c (.bool)], []⟩]
noncomputable def T  : Int × Unit → M (Bool × Unit) := fun (leaf, _) =>
  .ofO (impl_within.g (leaf, 1, 1000, ()))
noncomputable def g (v : Int × Unit) : Option (Bool × Unit) := (T  v).opt
noncomputable def ent : Entry := ⟨114, pa, al, g⟩
@[reducible] noncomputable def E : EC := ⟨[impl_within.ent], [], [], [], [], [], []⟩
noncomputable def H (_ : Nat) : List Lab := []
theorem ok : ent.ok PA := fn_ok E ent Tryd.f114 H ⟨impl_within.ok, trivial⟩ (by kernel_rfl) (by kernel_rfl) (by kernel_rfl) trivial (fun k => by kernel_rfl) (fun _ => trivial)
  (fun v => (M.bind_ofO_opt (T  v) (res al)).trans (by kernel_rfl))
end impl_isLeaf
/-! loop.example/g01394/impl.SumOfLeaf -/
namespace impl_SumOfLeaf
@[reducible] def pa : PFn := ⟨[.c (.int .i64)], []⟩
@[reducible] def al : Res := [⟨[.c (.int .i64), .c (.bool)], []⟩]
noncomputable def T  : Int × Unit → M (Int × Bool × Unit) := fun (leaf, _) =>
  .bind (.ofO (impl_isLeaf.g (leaf, ()))) fun (r, _) =>
  .ite (!r)
    (.ret (0, false, ()))
    (.ret ((W ((W (4 * leaf)) - 1)), true, ()))
noncomputable def g (v : Int × Unit) : Option (Int × Bool × Unit) := (T  v).opt
noncomputable def ent : Entry := ⟨19, pa, al, g⟩
@[reducible] noncomputable def E : EC := ⟨[impl_isLeaf.ent], [], [], [], [], [], []⟩
noncomputable def H (_ : Nat) : List Lab := []
theorem ok : ent.ok PA := fn_ok E ent Tryd.f19 H ⟨impl_isLeaf.ok, trivial⟩ (by kernel_rfl) (by kernel_rfl) (by kernel_rfl) trivial (fun k => by kernel_rfl) (fun _ => trivial)
  (fun v => (M.bind_ofO_opt (T  v) (res al)).trans (by kernel_rfl))
end impl_SumOfLeaf
/-! loop.example/g01394/impl.DoesFit -/
namespace impl_DoesFit
@[reducible] def pa : PFn := ⟨[.agg [.int .i64, .int .i64, .int .i64], .agg [.int .i64, .int .i64]], []⟩
@[reducible] def al : Res := [⟨[.c (.bool), .c (.bool)], []⟩]
noncomputable def T  : Int × Int × Int × Int × Int × Unit → M (Bool × Bool × Unit) := fun (c_0, c_1, c_2, h_0, h_1, _) =>
  .bind (.ofO (impl_IsClue.g (c_0, c_1, c_2, ()))) fun (r, _) =>
  .ite (!r)
    (.ret (false, false, ()))
    (.bind (.ofO (impl_IsHidden.g (h_0, h_1, ()))) fun (r1, _) =>
    .ite (!r1)
      (.ret (false, false, ()))
      (.bind (.ofO (impl_Hidden_fits.g (h_0, h_1, c_0, c_1, c_2, ()))) fun (r2, _) =>
      .ret (r2, true, ())))
noncomputable def g (v : Int × Int × Int × Int × Int × Unit) : Option (Bool × Bool × Unit) := (T  v).opt
noncomputable def ent : Entry := ⟨20, pa, al, g⟩
@[reducible] noncomputable def E : EC := ⟨[impl_IsClue.ent, impl_IsHidden.ent, impl_Hidden_fits.ent], [], [], [], [], [], []⟩
noncomputable def H (_ : Nat) : List Lab := []
theorem ok : ent.ok PA := fn_ok E ent Tryd.f20 H ⟨impl_IsClue.ok, ⟨impl_IsHidden.ok, ⟨impl_Hidden_fits.ok, trivial⟩⟩⟩ (by kernel_rfl) (by kernel_rfl) (by kernel_rfl) trivial (fun k => by kernel_rfl) (fun _ => trivial)
  (fun v => (M.bind_ofO_opt (T  v) (res al)).trans (by kernel_rfl))
end impl_DoesFit
/-! loop.example/g01394/impl.tornLeaf -/
namespace impl_tornLeaf
@[reducible] def pa : PFn := ⟨[.c (.int .i64), .c (.int .i64)], []⟩
@[reducible] def al : Res := [⟨[.c (.int .i64)], []⟩]
noncomputable def T  : Int × Int × Unit → M (Int × Unit) := fun (pages, sum, _) =>
  .ite (decide ((W ((W (Int.tdiv (W (pages * (W (pages + 1)))) 2)) - sum)) > 0))
    (.ite ((W ((W (4 * (W (Int.tdiv (W ((W ((W (Int.tdiv (W (pages * (W (pages + 1)))) 2)) - sum)) + 1)) 4)))) - 1)) == (W ((W (Int.tdiv (W (pages * (W (pages + 1)))) 2)) - sum)))
      (.ite (decide ((W (2 * (W (Int.tdiv (W ((W ((W (Int.tdiv (W (pages * (W (pages + 1)))) 2)) - sum)) + 1)) 4)))) ≤ pages))
        (.ret ((W (Int.tdiv (W ((W ((W (Int.tdiv (W (pages * (W (pages + 1)))) 2)) - sum)) + 1)) 4)), ()))
        (.ret (0, ())))
      (.ret (0, ())))
    (.ret (0, ()))
noncomputable def g (v : Int × Int × Unit) : Option (Int × Unit) := (T  v).opt
noncomputable def ent : Entry := ⟨116, pa, al, g⟩
@[reducible] noncomputable def E : EC := ⟨[impl_sumOf.ent], [], [], [], [], [], []⟩
noncomputable def H (_ : Nat) : List Lab := []
theorem ok : ent.ok PA := fn_ok E ent Tryd.f116 H ⟨impl_sumOf.ok, trivial⟩ (by kernel_rfl) (by kernel_rfl) (by kernel_rfl) trivial (fun k => by kernel_rfl) (fun _ => trivial)
  (fun v => (M.bind_ofO_opt (T  v) (res al)).trans (by kernel_rfl))
end impl_tornLeaf
/-! loop.example/g01394/impl.TornLeaf -/
namespace impl_TornLeaf
@[reducible] def pa : PFn := ⟨[.c (.int .i64), .c (.int .i64)], []⟩
@[reducible] def al : Res := [⟨[.c (.int .i64), .c (.bool)], []⟩]
noncomputable def T  : Int × Int × Unit → M (Int × Bool × Unit) := fun (pages, sum, _) =>
  .bind (.ofO (impl_isBook.g (pages, ()))) fun (r, _) =>
  .ite (!r)
    (.ret (0, false, ()))
    (.ite (decide (sum < 0))
      (.ret (0, false, ()))
      (.bind (.ofO (impl_tornLeaf.g (pages, sum, ()))) fun (r1, _) =>
      .ret (r1, (decide (r1 > 0)), ())))
noncomputable def g (v : Int × Int × Unit) : Option (Int × Bool × Unit) := (T  v).opt
noncomputable def ent : Entry := ⟨21, pa, al, g⟩
@[reducible] noncomputable def E : EC := ⟨[impl_isBook.ent, impl_tornLeaf.ent], [], [], [], [], [], []⟩
noncomputable def H (_ : Nat) : List Lab := []
theorem ok : ent.ok PA := fn_ok E ent Tryd.f21 H ⟨impl_isBook.ok, ⟨impl_tornLeaf.ok, trivial⟩⟩ (by kernel_rfl) (by kernel_rfl) (by kernel_rfl) trivial (fun k => by kernel_rfl) (fun _ => trivial)
  (fun v => (M.bind_ofO_opt (T  v) (res al)).trans (by kernel_rfl))
end impl_TornLeaf
/-! loop.example/g01394/impl.IsPuzzle -/
namespace impl_IsPuzzle
@[reducible] def pa : PFn := ⟨[.agg [.row (.pair (.int .i64) (.pair (.int .i64) (.int .i64)))]], []⟩
@[reducible] def al : Res := [⟨[.c (.bool)], []⟩]
noncomputable def T  : (List (Prod Int (Prod Int Int))) × Unit → M (Bool × Unit) := fun (p_0, _) =>
  .ite (decide (((List.length p_0) : Int) ≤ 6))
    (.bind (.ofO (slices_ContainsFunc_impl_Clue_impl_Clue_a.g (p_0, ()))) fun (r, _) =>
    .ret ((!r), ()))
    (.ret (false, ()))
noncomputable def g (v : (List (Prod Int (Prod Int Int))) × Unit) : Option (Bool × Unit) := (T  v).opt
noncomputable def ent : Entry := ⟨22, pa, al, g⟩
@[reducible] noncomputable def E : EC := ⟨[impl_IsPuzzle_1.ent, slices_ContainsFunc_impl_Clue_impl_Clue_a.ent, slices_ContainsFunc_impl_Clue_impl_Clue_b.ent], [], [], [], [], [], []⟩
noncomputable def H (_ : Nat) : List Lab := []
theorem ok : ent.ok PA := fn_ok E ent Tryd.f22 H ⟨impl_IsPuzzle_1.ok, ⟨slices_ContainsFunc_impl_Clue_impl_Clue_a.ok, ⟨slices_ContainsFunc_impl_Clue_impl_Clue_b.ok, trivial⟩⟩⟩ (by kernel_rfl) (by kernel_rfl) (by kernel_rfl) trivial (fun k => by kernel_rfl) (fun _ => trivial)
  (fun v => (M.bind_ofO_opt (T  v) (res al)).trans (by kernel_rfl))
end impl_IsPuzzle
/-! (*loop.example/g01394/spec.l1Cur).surePuzzle -/
namespace spec_l1Cur_surePuzzle
@[reducible] def pa : PFn := ⟨[.c (.ptr 0 0), .c (.int .i64)], [.cells [.row (.int .u8), .int .i64, .int .u64]]⟩
@[reducible] def al : Res := [⟨[.agg [.own 1]], [.cells [.row (.int .u8), .int .i64, .int .u64], .arr false (.pair (.int .i64) (.pair (.int .i64) (.int .i64)))]⟩]
noncomputable def T  : Int × (List Int) × Int × Int × Unit → M ((List Int) × Int × Int × (List (Prod Int (Prod Int Int))) × Unit) := fun (most, b0_0, b0_1, b0_2, _) =>
  .bind (.ofO (spec_l1Cur_hidden.g (b0_0, b0_1, b0_2, ()))) fun (r, r1, r2, r3, r4, _) =>
  .bind (.ofO (spec_l1Cur_pick.g ((W (most + 1)), r2, r3, r4, ()))) fun (r5, r6, r7, r8, _) =>
  .bind (.ofO (spec_l1Cur_pick.g (10000, r6, r7, r8, ()))) fun (r9, r10, r11, r12, _) =>
  .bind (.ofO (spec_MakePuzzle.g (r, r1, r5, r9, ()))) fun (r13, r14, _) =>
  .ret (r10, r11, r12, r14, ())
noncomputable def g (v : Int × (List Int) × Int × Int × Unit) : Option ((List Int) × Int × Int × (List (Prod Int (Prod Int Int))) × Unit) := (T  v).opt
noncomputable def ent : Entry := ⟨185, pa, al, g⟩
@[reducible] noncomputable def E : EC := ⟨[spec_l1Cur_hidden.ent, spec_l1Cur_pick.ent, spec_MakePuzzle.ent], [], [], [], [], [[some (true, (.pair (.int .i64) (.pair (.int .i64) (.int .i64))))]], []⟩
noncomputable def H (_ : Nat) : List Lab := []
theorem ok : ent.ok PA := fn_ok E ent Tryd.f185 H ⟨spec_l1Cur_hidden.ok, ⟨spec_l1Cur_pick.ok, ⟨spec_MakePuzzle.ok, trivial⟩⟩⟩ (by kernel_rfl) (by kernel_rfl) (by kernel_rfl) trivial (fun k => by kernel_rfl) (fun _ => trivial)
  (fun v => (M.bind_ofO_opt (T  v) (res al)).trans (by kernel_rfl))
end spec_l1Cur_surePuzzle
/-! (*loop.example/g01394/spec.l1Cur).clue -/
namespace spec_l1Cur_clue
@[reducible] def pa : PFn := ⟨[.c (.ptr 0 0)], [.cells [.row (.int .u8), .int .i64, .int .u64]]⟩
@[reducible] def al : Res := [⟨[.agg [.int .i64, .int .i64, .int .i64]], [.cells [.row (.int .u8), .int .i64, .int .u64]]⟩]
noncomputable def T  : (List Int) × Int × Int × Unit → M (Int × Int × Int × (List Int) × Int × Int × Unit) := fun (b0_0, b0_1, b0_2, _) =>
  .bind (.ofO (spec_l1Cur_pick.g (6, b0_0, b0_1, b0_2, ()))) fun (r, r1, r2, r3, _) =>
  .bind (.ofO (spec_l1Cur_pick.g (9, r1, r2, r3, ()))) fun (r4, r5, r6, r7, _) =>
  .bind (.ofO (spec_l1Cur_pick.g (250, r5, r6, r7, ()))) fun (r8, r9, r10, r11, _) =>
  .bind (.ofO (spec_l1Cur_pick.g (9, r9, r10, r11, ()))) fun (r12, r13, r14, r15, _) =>
  .ite ((W (r + (W (Int.tdiv r4 8)))) == 2)
    (.bind (.ofO (spec_l1Cur_pick.g (11, r13, r14, r15, ()))) fun (r16, r17, r18, r19, _) =>
    .bind (.ofO (spec_l1Cur_pick.g (16, r17, r18, r19, ()))) fun (r20, r21, r22, r23, _) =>
    .bind (.ofO (spec_l1Cur_one.g (14, r21, r22, r23, ()))) fun (r24, r25, r26, r27, _) =>
    .ite r24
      (.bind (.ofO (spec_l1Cur_pick.g (3, r25, r26, r27, ()))) fun (r28, r29, r30, r31, _) =>
      .ret ((W (r + (W (Int.tdiv r4 8)))), (W (r28 - 1)), r20, r29, r30, r31, ()))
      (.ret ((W (r + (W (Int.tdiv r4 8)))), r16, r20, r25, r26, r27, ())))
    (.ite ((W (r + (W (Int.tdiv r4 8)))) == 3)
      (.bind (.ofO (spec_l1Cur_pick.g (22, r13, r14, r15, ()))) fun (r32, r33, r34, r35, _) =>
      .bind (.ofO (spec_l1Cur_pick.g (3, r33, r34, r35, ()))) fun (r36, r37, r38, r39, _) =>
      .bind (.ofO (spec_l1Cur_one.g (14, r37, r38, r39, ()))) fun (r40, r41, r42, r43, _) =>
      .ite r40
        (.bind (.ofO (spec_l1Cur_pick.g (3, r41, r42, r43, ()))) fun (r44, r45, r46, r47, _) =>
        .ret ((W (r + (W (Int.tdiv r4 8)))), (W (r44 - 1)), r36, r45, r46, r47, ()))
        (.ret ((W (r + (W (Int.tdiv r4 8)))), r32, r36, r41, r42, r43, ())))
      (.ite ((W (r + (W (Int.tdiv r4 8)))) == 4)
        (.bind (.ofO (spec_l1Cur_pick.g (10, r13, r14, r15, ()))) fun (r48, r49, r50, r51, _) =>
        .bind (.ofO (spec_l1Cur_pick.g (3, r49, r50, r51, ()))) fun (r52, r53, r54, r55, _) =>
        .bind (.ofO (spec_l1Cur_one.g (14, r53, r54, r55, ()))) fun (r56, r57, r58, r59, _) =>
        .ite r56
          (.bind (.ofO (spec_l1Cur_pick.g (3, r57, r58, r59, ()))) fun (r60, r61, r62, r63, _) =>
          .ret ((W (r + (W (Int.tdiv r4 8)))), (W (r60 - 1)), r52, r61, r62, r63, ()))
          (.ret ((W (r + (W (Int.tdiv r4 8)))), (W (1 + r48)), r52, r57, r58, r59, ())))
        (.ite ((W (r + (W (Int.tdiv r4 8)))) == 5)
          (.bind (.ofO (spec_l1Cur_pick.g (21, r13, r14, r15, ()))) fun (r64, r65, r66, r67, _) =>
          .bind (.ofO (spec_l1Cur_one.g (14, r65, r66, r67, ()))) fun (r68, r69, r70, r71, _) =>
          .ite r68
            (.bind (.ofO (spec_l1Cur_pick.g (3, r69, r70, r71, ()))) fun (r72, r73, r74, r75, _) =>
            .ret ((W (r + (W (Int.tdiv r4 8)))), (W (r72 - 1)), (W ((W (4 * r64)) - 1)), r73, r74, r75, ()))
            (.ret ((W (r + (W (Int.tdiv r4 8)))), 0, (W ((W (4 * r64)) - 1)), r69, r70, r71, ())))
          (.bind (.ofO (spec_l1Cur_one.g (14, r13, r14, r15, ()))) fun (r76, r77, r78, r79, _) =>
          .ite r76
            (.bind (.ofO (spec_l1Cur_pick.g (3, r77, r78, r79, ()))) fun (r80, r81, r82, r83, _) =>
            .ret ((W (r + (W (Int.tdiv r4 8)))), (W (r80 - 1)), (W (r8 - (W (Int.tdiv r12 8)))), r81, r82, r83, ()))
            (.ret ((W (r + (W (Int.tdiv r4 8)))), 0, (W (r8 - (W (Int.tdiv r12 8)))), r77, r78, r79, ()))))))
noncomputable def g (v : (List Int) × Int × Int × Unit) : Option (Int × Int × Int × (List Int) × Int × Int × Unit) := (T  v).opt
noncomputable def ent : Entry := ⟨126, pa, al, g⟩
@[reducible] noncomputable def E : EC := ⟨[spec_l1Cur_pick.ent, spec_l1Cur_one.ent], [], [], [], [], [], []⟩
noncomputable def H (_ : Nat) : List Lab := []
theorem ok : ent.ok PA := fn_ok E ent Tryd.f126 H ⟨spec_l1Cur_pick.ok, ⟨spec_l1Cur_one.ok, trivial⟩⟩ (by kernel_rfl) (by kernel_rfl) (by kernel_rfl) trivial (fun k => by kernel_rfl) (fun _ => trivial)
  (fun v => (M.bind_ofO_opt (T  v) (res al)).trans (by kernel_rfl))
end spec_l1Cur_clue
/-! (*loop.example/g01394/spec.l1Cur).puzzle -/
namespace spec_l1Cur_puzzle
@[reducible] def pa : PFn := ⟨[.c (.ptr 0 0)], [.cells [.row (.int .u8), .int .i64, .int .u64]]⟩
@[reducible] def al : Res := [⟨[.agg [.row (.pair (.int .i64) (.pair (.int .i64) (.int .i64)))]], [.cells [.row (.int .u8), .int .i64, .int .u64]]⟩]
def p7 : PSt := ⟨34, 1, [(0, .c (.ptr 0 0)), (2, .c (.ptr 1 0)), (3, .c (.ptr 2 0))], [.cells [.row (.int .u8), .int .i64, .int .u64], .cells [.own 3], .cells [.own 4], .arr false (.pair (.int .i64) (.pair (.int .i64) (.int .i64))), .arr false (.pair (.int .i64) (.pair (.int .i64) (.int .i64)))]⟩
def a7 : Exs := [((Ex.exit 1), ⟨34, 1, [(2, .c (.ptr 1 0)), (3, .c (.ptr 2 0))], [.cells [.row (.int .u8), .int .i64, .int .u64], .cells [.own 3], .cells [.own 4], .arr false (.pair (.int .i64) (.pair (.int .i64) (.int .i64))), .arr false (.pair (.int .i64) (.pair (.int .i64) (.int .i64)))]⟩)]
noncomputable def T7 (o : (List Int) × Int × Int × (List (Prod Int (Prod Int Int))) × (List (Prod Int (Prod Int Int))) × Unit → Option ((List Int) × Int × Int × (List (Prod Int (Prod Int Int))) × (List (Prod Int (Prod Int Int))) × Unit)) : (List Int) × Int × Int × (List (Prod Int (Prod Int Int))) × (List (Prod Int (Prod Int Int))) × Unit → M ((List Int) × Int × Int × (List (Prod Int (Prod Int Int))) × (List (Prod Int (Prod Int Int))) × Unit) := fun (b0_02, b0_12, b0_22, b31, b41, _) =>
  .bind (.ofO (spec_l1Cur_pick.g (2, b0_02, b0_12, b0_22, ()))) fun (r14, r15, r16, r17, _) =>
  .ite (decide (((List.length b41) : Int) < (W (6 + r14))))
    (.ite (room ((List.length b41) + (List.length [(3, 2, 1)])) 24)
      (.ofO (o (r15, r16, r17, b31, (b41 ++ [(3, 2, 1)]), ())))
      (.fail))
    (.ret (r15, r16, r17, b31, b41, ()))
noncomputable def L7 (k : Nat) : (List Int) × Int × Int × (List (Prod Int (Prod Int Int))) × (List (Prod Int (Prod Int Int))) × Unit → Option ((List Int) × Int × Int × (List (Prod Int (Prod Int Int))) × (List (Prod Int (Prod Int Int))) × Unit) := Nat.rec (fun _ => none) (fun _ ih v => (T7 ih v).opt) k
def p5j : PSt := ⟨34, 1, [(0, .c (.ptr 0 0)), (2, .c (.ptr 1 0)), (3, .c (.ptr 2 0)), (7, .c (.int .i64)), (8, .c (.bool))], [.cells [.row (.int .u8), .int .i64, .int .u64], .cells [.own 3], .cells [.own 4], .arr false (.pair (.int .i64) (.pair (.int .i64) (.int .i64))), .arr false (.pair (.int .i64) (.pair (.int .i64) (.int .i64)))]⟩
def a5j : Exs := [(Ex.normal, ⟨34, 1, [(2, .c (.ptr 1 0)), (3, .c (.ptr 2 0))], [.cells [.row (.int .u8), .int .i64, .int .u64], .cells [.own 3], .cells [.own 4], .arr false (.pair (.int .i64) (.pair (.int .i64) (.int .i64))), .arr false (.pair (.int .i64) (.pair (.int .i64) (.int .i64)))]⟩)]
noncomputable def T5j (o7 : (List Int) × Int × Int × (List (Prod Int (Prod Int Int))) × (List (Prod Int (Prod Int Int))) × Unit → Option ((List Int) × Int × Int × (List (Prod Int (Prod Int Int))) × (List (Prod Int (Prod Int Int))) × Unit)) : Int × Bool × (List Int) × Int × Int × (List (Prod Int (Prod Int Int))) × (List (Prod Int (Prod Int Int))) × Unit → M ((List Int) × Int × Int × (List (Prod Int (Prod Int Int))) × (List (Prod Int (Prod Int Int))) × Unit) := fun (t7, t8, b0_01, b0_11, b0_21, b3, b4, _) =>
  .ite t8
    (.bind (.ofO (spec_l1Cur_clue.g (b0_01, b0_11, b0_21, ()))) fun (r8, r9, r10, r11, r12, r13, _) =>
    .ite (room ((List.length b4) + (List.length [(r8, r9, r10)])) 24)
      (.ret (r11, r12, r13, b3, (b4 ++ [(r8, r9, r10)]), ()))
      (.fail))
    (.ite (t7 == 2)
      (.ofO (o7 (b0_01, b0_11, b0_21, b3, b4, ())))
      (.ret (b0_01, b0_11, b0_21, b3, b4, ())))
noncomputable def L5j (k : Nat) : Int × Bool × (List Int) × Int × Int × (List (Prod Int (Prod Int Int))) × (List (Prod Int (Prod Int Int))) × Unit → Option ((List Int) × Int × Int × (List (Prod Int (Prod Int Int))) × (List (Prod Int (Prod Int Int))) × Unit) := Nat.rec (fun _ => none) (fun k _ v => (T5j (L7 k) v).opt) k
noncomputable def T (o5j : Int × Bool × (List Int) × Int × Int × (List (Prod Int (Prod Int Int))) × (List (Prod Int (Prod Int Int))) × Unit → Option ((List Int) × Int × Int × (List (Prod Int (Prod Int Int))) × (List (Prod Int (Prod Int Int))) × Unit)) : (List Int) × Int × Int × Unit → M ((List (Prod Int (Prod Int Int))) × (List Int) × Int × Int × Unit) := fun (b0_0, b0_1, b0_2, _) =>
  .bind (.ofO (spec_l1Cur_surePuzzle.g (5, b0_0, b0_1, b0_2, ()))) fun (r, r1, r2, r3, _) =>
  .bind (.ofO (spec_l1Cur_pick.g (12, r, r1, r2, ()))) fun (r4, r5, r6, r7, _) =>
  .ite (r4 == 0)
    (.bind (.ofO (o5j (r4, (r4 == 0), r5, r6, r7, ([] : List (Prod Int (Prod Int Int))), r3, ()))) fun (b0_01, b0_11, b0_21, b3, b4, _) =>
    .ret (b4, b0_01, b0_11, b0_21, ()))
    (.bind (.ofO (o5j (r4, (r4 == 1), r5, r6, r7, ([] : List (Prod Int (Prod Int Int))), r3, ()))) fun (b0_02, b0_12, b0_22, b31, b41, _) =>
    .ret (b41, b0_02, b0_12, b0_22, ()))
noncomputable def g (v : (List Int) × Int × Int × Unit) : Option ((List (Prod Int (Prod Int Int))) × (List Int) × Int × Int × Unit) := (T (L5j fuel) v).opt
noncomputable def ent : Entry := ⟨119, pa, al, g⟩
@[reducible] noncomputable def E : EC := ⟨[spec_l1Cur_surePuzzle.ent, spec_l1Cur_pick.ent, spec_l1Cur_clue.ent], [(7, [0, 2, 3])], [(7, [2, 3])], [(5, [0, 2, 3, 7, 8])], [(5, [2, 3])], [[some (false, (.pair (.int .i64) (.pair (.int .i64) (.int .i64))))]], []⟩
noncomputable def H (k : Nat) : List Lab := [⟨false, 7, p7, a7, L7 k⟩, ⟨true, 5, p5j, a5j, L5j k⟩]
theorem s7 (k : Nat) (v) : M.bind (.ofO (L7 (k + 1) v)) (exs a7) = evStep (mkE E) (ask (H k)) false (codeAt (bodyOf Tryd.f119) false 7) (stOf p7 v) := (M.bind_ofO_opt (T7 (L7 k) v) (exs a7)).trans (by kernel_rfl)
theorem s5j (k : Nat) (v) : M.bind (.ofO (L5j (k + 1) v)) (exs a5j) = evStep (mkE E) (ask (H k)) true (codeAt (bodyOf Tryd.f119) true 5) (stOf p5j v) := (M.bind_ofO_opt (T5j (L7 k) v) (exs a5j)).trans (by kernel_rfl)
theorem ok : ent.ok PA := fn_ok E ent Tryd.f119 H ⟨spec_l1Cur_surePuzzle.ok, ⟨spec_l1Cur_pick.ok, ⟨spec_l1Cur_clue.ok, trivial⟩⟩⟩ (by kernel_rfl) (by kernel_rfl) (by kernel_rfl) ⟨fun _ => rfl, ⟨fun _ => rfl, trivial⟩⟩ (fun k => by kernel_rfl) (fun k => ⟨s7 k, ⟨s5j k, trivial⟩⟩)
  (fun v => (M.bind_ofO_opt (T (L5j fuel) v) (res al)).trans (by kernel_rfl))
end spec_l1Cur_puzzle
/-! loop.example/g01394/spec.DrawHarderPuzzle -/
namespace spec_DrawHarderPuzzle
@[reducible] def pa : PFn := ⟨[.c (.row (.int .u8))], []⟩
@[reducible] def al : Res := [⟨[.agg [.row (.pair (.int .i64) (.pair (.int .i64) (.int .i64)))]], []⟩]
noncomputable def T  : (List Int) × Unit → M ((List (Prod Int (Prod Int Int))) × Unit) := fun (code, _) =>
  .bind (.ofO (spec_l1Cur_one.g (4, code, 0, 0, ()))) fun (r, r1, r2, r3, _) =>
  .ite r
    (.bind (.ofO (spec_l1Cur_puzzle.g (r1, r2, r3, ()))) fun (r4, r5, r6, r7, _) =>
    .ret (r4, ()))
    (.bind (.ofO (spec_l1Cur_hidden.g (r1, r2, r3, ()))) fun (r8, r9, r10, r11, r12, _) =>
    .bind (.ofO (spec_l1Cur_pick.g (3, r10, r11, r12, ()))) fun (r13, r14, r15, r16, _) =>
    .bind (.ofO (spec_l1Cur_pick.g (10000, r14, r15, r16, ()))) fun (r17, r18, r19, r20, _) =>
    .bind (.ofO (spec_MakePuzzle.g (r8, r9, r13, r17, ()))) fun (r21, r22, _) =>
    .ite (room ((List.length r22) + (List.length [(0, 0, (W ((W (Int.tdiv (W (r8 * (W (r8 + 1)))) 2)) - (W ((W (4 * r9)) - 1))))), (5, 0, (W ((W (4 * r9)) - 1)))])) 24)
      (.ret ((r22 ++ [(0, 0, (W ((W (Int.tdiv (W (r8 * (W (r8 + 1)))) 2)) - (W ((W (4 * r9)) - 1))))), (5, 0, (W ((W (4 * r9)) - 1)))]), ()))
      (.fail))
noncomputable def g (v : (List Int) × Unit) : Option ((List (Prod Int (Prod Int Int))) × Unit) := (T  v).opt
noncomputable def ent : Entry := ⟨23, pa, al, g⟩
@[reducible] noncomputable def E : EC := ⟨[spec_l1Cur_one.ent, spec_l1Cur_puzzle.ent, spec_l1Cur_hidden.ent, spec_l1Cur_pick.ent, spec_MakePuzzle.ent, spec_pzOf.ent], [], [], [], [], [[some (false, (.pair (.int .i64) (.pair (.int .i64) (.int .i64))))]], []⟩
noncomputable def H (_ : Nat) : List Lab := []
theorem ok : ent.ok PA := fn_ok E ent Tryd.f23 H ⟨spec_l1Cur_one.ok, ⟨spec_l1Cur_puzzle.ok, ⟨spec_l1Cur_hidden.ok, ⟨spec_l1Cur_pick.ok, ⟨spec_MakePuzzle.ok, ⟨spec_pzOf.ok, trivial⟩⟩⟩⟩⟩⟩ (by kernel_rfl) (by kernel_rfl) (by kernel_rfl) trivial (fun k => by kernel_rfl) (fun _ => trivial)
  (fun v => (M.bind_ofO_opt (T  v) (res al)).trans (by kernel_rfl))
end spec_DrawHarderPuzzle
/-! loop.example/g01394/impl.solutions -/
namespace impl_solutions
@[reducible] def pa : PFn := ⟨[.c (.row (.pair (.int .i64) (.pair (.int .i64) (.int .i64))))], []⟩
@[reducible] def al : Res := [⟨[.c (.row (.pair (.int .i64) (.int .i64)))], []⟩]
def p6 : PSt := ⟨30, 0, [(0, .c (.row (.pair (.int .i64) (.pair (.int .i64) (.int .i64))))), (3, .c (.own 0)), (4, .c (.int .i64)), (5, .c (.int .i64))], [.arr false (.pair (.int .i64) (.int .i64))]⟩
def a6 : Exs := [((Ex.exit 2), ⟨30, 0, [(0, .c (.row (.pair (.int .i64) (.pair (.int .i64) (.int .i64))))), (3, .c (.own 0)), (4, .c (.int .i64))], [.arr false (.pair (.int .i64) (.int .i64))]⟩)]
noncomputable def T6 (o : (List (Prod Int (Prod Int Int))) × Int × Int × (List (Prod Int Int)) × Unit → Option ((List (Prod Int (Prod Int Int))) × Int × (List (Prod Int Int)) × Unit)) : (List (Prod Int (Prod Int Int))) × Int × Int × (List (Prod Int Int)) × Unit → M ((List (Prod Int (Prod Int Int))) × Int × (List (Prod Int Int)) × Unit) := fun (clues2, pages1, leaf, b01, _) =>
  .ite (decide (leaf ≤ (W (Int.tdiv pages1 2))))
    (.bind (.ofO (slices_ContainsFunc_impl_Clue_impl_Clue_b.g (clues2, pages1, leaf, ()))) fun (r, r1, r2, _) =>
    .ite (!r)
      (.ite (room ((List.length b01) + (List.length [(r1, r2)])) 16)
        (.ofO (o (clues2, pages1, (W (leaf + 1)), (b01 ++ [(r1, r2)]), ())))
        (.fail))
      (.ofO (o (clues2, pages1, (W (leaf + 1)), b01, ()))))
    (.ret (clues2, pages1, b01, ()))
noncomputable def L6 (k : Nat) : (List (Prod Int (Prod Int Int))) × Int × Int × (List (Prod Int Int)) × Unit → Option ((List (Prod Int (Prod Int Int))) × Int × (List (Prod Int Int)) × Unit) := Nat.rec (fun _ => none) (fun _ ih v => (T6 ih v).opt) k
def p3 : PSt := ⟨30, 0, [(0, .c (.row (.pair (.int .i64) (.pair (.int .i64) (.int .i64))))), (3, .c (.own 0)), (4, .c (.int .i64))], [.arr false (.pair (.int .i64) (.int .i64))]⟩
def a3 : Exs := [((Ex.exit 0), ⟨30, 0, [(0, .c (.row (.pair (.int .i64) (.pair (.int .i64) (.int .i64))))), (3, .c (.own 0)), (4, .c (.int .i64))], [.arr false (.pair (.int .i64) (.int .i64))]⟩)]
noncomputable def T3 (o6 : (List (Prod Int (Prod Int Int))) × Int × Int × (List (Prod Int Int)) × Unit → Option ((List (Prod Int (Prod Int Int))) × Int × (List (Prod Int Int)) × Unit)) (o : (List (Prod Int (Prod Int Int))) × Int × (List (Prod Int Int)) × Unit → Option ((List (Prod Int (Prod Int Int))) × Int × (List (Prod Int Int)) × Unit)) : (List (Prod Int (Prod Int Int))) × Int × (List (Prod Int Int)) × Unit → M ((List (Prod Int (Prod Int Int))) × Int × (List (Prod Int Int)) × Unit) := fun (clues1, pages, b0, _) =>
  .ite (decide (pages ≤ 40))
    (.bind (.ofO (o6 (clues1, pages, 1, b0, ()))) fun (clues2, pages1, b01, _) =>
    .ofO (o (clues2, (W (pages1 + 1)), b01, ())))
    (.ret (clues1, pages, b0, ()))
noncomputable def L3 (k : Nat) : (List (Prod Int (Prod Int Int))) × Int × (List (Prod Int Int)) × Unit → Option ((List (Prod Int (Prod Int Int))) × Int × (List (Prod Int Int)) × Unit) := Nat.rec (fun _ => none) (fun k ih v => (T3 (L6 k) ih v).opt) k
noncomputable def T (o3 : (List (Prod Int (Prod Int Int))) × Int × (List (Prod Int Int)) × Unit → Option ((List (Prod Int (Prod Int Int))) × Int × (List (Prod Int Int)) × Unit)) : (List (Prod Int (Prod Int Int))) × Unit → M ((List (Prod Int Int)) × Unit) := fun (clues, _) =>
  .bind (.ofO (o3 (clues, 2, ([] : List (Prod Int Int)), ()))) fun (clues1, pages, b0, _) =>
  .ret (b0, ())
noncomputable def g (v : (List (Prod Int (Prod Int Int))) × Unit) : Option ((List (Prod Int Int)) × Unit) := (T (L3 fuel) v).opt
noncomputable def ent : Entry := ⟨122, pa, al, g⟩
@[reducible] noncomputable def E : EC := ⟨[impl_solutions_1.ent, slices_ContainsFunc_impl_Clue_impl_Clue_a.ent, slices_ContainsFunc_impl_Clue_impl_Clue_b.ent], [(3, [0, 3, 4]), (6, [0, 3, 4, 5])], [(3, [0, 3, 4]), (6, [0, 3, 4])], [], [], [[some (false, (.pair (.int .i64) (.int .i64)))]], []⟩
noncomputable def H (k : Nat) : List Lab := [⟨false, 6, p6, a6, L6 k⟩, ⟨false, 3, p3, a3, L3 k⟩]
theorem s6 (k : Nat) (v) : M.bind (.ofO (L6 (k + 1) v)) (exs a6) = evStep (mkE E) (ask (H k)) false (codeAt (bodyOf Tryd.f122) false 6) (stOf p6 v) := (M.bind_ofO_opt (T6 (L6 k) v) (exs a6)).trans (by kernel_rfl)
theorem s3 (k : Nat) (v) : M.bind (.ofO (L3 (k + 1) v)) (exs a3) = evStep (mkE E) (ask (H k)) false (codeAt (bodyOf Tryd.f122) false 3) (stOf p3 v) := (M.bind_ofO_opt (T3 (L6 k) (L3 k) v) (exs a3)).trans (by kernel_rfl)
theorem ok : ent.ok PA := fn_ok E ent Tryd.f122 H ⟨impl_solutions_1.ok, ⟨slices_ContainsFunc_impl_Clue_impl_Clue_a.ok, ⟨slices_ContainsFunc_impl_Clue_impl_Clue_b.ok, trivial⟩⟩⟩ (by kernel_rfl) (by kernel_rfl) (by kernel_rfl) ⟨fun _ => rfl, ⟨fun _ => rfl, trivial⟩⟩ (fun k => by kernel_rfl) (fun k => ⟨s6 k, ⟨s3 k, trivial⟩⟩)
  (fun v => (M.bind_ofO_opt (T (L3 fuel) v) (res al)).trans (by kernel_rfl))
end impl_solutions
/-! loop.example/g01394/impl.Solutions -/
namespace impl_Solutions
@[reducible] def pa : PFn := ⟨[.agg [.row (.pair (.int .i64) (.pair (.int .i64) (.int .i64)))]], []⟩
@[reducible] def al : Res := [⟨[.c (.row (.pair (.int .i64) (.int .i64))), .c (.bool)], []⟩]
noncomputable def T  : (List (Prod Int (Prod Int Int))) × Unit → M ((List (Prod Int Int)) × Bool × Unit) := fun (p_0, _) =>
  .bind (.ofO (impl_IsPuzzle.g (p_0, ()))) fun (r, _) =>
  .ite (!r)
    (.ret (([] : List (Prod Int Int)), false, ()))
    (.bind (.ofO (impl_solutions.g (p_0, ()))) fun (r1, _) =>
    .ret (r1, true, ()))
noncomputable def g (v : (List (Prod Int (Prod Int Int))) × Unit) : Option ((List (Prod Int Int)) × Bool × Unit) := (T  v).opt
noncomputable def ent : Entry := ⟨27, pa, al, g⟩
@[reducible] noncomputable def E : EC := ⟨[impl_IsPuzzle.ent, impl_solutions.ent], [], [], [], [], [[some (false, (.pair (.int .i64) (.int .i64)))], []], []⟩
noncomputable def H (_ : Nat) : List Lab := []
theorem ok : ent.ok PA := fn_ok E ent Tryd.f27 H ⟨impl_IsPuzzle.ok, ⟨impl_solutions.ok, trivial⟩⟩ (by kernel_rfl) (by kernel_rfl) (by kernel_rfl) trivial (fun k => by kernel_rfl) (fun _ => trivial)
  (fun v => (M.bind_ofO_opt (T  v) (res al)).trans (by kernel_rfl))
end impl_Solutions
/-! loop.example/g01394/impl.IsSolved -/
namespace impl_IsSolved
@[reducible] def pa : PFn := ⟨[.agg [.row (.pair (.int .i64) (.pair (.int .i64) (.int .i64)))]], []⟩
@[reducible] def al : Res := [⟨[.c (.bool), .c (.bool)], []⟩]
noncomputable def T  : (List (Prod Int (Prod Int Int))) × Unit → M (Bool × Bool × Unit) := fun (p_0, _) =>
  .bind (.ofO (impl_Solutions.g (p_0, ()))) fun (r, r1, _) =>
  .ret ((((List.length r) : Int) == 1), r1, ())
noncomputable def g (v : (List (Prod Int (Prod Int Int))) × Unit) : Option (Bool × Bool × Unit) := (T  v).opt
noncomputable def ent : Entry := ⟨26, pa, al, g⟩
@[reducible] noncomputable def E : EC := ⟨[impl_Solutions.ent], [], [], [], [], [], []⟩
noncomputable def H (_ : Nat) : List Lab := []
theorem ok : ent.ok PA := fn_ok E ent Tryd.f26 H ⟨impl_Solutions.ok, trivial⟩ (by kernel_rfl) (by kernel_rfl) (by kernel_rfl) trivial (fun k => by kernel_rfl) (fun _ => trivial)
  (fun v => (M.bind_ofO_opt (T  v) (res al)).trans (by kernel_rfl))
end impl_IsSolved
/-! loop.example/g01394/impl.without -/
namespace impl_without
@[reducible] def pa : PFn := ⟨[.c (.row (.pair (.int .i64) (.pair (.int .i64) (.int .i64)))), .c (.int .i64)], []⟩
@[reducible] def al : Res := [⟨[.c (.row (.pair (.int .i64) (.pair (.int .i64) (.int .i64))))], []⟩]
noncomputable def T  : (List (Prod Int (Prod Int Int))) × Int × Unit → M ((List (Prod Int (Prod Int Int))) × Unit) := fun (clues, k', _) =>
  .bind (.ofO (slices_Clone_24.g (clues, ()))) fun (r, _) =>
  .bind (.ofO (slices_Delete_impl_Clue_impl_Clue.g (k', (W (k' + 1)), r, ()))) fun (r1, r2, _) =>
  .ret (r1, ())
noncomputable def g (v : (List (Prod Int (Prod Int Int))) × Int × Unit) : Option ((List (Prod Int (Prod Int Int))) × Unit) := (T  v).opt
noncomputable def ent : Entry := ⟨121, pa, al, g⟩
@[reducible] noncomputable def E : EC := ⟨[slices_Clone_24.ent, slices_Delete_impl_Clue_impl_Clue.ent], [], [], [], [], [[some (false, (.pair (.int .i64) (.pair (.int .i64) (.int .i64))))]], [(186, 0)]⟩
noncomputable def H (_ : Nat) : List Lab := []
theorem ok : ent.ok PA := fn_ok E ent Tryd.f121 H ⟨slices_Clone_24.ok, ⟨slices_Delete_impl_Clue_impl_Clue.ok, trivial⟩⟩ (by kernel_rfl) (by kernel_rfl) (by kernel_rfl) trivial (fun k => by kernel_rfl) (fun _ => trivial)
  (fun v => (M.bind_ofO_opt (T  v) (res al)).trans (by kernel_rfl))
end impl_without
/-! loop.example/g01394/impl.HarderPuzzle -/
namespace impl_HarderPuzzle
@[reducible] def pa : PFn := ⟨[.agg [.row (.pair (.int .i64) (.pair (.int .i64) (.int .i64)))]], []⟩
@[reducible] def al : Res := [⟨[.agg [.row (.pair (.int .i64) (.pair (.int .i64) (.int .i64)))], .c (.bool)], []⟩]
def p6 : PSt := ⟨40, 0, [(2, .c (.ptr 0 0)), (6, .c (.row (.pair (.int .i64) (.pair (.int .i64) (.int .i64))))), (7, .c (.int .i64))], [.cells [.own 1], .arr false (.pair (.int .i64) (.pair (.int .i64) (.int .i64)))]⟩
def a6 : Exs := [((Ex.exit 0), ⟨40, 0, [(2, .c (.ptr 0 0)), (6, .c (.row (.pair (.int .i64) (.pair (.int .i64) (.int .i64)))))], [.cells [.own 1], .arr false (.pair (.int .i64) (.pair (.int .i64) (.int .i64)))]⟩)]
noncomputable def T6 (o : (List (Prod Int (Prod Int Int))) × Int × (List (Prod Int (Prod Int Int))) × Unit → Option ((List (Prod Int (Prod Int Int))) × (List (Prod Int (Prod Int Int))) × Unit)) : (List (Prod Int (Prod Int Int))) × Int × (List (Prod Int (Prod Int Int))) × Unit → M ((List (Prod Int (Prod Int Int))) × (List (Prod Int (Prod Int Int))) × Unit) := fun (clues, k', b1, _) =>
  .ite (decide (k' < ((List.length clues) : Int)))
    (.bind (.ofO (impl_without.g (clues, k', ()))) fun (r4, _) =>
    .bind (.ofO (impl_solutions.g (r4, ()))) fun (r5, _) =>
    .ite (((List.length r5) : Int) == 1)
      (.ofO (o (r4, k', b1, ())))
      (.ofO (o (clues, (W (k' + 1)), b1, ()))))
    (.ret (clues, b1, ()))
noncomputable def L6 (k : Nat) : (List (Prod Int (Prod Int Int))) × Int × (List (Prod Int (Prod Int Int))) × Unit → Option ((List (Prod Int (Prod Int Int))) × (List (Prod Int (Prod Int Int))) × Unit) := Nat.rec (fun _ => none) (fun _ ih v => (T6 ih v).opt) k
noncomputable def T (o6 : (List (Prod Int (Prod Int Int))) × Int × (List (Prod Int (Prod Int Int))) × Unit → Option ((List (Prod Int (Prod Int Int))) × (List (Prod Int (Prod Int Int))) × Unit)) : (List (Prod Int (Prod Int Int))) × Unit → M ((List (Prod Int (Prod Int Int))) × Bool × Unit) := fun (p_0, _) =>
  .bind (.ofO (impl_IsSolved.g (p_0, ()))) fun (r, r1, _) =>
  .ite (!r1)
    (.ret (([] : List (Prod Int (Prod Int Int))), false, ()))
    (.ite (!r)
      (.ret (([] : List (Prod Int (Prod Int Int))), false, ()))
      (.bind (.ofO (slices_Clone_24r.g (p_0, ()))) fun (r2, r3, _) =>
      .bind (.ofO (o6 (r2, 0, ([] : List (Prod Int (Prod Int Int))), ()))) fun (clues, b1, _) =>
      .ret (clues, true, ())))
noncomputable def g (v : (List (Prod Int (Prod Int Int))) × Unit) : Option ((List (Prod Int (Prod Int Int))) × Bool × Unit) := (T (L6 fuel) v).opt
noncomputable def ent : Entry := ⟨24, pa, al, g⟩
@[reducible] noncomputable def E : EC := ⟨[impl_IsSolved.ent, slices_Clone_24r.ent, impl_without.ent, impl_solutions.ent], [(6, [2, 6, 7])], [(6, [2, 6])], [], [], [[some (false, (.pair (.int .i64) (.pair (.int .i64) (.int .i64))))], []], []⟩
noncomputable def H (k : Nat) : List Lab := [⟨false, 6, p6, a6, L6 k⟩]
theorem s6 (k : Nat) (v) : M.bind (.ofO (L6 (k + 1) v)) (exs a6) = evStep (mkE E) (ask (H k)) false (codeAt (bodyOf Tryd.f24) false 6) (stOf p6 v) := (M.bind_ofO_opt (T6 (L6 k) v) (exs a6)).trans (by kernel_rfl)
theorem ok : ent.ok PA := fn_ok E ent Tryd.f24 H ⟨impl_IsSolved.ok, ⟨slices_Clone_24r.ok, ⟨impl_without.ok, ⟨impl_solutions.ok, trivial⟩⟩⟩⟩ (by kernel_rfl) (by kernel_rfl) (by kernel_rfl) ⟨fun _ => rfl, trivial⟩ (fun k => by kernel_rfl) (fun k => ⟨s6 k, trivial⟩)
  (fun v => (M.bind_ofO_opt (T (L6 fuel) v) (res al)).trans (by kernel_rfl))
end impl_HarderPuzzle
/-! loop.example/g01394/spec.pzClue -/
namespace spec_pzClue
@[reducible] def pa : PFn := ⟨[.agg [.int .i64, .int .i64, .int .i64]], []⟩
@[reducible] def al : Res := [⟨[.c (.bool)], []⟩]
def p7j : PSt := ⟨41, 0, [(1, .c (.ptr 0 0)), (8, .c (.int .i64)), (9, .c (.bool))], [.cells [.int .i64, .int .i64, .int .i64]]⟩
def a7j : Exs := [(Ex.ret, ⟨41, 0, [(2, .c (.bool))], []⟩), (Ex.normal, ⟨41, 0, [], []⟩)]
noncomputable def T7j  : Int × Bool × Int × Int × Int × Unit → M (Sum (Bool × Unit) (Unit)) := fun (t8, t9, b0_0, b0_1, b0_2, _) =>
  .ite t9
    (.ret (.inl ((b0_1 == 0), ())))
    (.ite (t8 == 2)
      (.bind (.ofO (spec_l1In.g (b0_1, 0, 9, ()))) fun (r1, _) =>
      .ret (.inl (r1, ())))
      (.ite (t8 == 3)
        (.bind (.ofO (spec_l1In.g (b0_1, 1, 40, ()))) fun (r2, _) =>
        .ite r2
          (.ret (.inl ((decide (b0_2 < 2)), ())))
          (.ret (.inl (false, ()))))
        (.ite (t8 == 4)
          (.bind (.ofO (spec_l1In.g (b0_1, 2, 9, ()))) fun (r3, _) =>
          .ite r3
            (.ret (.inl ((decide (b0_2 < 2)), ())))
            (.ret (.inl (false, ()))))
          (.ret (.inr ((())))))))
noncomputable def L7j (k : Nat) : Int × Bool × Int × Int × Int × Unit → Option (Sum (Bool × Unit) (Unit)) := Nat.rec (fun _ => none) (fun _ _ v => (T7j  v).opt) k
noncomputable def T (o7j : Int × Bool × Int × Int × Int × Unit → Option (Sum (Bool × Unit) (Unit))) : Int × Int × Int × Unit → M (Bool × Unit) := fun (c_0, c_1, c_2, _) =>
  .bind (.ofO (spec_l1In.g (c_2, 0, 1000, ()))) fun (r, _) =>
  .ite (!r)
    (.ret (false, ()))
    (.ite (c_0 == 0)
      (.bind (.ofO (o7j (c_0, (c_0 == 0), c_0, c_1, c_2, ()))) fun q => .sum q
        (fun (t2, _) =>
        .ret (t2, ()))
        (fun (_) =>
        .ret (false, ())))
      (.ite (c_0 == 1)
        (.bind (.ofO (o7j (c_0, (c_0 == 1), c_0, c_1, c_2, ()))) fun q => .sum q
          (fun (t21, _) =>
          .ret (t21, ()))
          (fun (_) =>
          .ret (false, ())))
        (.bind (.ofO (o7j (c_0, (c_0 == 5), c_0, c_1, c_2, ()))) fun q => .sum q
          (fun (t22, _) =>
          .ret (t22, ()))
          (fun (_) =>
          .ret (false, ())))))
noncomputable def g (v : Int × Int × Int × Unit) : Option (Bool × Unit) := (T (L7j fuel) v).opt
noncomputable def ent : Entry := ⟨127, pa, al, g⟩
@[reducible] noncomputable def E : EC := ⟨[spec_l1In.ent], [], [], [(7, [1, 8, 9])], [(7, [2])], [], []⟩
noncomputable def H (k : Nat) : List Lab := [⟨true, 7, p7j, a7j, L7j k⟩]
theorem s7j (k : Nat) (v) : M.bind (.ofO (L7j (k + 1) v)) (exs a7j) = evStep (mkE E) (ask (H k)) true (codeAt (bodyOf Tryd.f127) true 7) (stOf p7j v) := (M.bind_ofO_opt (T7j  v) (exs a7j)).trans (by kernel_rfl)
theorem ok : ent.ok PA := fn_ok E ent Tryd.f127 H ⟨spec_l1In.ok, trivial⟩ (by kernel_rfl) (by kernel_rfl) (by kernel_rfl) ⟨fun _ => rfl, trivial⟩ (fun k => by kernel_rfl) (fun k => ⟨s7j k, trivial⟩)
  (fun v => (M.bind_ofO_opt (T (L7j fuel) v) (res al)).trans (by kernel_rfl))
end spec_pzClue
/-! loop.example/g01394/spec.pzGood -/
namespace spec_pzGood
@[reducible] def pa : PFn := ⟨[.agg [.row (.pair (.int .i64) (.pair (.int .i64) (.int .i64)))]], []⟩
@[reducible] def al : Res := [⟨[.c (.bool)], []⟩]
def p4 : PSt := ⟨20, 0, [(10, .c (.row (.pair (.int .i64) (.pair (.int .i64) (.int .i64))))), (11, .c (.int .i64)), (12, .c (.int .i64))], []⟩
def a4 : Exs := [(Ex.ret, ⟨20, 0, [(2, .c (.bool))], []⟩), ((Ex.exit 0), ⟨20, 0, [], []⟩)]
noncomputable def T4 (o : (List (Prod Int (Prod Int Int))) × Int × Int × Unit → Option (Sum (Bool × Unit) (Unit))) : (List (Prod Int (Prod Int Int))) × Int × Int × Unit → M (Sum (Bool × Unit) (Unit)) := fun (t10, t11, t12, _) =>
  .ite (decide (t12 < t11))
    (.ite (decide (0 ≤ t12))
      (.bind (.ofO (t10)[(Int.toNat t12)]?) fun e =>
      .bind (.ofO (spec_pzClue.g (e.1, e.2.1, e.2.2, ()))) fun (r, _) =>
      .ite (!r)
        (.ret (.inl (false, ())))
        (.ofO (o (t10, t11, (W (t12 + 1)), ()))))
      (.fail))
    (.ret (.inr ((()))))
noncomputable def L4 (k : Nat) : (List (Prod Int (Prod Int Int))) × Int × Int × Unit → Option (Sum (Bool × Unit) (Unit)) := Nat.rec (fun _ => none) (fun _ ih v => (T4 ih v).opt) k
noncomputable def T (o4 : (List (Prod Int (Prod Int Int))) × Int × Int × Unit → Option (Sum (Bool × Unit) (Unit))) : (List (Prod Int (Prod Int Int))) × Unit → M (Bool × Unit) := fun (p_0, _) =>
  .ite (decide (((List.length p_0) : Int) > 6))
    (.ret (false, ()))
    (.bind (.ofO (o4 (p_0, ((List.length p_0) : Int), 0, ()))) fun q => .sum q
      (fun (t2, _) =>
      .ret (t2, ()))
      (fun (_) =>
      .ret (true, ())))
noncomputable def g (v : (List (Prod Int (Prod Int Int))) × Unit) : Option (Bool × Unit) := (T (L4 fuel) v).opt
noncomputable def ent : Entry := ⟨123, pa, al, g⟩
@[reducible] noncomputable def E : EC := ⟨[spec_pzClue.ent], [(4, [10, 11, 12])], [(4, [2])], [], [], [], []⟩
noncomputable def H (k : Nat) : List Lab := [⟨false, 4, p4, a4, L4 k⟩]
theorem s4 (k : Nat) (v) : M.bind (.ofO (L4 (k + 1) v)) (exs a4) = evStep (mkE E) (ask (H k)) false (codeAt (bodyOf Tryd.f123) false 4) (stOf p4 v) := (M.bind_ofO_opt (T4 (L4 k) v) (exs a4)).trans (by kernel_rfl)
theorem ok : ent.ok PA := fn_ok E ent Tryd.f123 H ⟨spec_pzClue.ok, trivial⟩ (by kernel_rfl) (by kernel_rfl) (by kernel_rfl) ⟨fun _ => rfl, trivial⟩ (fun k => by kernel_rfl) (fun k => ⟨s4 k, trivial⟩)
  (fun v => (M.bind_ofO_opt (T (L4 fuel) v) (res al)).trans (by kernel_rfl))
end spec_pzGood
/-! loop.example/g01394/spec.pzFits -/
namespace spec_pzFits
@[reducible] def pa : PFn := ⟨[.agg [.int .i64, .int .i64, .int .i64], .agg [.int .i64, .int .i64]], []⟩
@[reducible] def al : Res := [⟨[.c (.bool)], []⟩]
noncomputable def T  : Int × Int × Int × Int × Int × Unit → M (Bool × Unit) := fun (c_0, c_1, c_2, h_0, h_1, _) =>
  .bind (.ofO (spec_pzValue.g (c_0, c_1, h_0, h_1, ()))) fun (r, _) =>
  .ret ((r == c_2), ())
noncomputable def g (v : Int × Int × Int × Int × Int × Unit) : Option (Bool × Unit) := (T  v).opt
noncomputable def ent : Entry := ⟨128, pa, al, g⟩
@[reducible] noncomputable def E : EC := ⟨[spec_pzValue.ent], [], [], [], [], [], []⟩
noncomputable def H (_ : Nat) : List Lab := []
theorem ok : ent.ok PA := fn_ok E ent Tryd.f128 H ⟨spec_pzValue.ok, trivial⟩ (by kernel_rfl) (by kernel_rfl) (by kernel_rfl) trivial (fun k => by kernel_rfl) (fun _ => trivial)
  (fun v => (M.bind_ofO_opt (T  v) (res al)).trans (by kernel_rfl))
end spec_pzFits
/-! loop.example/g01394/spec.pzAll -/
namespace spec_pzAll
@[reducible] def pa : PFn := ⟨[.c (.row (.pair (.int .i64) (.pair (.int .i64) (.int .i64))))], []⟩
@[reducible] def al : Res := [⟨[.c (.row (.pair (.int .i64) (.int .i64)))], []⟩]
def p11 : PSt := ⟨42, 0, [(0, .c (.row (.pair (.int .i64) (.pair (.int .i64) (.int .i64))))), (3, .c (.own 0)), (4, .c (.int .i64)), (5, .c (.int .i64)), (6, .c (.ptr 1 0)), (7, .c (.bool)), (23, .c (.row (.pair (.int .i64) (.pair (.int .i64) (.int .i64))))), (24, .c (.int .i64)), (25, .c (.int .i64))], [.arr false (.pair (.int .i64) (.int .i64)), .cells [.int .i64, .int .i64]]⟩
def a11 : Exs := [((Ex.exit 4), ⟨42, 0, [(0, .c (.row (.pair (.int .i64) (.pair (.int .i64) (.int .i64))))), (3, .c (.own 0)), (4, .c (.int .i64)), (5, .c (.int .i64)), (6, .c (.ptr 1 0)), (7, .c (.bool))], [.arr false (.pair (.int .i64) (.int .i64)), .cells [.int .i64, .int .i64]]⟩)]
noncomputable def T11 (o : (List (Prod Int (Prod Int Int))) × Int × Int × Bool × (List (Prod Int (Prod Int Int))) × Int × Int × (List (Prod Int Int)) × Int × Int × Unit → Option ((List (Prod Int (Prod Int Int))) × Int × Int × Bool × (List (Prod Int Int)) × Int × Int × Unit)) : (List (Prod Int (Prod Int Int))) × Int × Int × Bool × (List (Prod Int (Prod Int Int))) × Int × Int × (List (Prod Int Int)) × Int × Int × Unit → M ((List (Prod Int (Prod Int Int))) × Int × Int × Bool × (List (Prod Int Int)) × Int × Int × Unit) := fun (clues3, pages2, leaf1, fits, t23, t24, t25, b02, b1_0, b1_1, _) =>
  .ite (decide (t25 < t24))
    (.ite (decide (0 ≤ t25))
      (.bind (.ofO (t23)[(Int.toNat t25)]?) fun e =>
      .ite fits
        (.bind (.ofO (spec_pzFits.g (e.1, e.2.1, e.2.2, b1_0, b1_1, ()))) fun (r, _) =>
        .ofO (o (clues3, pages2, leaf1, r, t23, t24, (W (t25 + 1)), b02, b1_0, b1_1, ())))
        (.ofO (o (clues3, pages2, leaf1, false, t23, t24, (W (t25 + 1)), b02, b1_0, b1_1, ()))))
      (.fail))
    (.ret (clues3, pages2, leaf1, fits, b02, b1_0, b1_1, ()))
noncomputable def L11 (k : Nat) : (List (Prod Int (Prod Int Int))) × Int × Int × Bool × (List (Prod Int (Prod Int Int))) × Int × Int × (List (Prod Int Int)) × Int × Int × Unit → Option ((List (Prod Int (Prod Int Int))) × Int × Int × Bool × (List (Prod Int Int)) × Int × Int × Unit) := Nat.rec (fun _ => none) (fun _ ih v => (T11 ih v).opt) k
def p6 : PSt := ⟨42, 0, [(0, .c (.row (.pair (.int .i64) (.pair (.int .i64) (.int .i64))))), (3, .c (.own 0)), (4, .c (.int .i64)), (5, .c (.int .i64))], [.arr false (.pair (.int .i64) (.int .i64))]⟩
def a6 : Exs := [((Ex.exit 2), ⟨42, 0, [(0, .c (.row (.pair (.int .i64) (.pair (.int .i64) (.int .i64))))), (3, .c (.own 0)), (4, .c (.int .i64)), (5, .c (.int .i64))], [.arr false (.pair (.int .i64) (.int .i64))]⟩)]
noncomputable def T6 (o11 : (List (Prod Int (Prod Int Int))) × Int × Int × Bool × (List (Prod Int (Prod Int Int))) × Int × Int × (List (Prod Int Int)) × Int × Int × Unit → Option ((List (Prod Int (Prod Int Int))) × Int × Int × Bool × (List (Prod Int Int)) × Int × Int × Unit)) (o : (List (Prod Int (Prod Int Int))) × Int × Int × (List (Prod Int Int)) × Unit → Option ((List (Prod Int (Prod Int Int))) × Int × Int × (List (Prod Int Int)) × Unit)) : (List (Prod Int (Prod Int Int))) × Int × Int × (List (Prod Int Int)) × Unit → M ((List (Prod Int (Prod Int Int))) × Int × Int × (List (Prod Int Int)) × Unit) := fun (clues2, pages1, leaf, b01, _) =>
  .ite (decide (leaf ≤ (W (Int.tdiv pages1 2))))
    (.bind (.ofO (o11 (clues2, pages1, leaf, true, clues2, ((List.length clues2) : Int), 0, b01, pages1, leaf, ()))) fun (clues3, pages2, leaf1, fits, b02, b1_0, b1_1, _) =>
    .ite fits
      (.ite (room ((List.length b02) + (List.length [(b1_0, b1_1)])) 16)
        (.ofO (o (clues3, pages2, (W (leaf1 + 1)), (b02 ++ [(b1_0, b1_1)]), ())))
        (.fail))
      (.ofO (o (clues3, pages2, (W (leaf1 + 1)), b02, ()))))
    (.ret (clues2, pages1, leaf, b01, ()))
noncomputable def L6 (k : Nat) : (List (Prod Int (Prod Int Int))) × Int × Int × (List (Prod Int Int)) × Unit → Option ((List (Prod Int (Prod Int Int))) × Int × Int × (List (Prod Int Int)) × Unit) := Nat.rec (fun _ => none) (fun k ih v => (T6 (L11 k) ih v).opt) k
def p3 : PSt := ⟨42, 0, [(0, .c (.row (.pair (.int .i64) (.pair (.int .i64) (.int .i64))))), (3, .c (.own 0)), (4, .c (.int .i64))], [.arr false (.pair (.int .i64) (.int .i64))]⟩
def a3 : Exs := [((Ex.exit 0), ⟨42, 0, [(0, .c (.row (.pair (.int .i64) (.pair (.int .i64) (.int .i64))))), (3, .c (.own 0)), (4, .c (.int .i64))], [.arr false (.pair (.int .i64) (.int .i64))]⟩)]
noncomputable def T3 (o6 : (List (Prod Int (Prod Int Int))) × Int × Int × (List (Prod Int Int)) × Unit → Option ((List (Prod Int (Prod Int Int))) × Int × Int × (List (Prod Int Int)) × Unit)) (o : (List (Prod Int (Prod Int Int))) × Int × (List (Prod Int Int)) × Unit → Option ((List (Prod Int (Prod Int Int))) × Int × (List (Prod Int Int)) × Unit)) : (List (Prod Int (Prod Int Int))) × Int × (List (Prod Int Int)) × Unit → M ((List (Prod Int (Prod Int Int))) × Int × (List (Prod Int Int)) × Unit) := fun (clues1, pages, b0, _) =>
  .ite (decide (pages ≤ 40))
    (.bind (.ofO (o6 (clues1, pages, 1, b0, ()))) fun (clues2, pages1, leaf, b01, _) =>
    .ofO (o (clues2, (W (pages1 + 1)), b01, ())))
    (.ret (clues1, pages, b0, ()))
noncomputable def L3 (k : Nat) : (List (Prod Int (Prod Int Int))) × Int × (List (Prod Int Int)) × Unit → Option ((List (Prod Int (Prod Int Int))) × Int × (List (Prod Int Int)) × Unit) := Nat.rec (fun _ => none) (fun k ih v => (T3 (L6 k) ih v).opt) k
noncomputable def T (o3 : (List (Prod Int (Prod Int Int))) × Int × (List (Prod Int Int)) × Unit → Option ((List (Prod Int (Prod Int Int))) × Int × (List (Prod Int Int)) × Unit)) : (List (Prod Int (Prod Int Int))) × Unit → M ((List (Prod Int Int)) × Unit) := fun (clues, _) =>
  .bind (.ofO (o3 (clues, 2, ([] : List (Prod Int Int)), ()))) fun (clues1, pages, b0, _) =>
  .ret (b0, ())
noncomputable def g (v : (List (Prod Int (Prod Int Int))) × Unit) : Option ((List (Prod Int Int)) × Unit) := (T (L3 fuel) v).opt
noncomputable def ent : Entry := ⟨188, pa, al, g⟩
@[reducible] noncomputable def E : EC := ⟨[spec_pzFits.ent], [(3, [0, 3, 4]), (6, [0, 3, 4, 5]), (11, [0, 3, 4, 5, 6, 7, 23, 24, 25])], [(3, [0, 3, 4, 5, 6, 7]), (6, [0, 3, 4, 5, 6, 7]), (11, [0, 3, 4, 5, 6, 7])], [], [], [[some (false, (.pair (.int .i64) (.int .i64)))]], []⟩
noncomputable def H (k : Nat) : List Lab := [⟨false, 11, p11, a11, L11 k⟩, ⟨false, 6, p6, a6, L6 k⟩, ⟨false, 3, p3, a3, L3 k⟩]
theorem s11 (k : Nat) (v) : M.bind (.ofO (L11 (k + 1) v)) (exs a11) = evStep (mkE E) (ask (H k)) false (codeAt (bodyOf Tryd.f188) false 11) (stOf p11 v) := (M.bind_ofO_opt (T11 (L11 k) v) (exs a11)).trans (by kernel_rfl)
theorem s6 (k : Nat) (v) : M.bind (.ofO (L6 (k + 1) v)) (exs a6) = evStep (mkE E) (ask (H k)) false (codeAt (bodyOf Tryd.f188) false 6) (stOf p6 v) := (M.bind_ofO_opt (T6 (L11 k) (L6 k) v) (exs a6)).trans (by kernel_rfl)
theorem s3 (k : Nat) (v) : M.bind (.ofO (L3 (k + 1) v)) (exs a3) = evStep (mkE E) (ask (H k)) false (codeAt (bodyOf Tryd.f188) false 3) (stOf p3 v) := (M.bind_ofO_opt (T3 (L6 k) (L3 k) v) (exs a3)).trans (by kernel_rfl)
theorem ok : ent.ok PA := fn_ok E ent Tryd.f188 H ⟨spec_pzFits.ok, trivial⟩ (by kernel_rfl) (by kernel_rfl) (by kernel_rfl) ⟨fun _ => rfl, ⟨fun _ => rfl, ⟨fun _ => rfl, trivial⟩⟩⟩ (fun k => by kernel_rfl) (fun k => ⟨s11 k, ⟨s6 k, ⟨s3 k, trivial⟩⟩⟩)
  (fun v => (M.bind_ofO_opt (T (L3 fuel) v) (res al)).trans (by kernel_rfl))
end spec_pzAll
/-! loop.example/g01394/spec.pzSolved -/
namespace spec_pzSolved
@[reducible] def pa : PFn := ⟨[.c (.row (.pair (.int .i64) (.pair (.int .i64) (.int .i64))))], []⟩
@[reducible] def al : Res := [⟨[.c (.bool)], []⟩]
noncomputable def T  : (List (Prod Int (Prod Int Int))) × Unit → M (Bool × Unit) := fun (clues, _) =>
  .bind (.ofO (spec_pzAll.g (clues, ()))) fun (r, _) =>
  .ret ((((List.length r) : Int) == 1), ())
noncomputable def g (v : (List (Prod Int (Prod Int Int))) × Unit) : Option (Bool × Unit) := (T  v).opt
noncomputable def ent : Entry := ⟨124, pa, al, g⟩
@[reducible] noncomputable def E : EC := ⟨[spec_pzAll.ent], [], [], [], [], [], []⟩
noncomputable def H (_ : Nat) : List Lab := []
theorem ok : ent.ok PA := fn_ok E ent Tryd.f124 H ⟨spec_pzAll.ok, trivial⟩ (by kernel_rfl) (by kernel_rfl) (by kernel_rfl) trivial (fun k => by kernel_rfl) (fun _ => trivial)
  (fun v => (M.bind_ofO_opt (T  v) (res al)).trans (by kernel_rfl))
end spec_pzSolved
/-! loop.example/g01394/spec.pzWithout -/
namespace spec_pzWithout
@[reducible] def pa : PFn := ⟨[.c (.row (.pair (.int .i64) (.pair (.int .i64) (.int .i64)))), .c (.int .i64)], []⟩
@[reducible] def al : Res := [⟨[.c (.own 0)], [.arr false (.pair (.int .i64) (.pair (.int .i64) (.int .i64)))]⟩]
noncomputable def T  : (List (Prod Int (Prod Int Int))) × Int × Unit → M ((List (Prod Int (Prod Int Int))) × Unit) := fun (clues, k', _) =>
  .ite ((decide (0 ≤ 0)) && ((decide (0 ≤ k')) && (decide (k' ≤ ((List.length clues) : Int)))))
    (.ite (room ((List.length ([] : List (Prod Int (Prod Int Int)))) + (List.length (List.take ((Int.toNat k') - (Int.toNat 0)) (List.drop (Int.toNat 0) clues)))) 24)
      (.ite ((decide (0 ≤ (W (k' + 1)))) && ((decide ((W (k' + 1)) ≤ ((List.length clues) : Int))) && (decide (((List.length clues) : Int) ≤ ((List.length clues) : Int)))))
        (.ite (room ((List.length (([] : List (Prod Int (Prod Int Int))) ++ (List.take ((Int.toNat k') - (Int.toNat 0)) (List.drop (Int.toNat 0) clues)))) + (List.length (List.take ((Int.toNat ((List.length clues) : Int)) - (Int.toNat (W (k' + 1)))) (List.drop (Int.toNat (W (k' + 1))) clues)))) 24)
          (.ret (((([] : List (Prod Int (Prod Int Int))) ++ (List.take ((Int.toNat k') - (Int.toNat 0)) (List.drop (Int.toNat 0) clues))) ++ (List.take ((Int.toNat ((List.length clues) : Int)) - (Int.toNat (W (k' + 1)))) (List.drop (Int.toNat (W (k' + 1))) clues))), ()))
          (.fail))
        (.fail))
      (.fail))
    (.fail)
noncomputable def g (v : (List (Prod Int (Prod Int Int))) × Int × Unit) : Option ((List (Prod Int (Prod Int Int))) × Unit) := (T  v).opt
noncomputable def ent : Entry := ⟨125, pa, al, g⟩
@[reducible] noncomputable def E : EC := ⟨[], [], [], [], [], [[some (true, (.pair (.int .i64) (.pair (.int .i64) (.int .i64))))]], []⟩
noncomputable def H (_ : Nat) : List Lab := []
theorem ok : ent.ok PA := fn_ok E ent Tryd.f125 H trivial (by kernel_rfl) (by kernel_rfl) (by kernel_rfl) trivial (fun k => by kernel_rfl) (fun _ => trivial)
  (fun v => (M.bind_ofO_opt (T  v) (res al)).trans (by kernel_rfl))
end spec_pzWithout
/-! loop.example/g01394/spec.HarderPuzzle -/
namespace spec_HarderPuzzle
@[reducible] def pa : PFn := ⟨[.agg [.row (.pair (.int .i64) (.pair (.int .i64) (.int .i64)))]], []⟩
@[reducible] def al : Res := [⟨[.agg [.row (.pair (.int .i64) (.pair (.int .i64) (.int .i64)))], .c (.bool)], []⟩]
def p5 : PSt := ⟨35, 0, [(2, .c (.ptr 0 0)), (4, .c (.own 1)), (5, .c (.int .i64))], [.cells [.own 2], .arr false (.pair (.int .i64) (.pair (.int .i64) (.int .i64))), .arr false (.pair (.int .i64) (.pair (.int .i64) (.int .i64)))]⟩
def a5 : Exs := [((Ex.exit 0), ⟨35, 0, [(2, .c (.ptr 0 0)), (4, .c (.own 1))], [.cells [.own 2], .arr false (.pair (.int .i64) (.pair (.int .i64) (.int .i64))), .arr false (.pair (.int .i64) (.pair (.int .i64) (.int .i64)))]⟩)]
noncomputable def T5 (o : Int × (List (Prod Int (Prod Int Int))) × (List (Prod Int (Prod Int Int))) × Unit → Option ((List (Prod Int (Prod Int Int))) × (List (Prod Int (Prod Int Int))) × Unit)) : Int × (List (Prod Int (Prod Int Int))) × (List (Prod Int (Prod Int Int))) × Unit → M ((List (Prod Int (Prod Int Int))) × (List (Prod Int (Prod Int Int))) × Unit) := fun (k', b1, b2, _) =>
  .ite (decide (k' < ((List.length b1) : Int)))
    (.bind (.ofO (spec_pzWithout.g (b1, k', ()))) fun (r2, _) =>
    .bind (.ofO (spec_pzSolved.g (r2, ()))) fun (r3, _) =>
    .ite r3
      (.ofO (o (k', r2, b2, ())))
      (.ofO (o ((W (k' + 1)), b1, b2, ()))))
    (.ret (b1, b2, ()))
noncomputable def L5 (k : Nat) : Int × (List (Prod Int (Prod Int Int))) × (List (Prod Int (Prod Int Int))) × Unit → Option ((List (Prod Int (Prod Int Int))) × (List (Prod Int (Prod Int Int))) × Unit) := Nat.rec (fun _ => none) (fun _ ih v => (T5 ih v).opt) k
noncomputable def T (o5 : Int × (List (Prod Int (Prod Int Int))) × (List (Prod Int (Prod Int Int))) × Unit → Option ((List (Prod Int (Prod Int Int))) × (List (Prod Int (Prod Int Int))) × Unit)) : (List (Prod Int (Prod Int Int))) × Unit → M ((List (Prod Int (Prod Int Int))) × Bool × Unit) := fun (p_0, _) =>
  .bind (.ofO (spec_pzGood.g (p_0, ()))) fun (r, _) =>
  .ite (!r)
    (.ret (([] : List (Prod Int (Prod Int Int))), false, ()))
    (.bind (.ofO (spec_pzSolved.g (p_0, ()))) fun (r1, _) =>
    .ite (!r1)
      (.ret (([] : List (Prod Int (Prod Int Int))), false, ()))
      (.ite (room ((List.length ([] : List (Prod Int (Prod Int Int)))) + (List.length p_0)) 24)
        (.bind (.ofO (o5 (0, (([] : List (Prod Int (Prod Int Int))) ++ p_0), ([] : List (Prod Int (Prod Int Int))), ()))) fun (b1, b2, _) =>
        .ret (b1, true, ()))
        (.fail)))
noncomputable def g (v : (List (Prod Int (Prod Int Int))) × Unit) : Option ((List (Prod Int (Prod Int Int))) × Bool × Unit) := (T (L5 fuel) v).opt
noncomputable def ent : Entry := ⟨25, pa, al, g⟩
@[reducible] noncomputable def E : EC := ⟨[spec_pzGood.ent, spec_pzSolved.ent, spec_pzWithout.ent], [(5, [2, 4, 5])], [(5, [2, 4])], [], [], [[some (false, (.pair (.int .i64) (.pair (.int .i64) (.int .i64))))], []], []⟩
noncomputable def H (k : Nat) : List Lab := [⟨false, 5, p5, a5, L5 k⟩]
theorem s5 (k : Nat) (v) : M.bind (.ofO (L5 (k + 1) v)) (exs a5) = evStep (mkE E) (ask (H k)) false (codeAt (bodyOf Tryd.f25) false 5) (stOf p5 v) := (M.bind_ofO_opt (T5 (L5 k) v) (exs a5)).trans (by kernel_rfl)
theorem ok : ent.ok PA := fn_ok E ent Tryd.f25 H ⟨spec_pzGood.ok, ⟨spec_pzSolved.ok, ⟨spec_pzWithout.ok, trivial⟩⟩⟩ (by kernel_rfl) (by kernel_rfl) (by kernel_rfl) ⟨fun _ => rfl, trivial⟩ (fun k => by kernel_rfl) (fun k => ⟨s5 k, trivial⟩)
  (fun v => (M.bind_ofO_opt (T (L5 fuel) v) (res al)).trans (by kernel_rfl))
end spec_HarderPuzzle
/-! loop.example/g01394/impl.NeedlessClues -/
namespace impl_NeedlessClues
@[reducible] def pa : PFn := ⟨[.agg [.row (.pair (.int .i64) (.pair (.int .i64) (.int .i64)))]], []⟩
@[reducible] def al : Res := [⟨[.c (.row (.int .i64)), .c (.bool)], []⟩]
def p6 : PSt := ⟨37, 0, [(1, .c (.ptr 0 0)), (4, .c (.row (.pair (.int .i64) (.int .i64)))), (6, .c (.own 1)), (18, .c (.int .i64)), (19, .c (.int .i64))], [.cells [.row (.pair (.int .i64) (.pair (.int .i64) (.int .i64)))], .arr false (.int .i64)]⟩
def a6 : Exs := [((Ex.exit 0), ⟨37, 0, [(6, .c (.own 0))], [.arr false (.int .i64)]⟩)]
noncomputable def T6 (o : (List (Prod Int Int)) × Int × Int × (List (Prod Int (Prod Int Int))) × (List Int) × Unit → Option ((List Int) × Unit)) : (List (Prod Int Int)) × Int × Int × (List (Prod Int (Prod Int Int))) × (List Int) × Unit → M ((List Int) × Unit) := fun (list, t18, t19, b0_0, b1, _) =>
  .ite (decide (t19 < t18))
    (.bind (.ofO (impl_without.g (b0_0, t19, ()))) fun (r2, _) =>
    .bind (.ofO (impl_solutions.g (r2, ()))) fun (r3, _) =>
    .ite (((List.length r3) : Int) == ((List.length list) : Int))
      (.ite (room ((List.length b1) + (List.length [t19])) 8)
        (.ofO (o (list, t18, (W (t19 + 1)), b0_0, (b1 ++ [t19]), ())))
        (.fail))
      (.ofO (o (list, t18, (W (t19 + 1)), b0_0, b1, ()))))
    (.ret (b1, ()))
noncomputable def L6 (k : Nat) : (List (Prod Int Int)) × Int × Int × (List (Prod Int (Prod Int Int))) × (List Int) × Unit → Option ((List Int) × Unit) := Nat.rec (fun _ => none) (fun _ ih v => (T6 ih v).opt) k
noncomputable def T (o6 : (List (Prod Int Int)) × Int × Int × (List (Prod Int (Prod Int Int))) × (List Int) × Unit → Option ((List Int) × Unit)) : (List (Prod Int (Prod Int Int))) × Unit → M ((List Int) × Bool × Unit) := fun (p_0, _) =>
  .bind (.ofO (impl_Solutions.g (p_0, ()))) fun (r, r1, _) =>
  .ite (!r1)
    (.ret (([] : List Int), false, ()))
    (.bind (.ofO (o6 (r, ((List.length p_0) : Int), 0, p_0, ([] : List Int), ()))) fun (b0, _) =>
    .ret (b0, true, ()))
noncomputable def g (v : (List (Prod Int (Prod Int Int))) × Unit) : Option ((List Int) × Bool × Unit) := (T (L6 fuel) v).opt
noncomputable def ent : Entry := ⟨28, pa, al, g⟩
@[reducible] noncomputable def E : EC := ⟨[impl_Solutions.ent, impl_without.ent, impl_solutions.ent], [(6, [1, 4, 6, 18, 19])], [(6, [6])], [], [], [[some (false, (.int .i64))], []], []⟩
noncomputable def H (k : Nat) : List Lab := [⟨false, 6, p6, a6, L6 k⟩]
theorem s6 (k : Nat) (v) : M.bind (.ofO (L6 (k + 1) v)) (exs a6) = evStep (mkE E) (ask (H k)) false (codeAt (bodyOf Tryd.f28) false 6) (stOf p6 v) := (M.bind_ofO_opt (T6 (L6 k) v) (exs a6)).trans (by kernel_rfl)
theorem ok : ent.ok PA := fn_ok E ent Tryd.f28 H ⟨impl_Solutions.ok, ⟨impl_without.ok, ⟨impl_solutions.ok, trivial⟩⟩⟩ (by kernel_rfl) (by kernel_rfl) (by kernel_rfl) ⟨fun _ => rfl, trivial⟩ (fun k => by kernel_rfl) (fun k => ⟨s6 k, trivial⟩)
  (fun v => (M.bind_ofO_opt (T (L6 fuel) v) (res al)).trans (by kernel_rfl))
end impl_NeedlessClues
/-! loop.example/g01394/laws.xBooks -/
namespace laws_xBooks
@[reducible] def pa : PFn := ⟨[.c (.row (.pair (.int .i64) (.int .i64))), .c (.row (.pair (.int .i64) (.int .i64)))], []⟩
@[reducible] def al : Res := [⟨[.c (.bool)], []⟩]
def p4 : PSt := ⟨26, 0, [(0, .c (.row (.pair (.int .i64) (.int .i64)))), (1, .c (.row (.pair (.int .i64) (.int .i64)))), (12, .c (.int .i64)), (13, .c (.int .i64))], []⟩
def a4 : Exs := [(Ex.ret, ⟨26, 0, [(4, .c (.bool))], []⟩), ((Ex.exit 0), ⟨26, 0, [], []⟩)]
noncomputable def T4 (o : (List (Prod Int Int)) × (List (Prod Int Int)) × Int × Int × Unit → Option (Sum (Bool × Unit) (Unit))) : (List (Prod Int Int)) × (List (Prod Int Int)) × Int × Int × Unit → M (Sum (Bool × Unit) (Unit)) := fun (a1, b1, t12, t13, _) =>
  .ite (decide (t13 < t12))
    (.ite (decide (0 ≤ t13))
      (.bind (.ofO (a1)[(Int.toNat t13)]?) fun e =>
      .ite (decide (0 ≤ t13))
        (.bind (.ofO (b1)[(Int.toNat t13)]?) fun e1 =>
        .ite (!(eqInts [e.1, e.2] [e1.1, e1.2]))
          (.ret (.inl (false, ())))
          (.ofO (o (a1, b1, t12, (W (t13 + 1)), ()))))
        (.fail))
      (.fail))
    (.ret (.inr ((()))))
noncomputable def L4 (k : Nat) : (List (Prod Int Int)) × (List (Prod Int Int)) × Int × Int × Unit → Option (Sum (Bool × Unit) (Unit)) := Nat.rec (fun _ => none) (fun _ ih v => (T4 ih v).opt) k
noncomputable def T (o4 : (List (Prod Int Int)) × (List (Prod Int Int)) × Int × Int × Unit → Option (Sum (Bool × Unit) (Unit))) : (List (Prod Int Int)) × (List (Prod Int Int)) × Unit → M (Bool × Unit) := fun (a, b, _) =>
  .ite (((List.length a) : Int) != ((List.length b) : Int))
    (.ret (false, ()))
    (.bind (.ofO (o4 (a, b, ((List.length a) : Int), 0, ()))) fun q => .sum q
      (fun (t4, _) =>
      .ret (t4, ()))
      (fun (_) =>
      .ret (true, ())))
noncomputable def g (v : (List (Prod Int Int)) × (List (Prod Int Int)) × Unit) : Option (Bool × Unit) := (T (L4 fuel) v).opt
noncomputable def ent : Entry := ⟨29, pa, al, g⟩
@[reducible] noncomputable def E : EC := ⟨[], [(4, [0, 1, 12, 13])], [(4, [4])], [], [], [], []⟩
noncomputable def H (k : Nat) : List Lab := [⟨false, 4, p4, a4, L4 k⟩]
theorem s4 (k : Nat) (v) : M.bind (.ofO (L4 (k + 1) v)) (exs a4) = evStep (mkE E) (ask (H k)) false (codeAt (bodyOf Tryd.f29) false 4) (stOf p4 v) := (M.bind_ofO_opt (T4 (L4 k) v) (exs a4)).trans (by kernel_rfl)
theorem ok : ent.ok PA := fn_ok E ent Tryd.f29 H trivial (by kernel_rfl) (by kernel_rfl) (by kernel_rfl) ⟨fun _ => rfl, trivial⟩ (fun k => by kernel_rfl) (fun k => ⟨s4 k, trivial⟩)
  (fun v => (M.bind_ofO_opt (T (L4 fuel) v) (res al)).trans (by kernel_rfl))
end laws_xBooks
/-! loop.example/g01394/spec.DrawAddClue -/
namespace spec_DrawAddClue
@[reducible] def pa : PFn := ⟨[.c (.row (.int .u8))], []⟩
@[reducible] def al : Res := [⟨[.agg [.row (.pair (.int .i64) (.pair (.int .i64) (.int .i64)))], .agg [.int .i64, .int .i64, .int .i64]], []⟩]
noncomputable def T  : (List Int) × Unit → M ((List (Prod Int (Prod Int Int))) × Int × Int × Int × Unit) := fun (code, _) =>
  .bind (.ofO (spec_l1Cur_puzzle.g (code, 0, 0, ()))) fun (r, r1, r2, r3, _) =>
  .bind (.ofO (spec_l1Cur_clue.g (r1, r2, r3, ()))) fun (r4, r5, r6, r7, r8, r9, _) =>
  .ret (r, r4, r5, r6, ())
noncomputable def g (v : (List Int) × Unit) : Option ((List (Prod Int (Prod Int Int))) × Int × Int × Int × Unit) := (T  v).opt
noncomputable def ent : Entry := ⟨30, pa, al, g⟩
@[reducible] noncomputable def E : EC := ⟨[spec_l1Cur_puzzle.ent, spec_l1Cur_clue.ent], [], [], [], [], [[some (false, (.pair (.int .i64) (.pair (.int .i64) (.int .i64))))], []], []⟩
noncomputable def H (_ : Nat) : List Lab := []
theorem ok : ent.ok PA := fn_ok E ent Tryd.f30 H ⟨spec_l1Cur_puzzle.ok, ⟨spec_l1Cur_clue.ok, trivial⟩⟩ (by kernel_rfl) (by kernel_rfl) (by kernel_rfl) trivial (fun k => by kernel_rfl) (fun _ => trivial)
  (fun v => (M.bind_ofO_opt (T  v) (res al)).trans (by kernel_rfl))
end spec_DrawAddClue
/-! loop.example/g01394/impl.AddClue -/
namespace impl_AddClue
@[reducible] def pa : PFn := ⟨[.agg [.row (.pair (.int .i64) (.pair (.int .i64) (.int .i64)))], .agg [.int .i64, .int .i64, .int .i64]], []⟩
@[reducible] def al : Res := [⟨[.agg [.row (.pair (.int .i64) (.pair (.int .i64) (.int .i64)))], .c (.bool)], []⟩]
noncomputable def T  : (List (Prod Int (Prod Int Int))) × Int × Int × Int × Unit → M ((List (Prod Int (Prod Int Int))) × Bool × Unit) := fun (p_0, c_0, c_1, c_2, _) =>
  .bind (.ofO (impl_IsPuzzle.g (p_0, ()))) fun (r, _) =>
  .ite (!r)
    (.ret (([] : List (Prod Int (Prod Int Int))), false, ()))
    (.bind (.ofO (impl_IsClue.g (c_0, c_1, c_2, ()))) fun (r1, _) =>
    .ite (!r1)
      (.ret (([] : List (Prod Int (Prod Int Int))), false, ()))
      (.ite (((List.length p_0) : Int) == 6)
        (.ret (([] : List (Prod Int (Prod Int Int))), false, ()))
        (.bind (.ofO (slices_Clone_24.g (p_0, ()))) fun (r2, _) =>
        .ite (room ((List.length r2) + (List.length [(c_0, c_1, c_2)])) 24)
          (.ret ((r2 ++ [(c_0, c_1, c_2)]), true, ()))
          (.fail))))
noncomputable def g (v : (List (Prod Int (Prod Int Int))) × Int × Int × Int × Unit) : Option ((List (Prod Int (Prod Int Int))) × Bool × Unit) := (T  v).opt
noncomputable def ent : Entry := ⟨31, pa, al, g⟩
@[reducible] noncomputable def E : EC := ⟨[impl_IsPuzzle.ent, impl_IsClue.ent, slices_Clone_24.ent], [], [], [], [], [[some (false, (.pair (.int .i64) (.pair (.int .i64) (.int .i64))))], []], []⟩
noncomputable def H (_ : Nat) : List Lab := []
theorem ok : ent.ok PA := fn_ok E ent Tryd.f31 H ⟨impl_IsPuzzle.ok, ⟨impl_IsClue.ok, ⟨slices_Clone_24.ok, trivial⟩⟩⟩ (by kernel_rfl) (by kernel_rfl) (by kernel_rfl) trivial (fun k => by kernel_rfl) (fun _ => trivial)
  (fun v => (M.bind_ofO_opt (T  v) (res al)).trans (by kernel_rfl))
end impl_AddClue
/-! loop.example/g01394/spec.AddClue -/
namespace spec_AddClue
@[reducible] def pa : PFn := ⟨[.agg [.row (.pair (.int .i64) (.pair (.int .i64) (.int .i64)))], .agg [.int .i64, .int .i64, .int .i64]], []⟩
@[reducible] def al : Res := [⟨[.agg [.row (.pair (.int .i64) (.pair (.int .i64) (.int .i64)))], .c (.bool)], []⟩]
noncomputable def T  : (List (Prod Int (Prod Int Int))) × Int × Int × Int × Unit → M ((List (Prod Int (Prod Int Int))) × Bool × Unit) := fun (p_0, c_0, c_1, c_2, _) =>
  .bind (.ofO (spec_pzGood.g (p_0, ()))) fun (r, _) =>
  .ite (!r)
    (.ret (([] : List (Prod Int (Prod Int Int))), false, ()))
    (.bind (.ofO (spec_pzClue.g (c_0, c_1, c_2, ()))) fun (r1, _) =>
    .ite (!r1)
      (.ret (([] : List (Prod Int (Prod Int Int))), false, ()))
      (.ite (((List.length p_0) : Int) == 6)
        (.ret (([] : List (Prod Int (Prod Int Int))), false, ()))
        (.ite (room ((List.length ([] : List (Prod Int (Prod Int Int)))) + (List.length p_0)) 24)
          (.ite (room ((List.length (([] : List (Prod Int (Prod Int Int))) ++ p_0)) + (List.length [(c_0, c_1, c_2)])) 24)
            (.ret (((([] : List (Prod Int (Prod Int Int))) ++ p_0) ++ [(c_0, c_1, c_2)]), true, ()))
            (.fail))
          (.fail))))
noncomputable def g (v : (List (Prod Int (Prod Int Int))) × Int × Int × Int × Unit) : Option ((List (Prod Int (Prod Int Int))) × Bool × Unit) := (T  v).opt
noncomputable def ent : Entry := ⟨32, pa, al, g⟩
@[reducible] noncomputable def E : EC := ⟨[spec_pzGood.ent, spec_pzClue.ent], [], [], [], [], [[some (false, (.pair (.int .i64) (.pair (.int .i64) (.int .i64))))], []], []⟩
noncomputable def H (_ : Nat) : List Lab := []
theorem ok : ent.ok PA := fn_ok E ent Tryd.f32 H ⟨spec_pzGood.ok, ⟨spec_pzClue.ok, trivial⟩⟩ (by kernel_rfl) (by kernel_rfl) (by kernel_rfl) trivial (fun k => by kernel_rfl) (fun _ => trivial)
  (fun v => (M.bind_ofO_opt (T  v) (res al)).trans (by kernel_rfl))
end spec_AddClue
/-! loop.example/g01394/spec.DrawDropClue -/
namespace spec_DrawDropClue
@[reducible] def pa : PFn := ⟨[.c (.row (.int .u8))], []⟩
@[reducible] def al : Res := [⟨[.agg [.row (.pair (.int .i64) (.pair (.int .i64) (.int .i64)))], .c (.int .i64)], []⟩]
noncomputable def T  : (List Int) × Unit → M ((List (Prod Int (Prod Int Int))) × Int × Unit) := fun (code, _) =>
  .bind (.ofO (spec_l1Cur_puzzle.g (code, 0, 0, ()))) fun (r, r1, r2, r3, _) =>
  .bind (.ofO (spec_l1Cur_pick.g (6, r1, r2, r3, ()))) fun (r4, r5, r6, r7, _) =>
  .bind (.ofO (spec_l1Cur_pick.g (9, r5, r6, r7, ()))) fun (r8, r9, r10, r11, _) =>
  .ret (r, (W (r4 - (W (Int.tdiv r8 8)))), ())
noncomputable def g (v : (List Int) × Unit) : Option ((List (Prod Int (Prod Int Int))) × Int × Unit) := (T  v).opt
noncomputable def ent : Entry := ⟨33, pa, al, g⟩
@[reducible] noncomputable def E : EC := ⟨[spec_l1Cur_puzzle.ent, spec_l1Cur_pick.ent], [], [], [], [], [[some (false, (.pair (.int .i64) (.pair (.int .i64) (.int .i64))))], []], []⟩
noncomputable def H (_ : Nat) : List Lab := []
theorem ok : ent.ok PA := fn_ok E ent Tryd.f33 H ⟨spec_l1Cur_puzzle.ok, ⟨spec_l1Cur_pick.ok, trivial⟩⟩ (by kernel_rfl) (by kernel_rfl) (by kernel_rfl) trivial (fun k => by kernel_rfl) (fun _ => trivial)
  (fun v => (M.bind_ofO_opt (T  v) (res al)).trans (by kernel_rfl))
end spec_DrawDropClue
/-! loop.example/g01394/impl.DropClue -/
namespace impl_DropClue
@[reducible] def pa : PFn := ⟨[.agg [.row (.pair (.int .i64) (.pair (.int .i64) (.int .i64)))], .c (.int .i64)], []⟩
@[reducible] def al : Res := [⟨[.agg [.row (.pair (.int .i64) (.pair (.int .i64) (.int .i64)))], .c (.bool)], []⟩]
noncomputable def T  : (List (Prod Int (Prod Int Int))) × Int × Unit → M ((List (Prod Int (Prod Int Int))) × Bool × Unit) := fun (p_0, k', _) =>
  .bind (.ofO (impl_IsPuzzle.g (p_0, ()))) fun (r, _) =>
  .ite (!r)
    (.ret (([] : List (Prod Int (Prod Int Int))), false, ()))
    (.bind (.ofO (impl_within.g (k', 0, (W (((List.length p_0) : Int) - 1)), ()))) fun (r1, _) =>
    .ite (!r1)
      (.ret (([] : List (Prod Int (Prod Int Int))), false, ()))
      (.bind (.ofO (impl_without.g (p_0, k', ()))) fun (r2, _) =>
      .ret (r2, true, ())))
noncomputable def g (v : (List (Prod Int (Prod Int Int))) × Int × Unit) : Option ((List (Prod Int (Prod Int Int))) × Bool × Unit) := (T  v).opt
noncomputable def ent : Entry := ⟨34, pa, al, g⟩
@[reducible] noncomputable def E : EC := ⟨[impl_IsPuzzle.ent, impl_within.ent, impl_without.ent], [], [], [], [], [[some (false, (.pair (.int .i64) (.pair (.int .i64) (.int .i64))))], []], []⟩
noncomputable def H (_ : Nat) : List Lab := []
theorem ok : ent.ok PA := fn_ok E ent Tryd.f34 H ⟨impl_IsPuzzle.ok, ⟨impl_within.ok, ⟨impl_without.ok, trivial⟩⟩⟩ (by kernel_rfl) (by kernel_rfl) (by kernel_rfl) trivial (fun k => by kernel_rfl) (fun _ => trivial)
  (fun v => (M.bind_ofO_opt (T  v) (res al)).trans (by kernel_rfl))
end impl_DropClue
/-! loop.example/g01394/spec.DropClue -/
namespace spec_DropClue
@[reducible] def pa : PFn := ⟨[.agg [.row (.pair (.int .i64) (.pair (.int .i64) (.int .i64)))], .c (.int .i64)], []⟩
@[reducible] def al : Res := [⟨[.agg [.row (.pair (.int .i64) (.pair (.int .i64) (.int .i64)))], .c (.bool)], []⟩]
noncomputable def T  : (List (Prod Int (Prod Int Int))) × Int × Unit → M ((List (Prod Int (Prod Int Int))) × Bool × Unit) := fun (p_0, k', _) =>
  .bind (.ofO (spec_pzGood.g (p_0, ()))) fun (r, _) =>
  .ite (!r)
    (.ret (([] : List (Prod Int (Prod Int Int))), false, ()))
    (.bind (.ofO (spec_l1In.g (k', 0, (W (((List.length p_0) : Int) - 1)), ()))) fun (r1, _) =>
    .ite (!r1)
      (.ret (([] : List (Prod Int (Prod Int Int))), false, ()))
      (.bind (.ofO (spec_pzWithout.g (p_0, k', ()))) fun (r2, _) =>
      .ret (r2, true, ())))
noncomputable def g (v : (List (Prod Int (Prod Int Int))) × Int × Unit) : Option ((List (Prod Int (Prod Int Int))) × Bool × Unit) := (T  v).opt
noncomputable def ent : Entry := ⟨35, pa, al, g⟩
@[reducible] noncomputable def E : EC := ⟨[spec_pzGood.ent, spec_l1In.ent, spec_pzWithout.ent], [], [], [], [], [[some (false, (.pair (.int .i64) (.pair (.int .i64) (.int .i64))))], []], []⟩
noncomputable def H (_ : Nat) : List Lab := []
theorem ok : ent.ok PA := fn_ok E ent Tryd.f35 H ⟨spec_pzGood.ok, ⟨spec_l1In.ok, ⟨spec_pzWithout.ok, trivial⟩⟩⟩ (by kernel_rfl) (by kernel_rfl) (by kernel_rfl) trivial (fun k => by kernel_rfl) (fun _ => trivial)
  (fun v => (M.bind_ofO_opt (T  v) (res al)).trans (by kernel_rfl))
end spec_DropClue
/-! loop.example/g01394/spec.DrawDoesFit -/
namespace spec_DrawDoesFit
@[reducible] def pa : PFn := ⟨[.c (.row (.int .u8))], []⟩
@[reducible] def al : Res := [⟨[.agg [.int .i64, .int .i64, .int .i64], .agg [.int .i64, .int .i64]], []⟩]
noncomputable def T  : (List Int) × Unit → M (Int × Int × Int × Int × Int × Unit) := fun (code, _) =>
  .bind (.ofO (spec_l1Cur_hidden.g (code, 0, 0, ()))) fun (r, r1, r2, r3, r4, _) =>
  .bind (.ofO (spec_l1Cur_pick.g (10000, r2, r3, r4, ()))) fun (r5, r6, r7, r8, _) =>
  .bind (.ofO (spec_MakePuzzle.g (r, r1, 1, r5, ()))) fun (r9, r10, _) =>
  .ite r9
    (.bind (.ofO (spec_l1Cur_one.g (3, r6, r7, r8, ()))) fun (r11, r12, r13, r14, _) =>
    .ite r11
      (.ite (inside 0 (List.length r10))
        (.bind (.ofO (r10)[(Int.toNat 0)]?) fun e =>
        .ret (e.1, e.2.1, e.2.2, r, r1, ()))
        (.fail))
      (.bind (.ofO (spec_l1Cur_one.g (10, r12, r13, r14, ()))) fun (r15, r16, r17, r18, _) =>
      .ite r15
        (.bind (.ofO (spec_l1Cur_among.g ([(-1), 0, 21, 4611686018427387904], r16, r17, r18, ()))) fun (r19, r20, r21, r22, _) =>
        .bind (.ofO (spec_l1Cur_clue.g (r20, r21, r22, ()))) fun (r23, r24, r25, r26, r27, r28, _) =>
        .ret (r23, r24, r25, r, r19, ()))
        (.bind (.ofO (spec_l1Cur_clue.g (r16, r17, r18, ()))) fun (r29, r30, r31, r32, r33, r34, _) =>
        .ret (r29, r30, r31, r, r1, ()))))
    (.bind (.ofO (spec_l1Cur_one.g (10, r6, r7, r8, ()))) fun (r35, r36, r37, r38, _) =>
    .ite r35
      (.bind (.ofO (spec_l1Cur_among.g ([(-1), 0, 21, 4611686018427387904], r36, r37, r38, ()))) fun (r39, r40, r41, r42, _) =>
      .bind (.ofO (spec_l1Cur_clue.g (r40, r41, r42, ()))) fun (r43, r44, r45, r46, r47, r48, _) =>
      .ret (r43, r44, r45, r, r39, ()))
      (.bind (.ofO (spec_l1Cur_clue.g (r36, r37, r38, ()))) fun (r49, r50, r51, r52, r53, r54, _) =>
      .ret (r49, r50, r51, r, r1, ())))
noncomputable def g (v : (List Int) × Unit) : Option (Int × Int × Int × Int × Int × Unit) := (T  v).opt
noncomputable def ent : Entry := ⟨36, pa, al, g⟩
@[reducible] noncomputable def E : EC := ⟨[spec_l1Cur_hidden.ent, spec_l1Cur_pick.ent, spec_MakePuzzle.ent, spec_l1Cur_one.ent, spec_l1Cur_among.ent, spec_l1Cur_clue.ent], [], [], [], [], [], []⟩
noncomputable def H (_ : Nat) : List Lab := []
theorem ok : ent.ok PA := fn_ok E ent Tryd.f36 H ⟨spec_l1Cur_hidden.ok, ⟨spec_l1Cur_pick.ok, ⟨spec_MakePuzzle.ok, ⟨spec_l1Cur_one.ok, ⟨spec_l1Cur_among.ok, ⟨spec_l1Cur_clue.ok, trivial⟩⟩⟩⟩⟩⟩ (by kernel_rfl) (by kernel_rfl) (by kernel_rfl) trivial (fun k => by kernel_rfl) (fun _ => trivial)
  (fun v => (M.bind_ofO_opt (T  v) (res al)).trans (by kernel_rfl))
end spec_DrawDoesFit
/-! loop.example/g01394/spec.DoesFit -/
namespace spec_DoesFit
@[reducible] def pa : PFn := ⟨[.agg [.int .i64, .int .i64, .int .i64], .agg [.int .i64, .int .i64]], []⟩
@[reducible] def al : Res := [⟨[.c (.bool), .c (.bool)], []⟩]
noncomputable def T  : Int × Int × Int × Int × Int × Unit → M (Bool × Bool × Unit) := fun (c_0, c_1, c_2, h_0, h_1, _) =>
  .bind (.ofO (spec_pzBook.g (h_0, h_1, ()))) fun (r, _) =>
  .ite (!r)
    (.ret (false, false, ()))
    (.bind (.ofO (spec_pzClue.g (c_0, c_1, c_2, ()))) fun (r1, _) =>
    .ite (!r1)
      (.ret (false, false, ()))
      (.bind (.ofO (spec_pzFits.g (c_0, c_1, c_2, h_0, h_1, ()))) fun (r2, _) =>
      .ret (r2, true, ())))
noncomputable def g (v : Int × Int × Int × Int × Int × Unit) : Option (Bool × Bool × Unit) := (T  v).opt
noncomputable def ent : Entry := ⟨37, pa, al, g⟩
@[reducible] noncomputable def E : EC := ⟨[spec_pzBook.ent, spec_pzClue.ent, spec_pzFits.ent], [], [], [], [], [], []⟩
noncomputable def H (_ : Nat) : List Lab := []
theorem ok : ent.ok PA := fn_ok E ent Tryd.f37 H ⟨spec_pzBook.ok, ⟨spec_pzClue.ok, ⟨spec_pzFits.ok, trivial⟩⟩⟩ (by kernel_rfl) (by kernel_rfl) (by kernel_rfl) trivial (fun k => by kernel_rfl) (fun _ => trivial)
  (fun v => (M.bind_ofO_opt (T  v) (res al)).trans (by kernel_rfl))
end spec_DoesFit
/-! loop.example/g01394/spec.DrawIsClue -/
namespace spec_DrawIsClue
@[reducible] def pa : PFn := ⟨[.c (.row (.int .u8))], []⟩
@[reducible] def al : Res := [⟨[.agg [.int .i64, .int .i64, .int .i64]], []⟩]
noncomputable def T  : (List Int) × Unit → M (Int × Int × Int × Unit) := fun (code, _) =>
  .bind (.ofO (spec_l1Cur_one.g (3, code, 0, 0, ()))) fun (r, r1, r2, r3, _) =>
  .ite r
    (.bind (.ofO (spec_l1Cur_pick.g (7, r1, r2, r3, ()))) fun (r4, r5, r6, r7, _) =>
    .bind (.ofO (spec_l1Cur_pick.g (9, r5, r6, r7, ()))) fun (r8, r9, r10, r11, _) =>
    .bind (.ofO (spec_l1Cur_among.g ([(-1), 0, 0, 1, 2, 9, 10, 40, 41, 4611686018427387904], r9, r10, r11, ()))) fun (r12, r13, r14, r15, _) =>
    .bind (.ofO (spec_l1Cur_among.g ([(-1), 0, 1, 2, 1000, 1001], r13, r14, r15, ()))) fun (r16, r17, r18, r19, _) =>
    .ret ((W (r4 - (W (Int.tdiv r8 8)))), r12, r16, ()))
    (.bind (.ofO (spec_l1Cur_clue.g (r1, r2, r3, ()))) fun (r20, r21, r22, r23, r24, r25, _) =>
    .ret (r20, r21, r22, ()))
noncomputable def g (v : (List Int) × Unit) : Option (Int × Int × Int × Unit) := (T  v).opt
noncomputable def ent : Entry := ⟨38, pa, al, g⟩
@[reducible] noncomputable def E : EC := ⟨[spec_l1Cur_one.ent, spec_l1Cur_pick.ent, spec_l1Cur_among.ent, spec_l1Cur_clue.ent], [], [], [], [], [], []⟩
noncomputable def H (_ : Nat) : List Lab := []
theorem ok : ent.ok PA := fn_ok E ent Tryd.f38 H ⟨spec_l1Cur_one.ok, ⟨spec_l1Cur_pick.ok, ⟨spec_l1Cur_among.ok, ⟨spec_l1Cur_clue.ok, trivial⟩⟩⟩⟩ (by kernel_rfl) (by kernel_rfl) (by kernel_rfl) trivial (fun k => by kernel_rfl) (fun _ => trivial)
  (fun v => (M.bind_ofO_opt (T  v) (res al)).trans (by kernel_rfl))
end spec_DrawIsClue
/-! loop.example/g01394/spec.DrawIsHidden -/
namespace spec_DrawIsHidden
@[reducible] def pa : PFn := ⟨[.c (.row (.int .u8))], []⟩
@[reducible] def al : Res := [⟨[.agg [.int .i64, .int .i64]], []⟩]
noncomputable def T  : (List Int) × Unit → M (Int × Int × Unit) := fun (code, _) =>
  .bind (.ofO (spec_l1Cur_one.g (3, code, 0, 0, ()))) fun (r, r1, r2, r3, _) =>
  .ite r
    (.bind (.ofO (spec_l1Cur_among.g ([(-1), 0, 1, 2, 3, 40, 41, 4611686018427387904], r1, r2, r3, ()))) fun (r4, r5, r6, r7, _) =>
    .bind (.ofO (spec_l1Cur_among.g ([(-1), 0, 1, 2, 20, 21, 4611686018427387904], r5, r6, r7, ()))) fun (r8, r9, r10, r11, _) =>
    .ret (r4, r8, ()))
    (.bind (.ofO (spec_l1Cur_hidden.g (r1, r2, r3, ()))) fun (r12, r13, r14, r15, r16, _) =>
    .ret (r12, r13, ()))
noncomputable def g (v : (List Int) × Unit) : Option (Int × Int × Unit) := (T  v).opt
noncomputable def ent : Entry := ⟨39, pa, al, g⟩
@[reducible] noncomputable def E : EC := ⟨[spec_l1Cur_one.ent, spec_l1Cur_among.ent, spec_l1Cur_hidden.ent], [], [], [], [], [], []⟩
noncomputable def H (_ : Nat) : List Lab := []
theorem ok : ent.ok PA := fn_ok E ent Tryd.f39 H ⟨spec_l1Cur_one.ok, ⟨spec_l1Cur_among.ok, ⟨spec_l1Cur_hidden.ok, trivial⟩⟩⟩ (by kernel_rfl) (by kernel_rfl) (by kernel_rfl) trivial (fun k => by kernel_rfl) (fun _ => trivial)
  (fun v => (M.bind_ofO_opt (T  v) (res al)).trans (by kernel_rfl))
end spec_DrawIsHidden
/-! loop.example/g01394/spec.IsClue -/
namespace spec_IsClue
@[reducible] def pa : PFn := ⟨[.agg [.int .i64, .int .i64, .int .i64]], []⟩
@[reducible] def al : Res := [⟨[.c (.bool)], []⟩]
noncomputable def T  : Int × Int × Int × Unit → M (Bool × Unit) := fun (c_0, c_1, c_2, _) =>
  .ofO (spec_pzClue.g (c_0, c_1, c_2, ()))
noncomputable def g (v : Int × Int × Int × Unit) : Option (Bool × Unit) := (T  v).opt
noncomputable def ent : Entry := ⟨41, pa, al, g⟩
@[reducible] noncomputable def E : EC := ⟨[spec_pzClue.ent], [], [], [], [], [], []⟩
noncomputable def H (_ : Nat) : List Lab := []
theorem ok : ent.ok PA := fn_ok E ent Tryd.f41 H ⟨spec_pzClue.ok, trivial⟩ (by kernel_rfl) (by kernel_rfl) (by kernel_rfl) trivial (fun k => by kernel_rfl) (fun _ => trivial)
  (fun v => (M.bind_ofO_opt (T  v) (res al)).trans (by kernel_rfl))
end spec_IsClue
end Go.Proofs.YtfgkcnoiplojkaaDoor.VI
