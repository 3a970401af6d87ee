/- Functions of the program as the interpreter tells them, printed by a program of ours; each with its proof. -/
import Derived.Test.YtfgkcnoiplojkaaDoorOrItoa
set_option maxRecDepth 100000
set_option linter.unusedVariables false
namespace Go.Proofs.YtfgkcnoiplojkaaDoor.VI
open Go
/-! loop.example/g01394/laws.toHidden -/
namespace laws_toHidden
@[reducible] def pa : PFn := ⟨[.agg [.int .i64, .int .i64]], []⟩
@[reducible] def al : Res := [⟨[.agg [.int .i64, .int .i64]], []⟩]
noncomputable def T  : Int × Int × Unit → M (Int × Int × Unit) := fun (a_0, a_1, _) =>
  .ret (a_0, a_1, ())
noncomputable def g (v : Int × Int × Unit) : Option (Int × Int × Unit) := (T  v).opt
noncomputable def ent : Entry := ⟨8, pa, al, g⟩
@[reducible] noncomputable def E : EC := ⟨[], [], [], [], [], [], []⟩
noncomputable def H (_ : Nat) : List Lab := []
theorem ok : ent.ok PA := fn_ok E ent Tryd.f8 H trivial (by kernel_rfl) (by kernel_rfl) (by kernel_rfl) trivial (fun k => by kernel_rfl) (fun _ => trivial)
  (fun v => (M.bind_ofO_opt (T  v) (res al)).trans (by kernel_rfl))
end laws_toHidden
/-! loop.example/g01394/spec.l1In -/
namespace spec_l1In
@[reducible] def pa : PFn := ⟨[.c (.int .i64), .c (.int .i64), .c (.int .i64)], []⟩
@[reducible] def al : Res := [⟨[.c (.bool)], []⟩]
noncomputable def T  : Int × Int × Int × Unit → M (Bool × Unit) := fun (n, lo, hi, _) =>
  .ite (decide (n ≥ lo))
    (.ret ((decide (n ≤ hi)), ()))
    (.ret (false, ()))
noncomputable def g (v : Int × Int × Int × Unit) : Option (Bool × Unit) := (T  v).opt
noncomputable def ent : Entry := ⟨99, pa, al, g⟩
@[reducible] noncomputable def E : EC := ⟨[], [], [], [], [], [], []⟩
noncomputable def H (_ : Nat) : List Lab := []
theorem ok : ent.ok PA := fn_ok E ent Tryd.f99 H trivial (by kernel_rfl) (by kernel_rfl) (by kernel_rfl) trivial (fun k => by kernel_rfl) (fun _ => trivial)
  (fun v => (M.bind_ofO_opt (T  v) (res al)).trans (by kernel_rfl))
end spec_l1In
/-! loop.example/g01394/spec.pzBook -/
namespace spec_pzBook
@[reducible] def pa : PFn := ⟨[.agg [.int .i64, .int .i64]], []⟩
@[reducible] def al : Res := [⟨[.c (.bool)], []⟩]
noncomputable def T  : Int × Int × Unit → M (Bool × Unit) := fun (h_0, h_1, _) =>
  .bind (.ofO (spec_l1In.g (h_0, 2, 40, ()))) fun (r, _) =>
  .ite r
    (.ofO (spec_l1In.g (h_1, 1, (W (Int.tdiv h_0 2)), ())))
    (.ret (false, ()))
noncomputable def g (v : Int × Int × Unit) : Option (Bool × Unit) := (T  v).opt
noncomputable def ent : Entry := ⟨98, pa, al, g⟩
@[reducible] noncomputable def E : EC := ⟨[spec_l1In.ent], [], [], [], [], [], []⟩
noncomputable def H (_ : Nat) : List Lab := []
theorem ok : ent.ok PA := fn_ok E ent Tryd.f98 H ⟨spec_l1In.ok, trivial⟩ (by kernel_rfl) (by kernel_rfl) (by kernel_rfl) trivial (fun k => by kernel_rfl) (fun _ => trivial)
  (fun v => (M.bind_ofO_opt (T  v) (res al)).trans (by kernel_rfl))
end spec_pzBook
/-! loop.example/g01394/spec.pzNext -/
namespace spec_pzNext
@[reducible] def pa : PFn := ⟨[.c (.int .i64)], []⟩
@[reducible] def al : Res := [⟨[.c (.int .i64)], []⟩]
noncomputable def T  : Int × Unit → M (Int × Unit) := fun (z, _) =>
  .ret ((Int.tmod (W ((W (311 * z)) + 503)) 10007), ())
noncomputable def g (v : Int × Unit) : Option (Int × Unit) := (T  v).opt
noncomputable def ent : Entry := ⟨100, pa, al, g⟩
@[reducible] noncomputable def E : EC := ⟨[], [], [], [], [], [], []⟩
noncomputable def H (_ : Nat) : List Lab := []
theorem ok : ent.ok PA := fn_ok E ent Tryd.f100 H trivial (by kernel_rfl) (by kernel_rfl) (by kernel_rfl) trivial (fun k => by kernel_rfl) (fun _ => trivial)
  (fun v => (M.bind_ofO_opt (T  v) (res al)).trans (by kernel_rfl))
end spec_pzNext
/-! loop.example/g01394/spec.bpSum -/
namespace spec_bpSum
@[reducible] def pa : PFn := ⟨[.c (.int .i64)], []⟩
@[reducible] def al : Res := [⟨[.c (.int .i64)], []⟩]
noncomputable def T  : Int × Unit → M (Int × Unit) := fun (pages, _) =>
  .ret ((W (Int.tdiv (W (pages * (W (pages + 1)))) 2)), ())
noncomputable def g (v : Int × Unit) : Option (Int × Unit) := (T  v).opt
noncomputable def ent : Entry := ⟨208, pa, al, g⟩
@[reducible] noncomputable def E : EC := ⟨[], [], [], [], [], [], []⟩
noncomputable def H (_ : Nat) : List Lab := []
theorem ok : ent.ok PA := fn_ok E ent Tryd.f208 H trivial (by kernel_rfl) (by kernel_rfl) (by kernel_rfl) trivial (fun k => by kernel_rfl) (fun _ => trivial)
  (fun v => (M.bind_ofO_opt (T  v) (res al)).trans (by kernel_rfl))
end spec_bpSum
/-! loop.example/g01394/spec.l1Num -/
namespace spec_l1Num
@[reducible] def pa : PFn := ⟨[.c (.int .i64)], []⟩
@[reducible] def al : Res := [⟨[.c (.str)], []⟩]
noncomputable def T (self : Int × Unit → Option (ByteArray × Unit))  : Int × Unit → M (ByteArray × Unit) := fun (n, _) =>
  .ite (decide (n < 10))
    (.ret ((strOf [(WB (W (48 + n)))]), ()))
    (.bind (.ofO (self ((W (Int.tdiv n 10)), ()))) fun (r, _) =>
    .ite (decide ((((ByteArray.size r) + (ByteArray.size (strOf [(WB (W (48 + (Int.tmod n 10))))]))) : Int) > (Go.IntKind.max Go.IntKind.i64)))
      (.fail)
      (.ret ((r ++ (strOf [(WB (W (48 + (Int.tmod n 10))))])), ())))
noncomputable def gr (n : Nat) : Int × Unit → Option (ByteArray × Unit) := Nat.rec (fun _ => none) (fun _ self v => (T self  v).opt) n
noncomputable def g : Int × Unit → Option (ByteArray × Unit) := gr fuel
noncomputable def ent : Entry := ⟨192, pa, al, g⟩
@[reducible] noncomputable def E (self : Int × Unit → Option (ByteArray × Unit)) : EC := ⟨[⟨192, pa, al, self⟩], [], [], [], [], [], []⟩
noncomputable def H (self : Int × Unit → Option (ByteArray × Unit)) (_ : Nat) : List Lab := []
theorem okr : ∀ n, Entry.ok PA ⟨192, pa, al, gr n⟩
  | 0 => none_ok (fun _ => rfl)
  | n + 1 => fn_ok (E (gr n)) ⟨192, pa, al, gr (n + 1)⟩ Tryd.f192 (H (gr n)) ⟨okr n, trivial⟩ (by kernel_rfl) (by kernel_rfl) (by kernel_rfl) trivial (fun k => by kernel_rfl) (fun _ => trivial)
    (fun v => (M.bind_ofO_opt (T (gr n)  v) (res al)).trans (by kernel_rfl))
theorem ok : ent.ok PA := okr fuel
end spec_l1Num
/-! loop.example/g01394/spec.bpDigits -/
namespace spec_bpDigits
@[reducible] def pa : PFn := ⟨[.c (.int .i64)], []⟩
@[reducible] def al : Res := [⟨[.c (.int .i64)], []⟩]
def p3 : PSt := ⟨16, 0, [(0, .c (.int .i64)), (3, .c (.int .i64)), (4, .c (.int .i64))], []⟩
def a3 : Exs := [((Ex.exit 0), ⟨16, 0, [(3, .c (.int .i64))], []⟩)]
noncomputable def T3 (o : Int × Int × Int × Unit → Option (Int × Unit)) : Int × Int × Int × Unit → M (Int × Unit) := fun (pages1, n, page, _) =>
  .ite (decide (page ≤ pages1))
    (.bind (.ofO (spec_l1Num.g (page, ()))) fun (r, _) =>
    .ofO (o (pages1, (W (n + ((ByteArray.size r) : Int))), (W (page + 1)), ())))
    (.ret (n, ()))
noncomputable def L3 (k : Nat) : Int × Int × Int × Unit → Option (Int × Unit) := Nat.rec (fun _ => none) (fun _ ih v => (T3 ih v).opt) k
noncomputable def T (o3 : Int × Int × Int × Unit → Option (Int × Unit)) : Int × Unit → M (Int × Unit) := fun (pages, _) =>
  .ofO (o3 (pages, 0, 1, ()))
noncomputable def g (v : Int × Unit) : Option (Int × Unit) := (T (L3 fuel) v).opt
noncomputable def ent : Entry := ⟨209, pa, al, g⟩
@[reducible] noncomputable def E : EC := ⟨[spec_l1Num.ent], [(3, [0, 3, 4])], [(3, [3])], [], [], [], []⟩
noncomputable def H (k : Nat) : List Lab := [⟨false, 3, p3, a3, L3 k⟩]
theorem s3 (k : Nat) (v) : M.bind (.ofO (L3 (k + 1) v)) (exs a3) = evStep (mkE E) (ask (H k)) false (codeAt (bodyOf Tryd.f209) false 3) (stOf p3 v) := (M.bind_ofO_opt (T3 (L3 k) v) (exs a3)).trans (by kernel_rfl)
theorem ok : ent.ok PA := fn_ok E ent Tryd.f209 H ⟨spec_l1Num.ok, trivial⟩ (by kernel_rfl) (by kernel_rfl) (by kernel_rfl) ⟨fun _ => rfl, trivial⟩ (fun k => by kernel_rfl) (fun k => ⟨s3 k, trivial⟩)
  (fun v => (M.bind_ofO_opt (T (L3 fuel) v) (res al)).trans (by kernel_rfl))
end spec_bpDigits
/-! loop.example/g01394/spec.bpCount -/
namespace spec_bpCount
@[reducible] def pa : PFn := ⟨[.c (.int .i64), .c (.int .i64)], []⟩
@[reducible] def al : Res := [⟨[.c (.int .i64)], []⟩]
def p2 : PSt := ⟨17, 0, [(0, .c (.int .i64)), (1, .c (.int .i64)), (5, .c (.int .i64))], []⟩
def a2 : Exs := [((Ex.exit 0), ⟨17, 0, [(5, .c (.int .i64))], []⟩)]
noncomputable def T2 (o : Int × Int × Int × Unit → Option (Int × Unit)) : Int × Int × Int × Unit → M (Int × Unit) := fun (page1, digit1, n, _) =>
  .ite (decide (page1 > 0))
    (.ite ((Int.tmod page1 10) == digit1)
      (.ofO (o ((W (Int.tdiv page1 10)), digit1, (W (n + 1)), ())))
      (.ofO (o ((W (Int.tdiv page1 10)), digit1, n, ()))))
    (.ret (n, ()))
noncomputable def L2 (k : Nat) : Int × Int × Int × Unit → Option (Int × Unit) := Nat.rec (fun _ => none) (fun _ ih v => (T2 ih v).opt) k
noncomputable def T (o2 : Int × Int × Int × Unit → Option (Int × Unit)) : Int × Int × Unit → M (Int × Unit) := fun (page, digit, _) =>
  .ofO (o2 (page, digit, 0, ()))
noncomputable def g (v : Int × Int × Unit) : Option (Int × Unit) := (T (L2 fuel) v).opt
noncomputable def ent : Entry := ⟨210, pa, al, g⟩
@[reducible] noncomputable def E : EC := ⟨[], [(2, [0, 1, 5])], [(2, [5])], [], [], [], []⟩
noncomputable def H (k : Nat) : List Lab := [⟨false, 2, p2, a2, L2 k⟩]
theorem s2 (k : Nat) (v) : M.bind (.ofO (L2 (k + 1) v)) (exs a2) = evStep (mkE E) (ask (H k)) false (codeAt (bodyOf Tryd.f210) false 2) (stOf p2 v) := (M.bind_ofO_opt (T2 (L2 k) v) (exs a2)).trans (by kernel_rfl)
theorem ok : ent.ok PA := fn_ok E ent Tryd.f210 H trivial (by kernel_rfl) (by kernel_rfl) (by kernel_rfl) ⟨fun _ => rfl, trivial⟩ (fun k => by kernel_rfl) (fun k => ⟨s2 k, trivial⟩)
  (fun v => (M.bind_ofO_opt (T (L2 fuel) v) (res al)).trans (by kernel_rfl))
end spec_bpCount
/-! loop.example/g01394/spec.pzValue -/
namespace spec_pzValue
@[reducible] def pa : PFn := ⟨[.c (.int .i64), .c (.int .i64), .agg [.int .i64, .int .i64]], []⟩
@[reducible] def al : Res := [⟨[.c (.int .i64)], []⟩]
def p10 : PSt := ⟨78, 0, [(1, .c (.int .i64)), (5, .c (.ptr 0 0)), (7, .c (.int .i64)), (8, .c (.int .i64))], [.cells [.int .i64, .int .i64]]⟩
def a10 : Exs := [((Ex.exit 1), ⟨78, 0, [(7, .c (.int .i64))], []⟩)]
noncomputable def T10 (o : Int × Int × Int × Int × Int × Unit → Option (Int × Unit)) : Int × Int × Int × Int × Int × Unit → M (Int × Unit) := fun (a1, n, page, b0_0, b0_1, _) =>
  .ite (decide (page ≤ b0_0))
    (.ite ((W (Int.tdiv (W (page + 1)) 2)) != b0_1)
      (.bind (.ofO (spec_bpCount.g (page, a1, ()))) fun (r3, _) =>
      .ite (decide (r3 > 0))
        (.ofO (o (a1, (W (n + 1)), (W (page + 1)), b0_0, b0_1, ())))
        (.ofO (o (a1, n, (W (page + 1)), b0_0, b0_1, ()))))
      (.ofO (o (a1, n, (W (page + 1)), b0_0, b0_1, ()))))
    (.ret (n, ()))
noncomputable def L10 (k : Nat) : Int × Int × Int × Int × Int × Unit → Option (Int × Unit) := Nat.rec (fun _ => none) (fun _ ih v => (T10 ih v).opt) k
noncomputable def T (o10 : Int × Int × Int × Int × Int × Unit → Option (Int × Unit)) : Int × Int × Int × Int × Unit → M (Int × Unit) := fun (kind, a, h_0, h_1, _) =>
  .ite (kind == 0)
    (.ret ((W ((W (Int.tdiv (W (h_0 * (W (h_0 + 1)))) 2)) - (W ((W (4 * h_1)) - 1)))), ()))
    (.ite (kind == 1)
      (.bind (.ofO (spec_bpDigits.g (h_0, ()))) fun (r, _) =>
      .bind (.ofO (spec_l1Num.g ((W ((W (2 * h_1)) - 1)), ()))) fun (r1, _) =>
      .bind (.ofO (spec_l1Num.g ((W (2 * h_1)), ()))) fun (r2, _) =>
      .ret ((W ((W (r - ((ByteArray.size r1) : Int))) - ((ByteArray.size r2) : Int))), ()))
      (.ite (kind == 2)
        (.ofO (o10 (a, 0, 1, h_0, h_1, ())))
        (.ite (kind == 3)
          (.ite (decide (h_1 ≥ a))
            (.ret (1, ()))
            (.ret (0, ())))
          (.ite (kind == 4)
            (.ite (decide (a = 0))
              (.fail)
              (.ite ((Int.tmod h_0 a) == 0)
                (.ret (1, ()))
                (.ret (0, ()))))
            (.ret ((W ((W (4 * h_1)) - 1)), ()))))))
noncomputable def g (v : Int × Int × Int × Int × Unit) : Option (Int × Unit) := (T (L10 fuel) v).opt
noncomputable def ent : Entry := ⟨178, pa, al, g⟩
@[reducible] noncomputable def E : EC := ⟨[spec_bpSum.ent, spec_bpDigits.ent, spec_l1Num.ent, spec_bpCount.ent], [(10, [1, 5, 7, 8])], [(10, [7])], [], [], [], []⟩
noncomputable def H (k : Nat) : List Lab := [⟨false, 10, p10, a10, L10 k⟩]
theorem s10 (k : Nat) (v) : M.bind (.ofO (L10 (k + 1) v)) (exs a10) = evStep (mkE E) (ask (H k)) false (codeAt (bodyOf Tryd.f178) false 10) (stOf p10 v) := (M.bind_ofO_opt (T10 (L10 k) v) (exs a10)).trans (by kernel_rfl)
theorem ok : ent.ok PA := fn_ok E ent Tryd.f178 H ⟨spec_bpSum.ok, ⟨spec_bpDigits.ok, ⟨spec_l1Num.ok, ⟨spec_bpCount.ok, trivial⟩⟩⟩⟩ (by kernel_rfl) (by kernel_rfl) (by kernel_rfl) ⟨fun _ => rfl, trivial⟩ (fun k => by kernel_rfl) (fun k => ⟨s10 k, trivial⟩)
  (fun v => (M.bind_ofO_opt (T (L10 fuel) v) (res al)).trans (by kernel_rfl))
end spec_pzValue
/-! loop.example/g01394/spec.pzOf -/
namespace spec_pzOf
@[reducible] def pa : PFn := ⟨[.c (.int .i64), .c (.int .i64), .agg [.int .i64, .int .i64]], []⟩
@[reducible] def al : Res := [⟨[.agg [.int .i64, .int .i64, .int .i64]], []⟩]
noncomputable def T  : Int × Int × Int × Int × Unit → M (Int × Int × Int × Unit) := fun (kind, y, h_0, h_1, _) =>
  .ite (kind == 2)
    (.bind (.ofO (spec_pzValue.g (kind, (Int.tmod y 10), h_0, h_1, ()))) fun (r, _) =>
    .ret (kind, (Int.tmod y 10), r, ()))
    (.ite (kind == 3)
      (.bind (.ofO (spec_pzValue.g (kind, (W ((Int.tmod y 20) + 1)), h_0, h_1, ()))) fun (r1, _) =>
      .ret (kind, (W ((Int.tmod y 20) + 1)), r1, ()))
      (.ite (kind == 4)
        (.bind (.ofO (spec_pzValue.g (kind, (W ((Int.tmod y 8) + 2)), h_0, h_1, ()))) fun (r2, _) =>
        .ret (kind, (W ((Int.tmod y 8) + 2)), r2, ()))
        (.bind (.ofO (spec_pzValue.g (kind, 0, h_0, h_1, ()))) fun (r3, _) =>
        .ret (kind, 0, r3, ()))))
noncomputable def g (v : Int × Int × Int × Int × Unit) : Option (Int × Int × Int × Unit) := (T  v).opt
noncomputable def ent : Entry := ⟨101, pa, al, g⟩
@[reducible] noncomputable def E : EC := ⟨[spec_pzValue.ent], [], [], [], [], [], []⟩
noncomputable def H (_ : Nat) : List Lab := []
theorem ok : ent.ok PA := fn_ok E ent Tryd.f101 H ⟨spec_pzValue.ok, trivial⟩ (by kernel_rfl) (by kernel_rfl) (by kernel_rfl) trivial (fun k => by kernel_rfl) (fun _ => trivial)
  (fun v => (M.bind_ofO_opt (T  v) (res al)).trans (by kernel_rfl))
end spec_pzOf
/-! loop.example/g01394/spec.MakePuzzle -/
namespace spec_MakePuzzle
@[reducible] def pa : PFn := ⟨[.agg [.int .i64, .int .i64], .c (.int .i64), .c (.int .i64)], []⟩
@[reducible] def al : Res := [⟨[.agg [.row (.pair (.int .i64) (.pair (.int .i64) (.int .i64)))], .c (.bool)], []⟩]
def p5 : PSt := ⟨47, 0, [(1, .c (.int .i64)), (3, .c (.ptr 0 0)), (6, .c (.ptr 1 0)), (8, .c (.ptr 2 0)), (9, .c (.int .i64))], [.cells [.int .i64, .int .i64], .cells [.own 3], .cells [.own 4], .arr false (.pair (.int .i64) (.pair (.int .i64) (.int .i64))), .arr false (.pair (.int .i64) (.pair (.int .i64) (.int .i64)))]⟩
def a5 : Exs := [((Ex.exit 0), ⟨47, 0, [(6, .c (.ptr 0 0)), (8, .c (.ptr 1 0))], [.cells [.own 2], .cells [.own 3], .arr false (.pair (.int .i64) (.pair (.int .i64) (.int .i64))), .arr false (.pair (.int .i64) (.pair (.int .i64) (.int .i64)))]⟩)]
noncomputable def T5 (o : Int × Int × Int × Int × (List (Prod Int (Prod Int Int))) × (List (Prod Int (Prod Int Int))) × Unit → Option ((List (Prod Int (Prod Int Int))) × (List (Prod Int (Prod Int Int))) × Unit)) : Int × Int × Int × Int × (List (Prod Int (Prod Int Int))) × (List (Prod Int (Prod Int Int))) × Unit → M ((List (Prod Int (Prod Int Int))) × (List (Prod Int (Prod Int Int))) × Unit) := fun (clues1, z, b0_0, b0_1, b3, b4, _) =>
  .ite (decide (clues1 > 0))
    (.bind (.ofO (spec_pzOf.g ((Int.tmod (Int.tmod (W ((W (311 * z)) + 503)) 10007) 6), (Int.tmod (W ((W (311 * (Int.tmod (W ((W (311 * z)) + 503)) 10007))) + 503)) 10007), b0_0, b0_1, ()))) fun (r3, r4, r5, _) =>
    .ite (room ((List.length b4) + (List.length [(r3, r4, r5)])) 24)
      (.ofO (o ((W (clues1 - 1)), (Int.tmod (W ((W (311 * (Int.tmod (W ((W (311 * z)) + 503)) 10007))) + 503)) 10007), b0_0, b0_1, b3, (b4 ++ [(r3, r4, r5)]), ())))
      (.fail))
    (.ret (b3, b4, ()))
noncomputable def L5 (k : Nat) : Int × Int × Int × Int × (List (Prod Int (Prod Int Int))) × (List (Prod Int (Prod Int Int))) × Unit → Option ((List (Prod Int (Prod Int Int))) × (List (Prod Int (Prod Int Int))) × Unit) := Nat.rec (fun _ => none) (fun _ ih v => (T5 ih v).opt) k
noncomputable def T (o5 : Int × Int × Int × Int × (List (Prod Int (Prod Int Int))) × (List (Prod Int (Prod Int Int))) × Unit → Option ((List (Prod Int (Prod Int Int))) × (List (Prod Int (Prod Int Int))) × Unit)) : Int × Int × Int × Int × Unit → M ((List (Prod Int (Prod Int Int))) × Bool × Unit) := fun (h_0, h_1, clues, seed, _) =>
  .bind (.ofO (spec_pzBook.g (h_0, h_1, ()))) fun (r, _) =>
  .ite (!r)
    (.ret (([] : List (Prod Int (Prod Int Int))), false, ()))
    (.bind (.ofO (spec_l1In.g (clues, 0, 6, ()))) fun (r1, _) =>
    .ite (!r1)
      (.ret (([] : List (Prod Int (Prod Int Int))), false, ()))
      (.bind (.ofO (spec_l1In.g (seed, 0, 9999, ()))) fun (r2, _) =>
      .ite (!r2)
        (.ret (([] : List (Prod Int (Prod Int Int))), false, ()))
        (.bind (.ofO (o5 (clues, seed, h_0, h_1, ([] : List (Prod Int (Prod Int Int))), ([] : List (Prod Int (Prod Int Int))), ()))) fun (b2, b3, _) =>
        .ret (b3, true, ()))))
noncomputable def g (v : Int × Int × Int × Int × Unit) : Option ((List (Prod Int (Prod Int Int))) × Bool × Unit) := (T (L5 fuel) v).opt
noncomputable def ent : Entry := ⟨7, pa, al, g⟩
@[reducible] noncomputable def E : EC := ⟨[spec_pzBook.ent, spec_l1In.ent, spec_pzNext.ent, spec_pzOf.ent], [(5, [1, 3, 6, 8, 9])], [(5, [6, 8])], [], [], [[some (false, (.pair (.int .i64) (.pair (.int .i64) (.int .i64))))], []], []⟩
noncomputable def H (k : Nat) : List Lab := [⟨false, 5, p5, a5, L5 k⟩]
theorem s5 (k : Nat) (v) : M.bind (.ofO (L5 (k + 1) v)) (exs a5) = evStep (mkE E) (ask (H k)) false (codeAt (bodyOf Tryd.f7) false 5) (stOf p5 v) := (M.bind_ofO_opt (T5 (L5 k) v) (exs a5)).trans (by kernel_rfl)
theorem ok : ent.ok PA := fn_ok E ent Tryd.f7 H ⟨spec_pzBook.ok, ⟨spec_l1In.ok, ⟨spec_pzNext.ok, ⟨spec_pzOf.ok, trivial⟩⟩⟩⟩ (by kernel_rfl) (by kernel_rfl) (by kernel_rfl) ⟨fun _ => rfl, trivial⟩ (fun k => by kernel_rfl) (fun k => ⟨s5 k, trivial⟩)
  (fun v => (M.bind_ofO_opt (T (L5 fuel) v) (res al)).trans (by kernel_rfl))
end spec_MakePuzzle
/-! loop.example/g01394/impl.within -/
namespace impl_within
@[reducible] def pa : PFn := ⟨[.c (.int .i64), .c (.int .i64), .c (.int .i64)], []⟩
@[reducible] def al : Res := [⟨[.c (.bool)], []⟩]
noncomputable def T  : Int × Int × Int × Unit → M (Bool × Unit) := fun (n, low, high, _) =>
  .ite (decide (n ≥ low))
    (.ret ((decide (n ≤ high)), ()))
    (.ret (false, ()))
noncomputable def g (v : Int × Int × Int × Unit) : Option (Bool × Unit) := (T  v).opt
noncomputable def ent : Entry := ⟨102, pa, al, g⟩
@[reducible] noncomputable def E : EC := ⟨[], [], [], [], [], [], []⟩
noncomputable def H (_ : Nat) : List Lab := []
theorem ok : ent.ok PA := fn_ok E ent Tryd.f102 H trivial (by kernel_rfl) (by kernel_rfl) (by kernel_rfl) trivial (fun k => by kernel_rfl) (fun _ => trivial)
  (fun v => (M.bind_ofO_opt (T  v) (res al)).trans (by kernel_rfl))
end impl_within
/-! loop.example/g01394/impl.IsHidden -/
namespace impl_IsHidden
@[reducible] def pa : PFn := ⟨[.agg [.int .i64, .int .i64]], []⟩
@[reducible] def al : Res := [⟨[.c (.bool)], []⟩]
noncomputable def T  : Int × Int × Unit → M (Bool × Unit) := fun (h_0, h_1, _) =>
  .bind (.ofO (impl_within.g (h_0, 2, 40, ()))) fun (r, _) =>
  .ite r
    (.ofO (impl_within.g (h_1, 1, (W (Int.tdiv h_0 2)), ())))
    (.ret (false, ()))
noncomputable def g (v : Int × Int × Unit) : Option (Bool × Unit) := (T  v).opt
noncomputable def ent : Entry := ⟨16, pa, al, g⟩
@[reducible] noncomputable def E : EC := ⟨[impl_within.ent], [], [], [], [], [], []⟩
noncomputable def H (_ : Nat) : List Lab := []
theorem ok : ent.ok PA := fn_ok E ent Tryd.f16 H ⟨impl_within.ok, trivial⟩ (by kernel_rfl) (by kernel_rfl) (by kernel_rfl) trivial (fun k => by kernel_rfl) (fun _ => trivial)
  (fun v => (M.bind_ofO_opt (T  v) (res al)).trans (by kernel_rfl))
end impl_IsHidden
/-! loop.example/g01394/impl.MakePuzzle$1 -/
namespace impl_MakePuzzle_1
@[reducible] def pa : PFn := ⟨[.c (.ptr 0 0)], [.cells [.int .i64]]⟩
@[reducible] def al : Res := [⟨[.c (.int .i64)], [.cells [.int .i64]]⟩]
noncomputable def T  : Int × Unit → M (Int × Int × Unit) := fun (b0_0, _) =>
  .ret ((Int.tmod (W ((W (b0_0 * 311)) + 503)) 10007), (Int.tmod (W ((W (b0_0 * 311)) + 503)) 10007), ())
noncomputable def g (v : Int × Unit) : Option (Int × Int × Unit) := (T  v).opt
noncomputable def ent : Entry := ⟨103, pa, al, g⟩
@[reducible] noncomputable def E : EC := ⟨[], [], [], [], [], [], []⟩
noncomputable def H (_ : Nat) : List Lab := []
theorem ok : ent.ok PA := fn_ok E ent Tryd.f103 H trivial (by kernel_rfl) (by kernel_rfl) (by kernel_rfl) trivial (fun k => by kernel_rfl) (fun _ => trivial)
  (fun v => (M.bind_ofO_opt (T  v) (res al)).trans (by kernel_rfl))
end impl_MakePuzzle_1
/-! loop.example/g01394/impl.flag -/
namespace impl_flag
@[reducible] def pa : PFn := ⟨[.c (.bool)], []⟩
@[reducible] def al : Res := [⟨[.c (.int .i64)], []⟩]
noncomputable def T  : Bool × Unit → M (Int × Unit) := fun (is, _) =>
  .ite is
    (.ret (1, ()))
    (.ret (0, ()))
noncomputable def g (v : Bool × Unit) : Option (Int × Unit) := (T  v).opt
noncomputable def ent : Entry := ⟨179, pa, al, g⟩
@[reducible] noncomputable def E : EC := ⟨[], [], [], [], [], [], []⟩
noncomputable def H (_ : Nat) : List Lab := []
theorem ok : ent.ok PA := fn_ok E ent Tryd.f179 H trivial (by kernel_rfl) (by kernel_rfl) (by kernel_rfl) trivial (fun k => by kernel_rfl) (fun _ => trivial)
  (fun v => (M.bind_ofO_opt (T  v) (res al)).trans (by kernel_rfl))
end impl_flag
/-! loop.example/g01394/impl.used -/
namespace impl_used
@[reducible] def pa : PFn := ⟨[.c (.int .i64), .c (.int .i64)], []⟩
@[reducible] def al : Res := [⟨[.c (.int .i64)], []⟩]
noncomputable def T  : Int × Int × Unit → M (Int × Unit) := fun (page, digit, _) =>
  .bind (.ofO (strconv_Itoa.g (page, ()))) fun (r, _) =>
  .bind (.ofO (strconv_Itoa.g (digit, ()))) fun (r1, _) =>
  .ofO (strings_Count.g (r, r1, ()))
noncomputable def g (v : Int × Int × Unit) : Option (Int × Unit) := (T  v).opt
noncomputable def ent : Entry := ⟨181, pa, al, g⟩
@[reducible] noncomputable def E : EC := ⟨[strconv_Itoa.ent, strings_Count.ent], [], [], [], [], [], []⟩
noncomputable def H (_ : Nat) : List Lab := []
theorem ok : ent.ok PA := fn_ok E ent Tryd.f181 H ⟨strconv_Itoa.ok, ⟨strings_Count.ok, trivial⟩⟩ (by kernel_rfl) (by kernel_rfl) (by kernel_rfl) trivial (fun k => by kernel_rfl) (fun _ => trivial)
  (fun v => (M.bind_ofO_opt (T  v) (res al)).trans (by kernel_rfl))
end impl_used
/-! (loop.example/g01394/impl.Hidden).tells -/
namespace impl_Hidden_tells
@[reducible] def pa : PFn := ⟨[.agg [.int .i64, .int .i64], .c (.int .i64), .c (.int .i64)], []⟩
@[reducible] def al : Res := [⟨[.c (.int .i64)], []⟩]
def p10 : PSt := ⟨65, 0, [(1, .c (.int .i64)), (2, .c (.int .i64)), (3, .c (.ptr 0 0)), (7, .c (.int .i64)), (8, .c (.int .i64))], [.cells [.int .i64, .int .i64]]⟩
def a10 : Exs := [((Ex.exit 1), ⟨65, 0, [(7, .c (.int .i64))], []⟩)]
noncomputable def T10 (o : Int × Int × Int × Int × Int × Int × Unit → Option (Int × Unit)) : Int × Int × Int × Int × Int × Int × Unit → M (Int × Unit) := fun (kind1, a1, sum, page, b0_0, b0_1, _) =>
  .ite (decide (page ≤ b0_0))
    (.ite ((W (Int.tdiv (W (page + 1)) 2)) == b0_1)
      (.ofO (o (kind1, a1, sum, (W (page + 1)), b0_0, b0_1, ())))
      (.ite (kind1 == 0)
        (.ofO (o (kind1, a1, (W (sum + page)), (W (page + 1)), b0_0, b0_1, ())))
        (.ite (kind1 == 1)
          (.bind (.ofO (strconv_Itoa.g (page, ()))) fun (r2, _) =>
          .ofO (o (kind1, a1, (W (sum + ((ByteArray.size r2) : Int))), (W (page + 1)), b0_0, b0_1, ())))
          (.bind (.ofO (impl_used.g (page, a1, ()))) fun (r3, _) =>
          .ofO (o (kind1, a1, (W (sum + (Min.min 1 r3))), (W (page + 1)), b0_0, b0_1, ()))))))
    (.ret (sum, ()))
noncomputable def L10 (k : Nat) : Int × Int × Int × Int × Int × Int × Unit → Option (Int × Unit) := Nat.rec (fun _ => none) (fun _ ih v => (T10 ih v).opt) k
noncomputable def T (o10 : Int × Int × Int × Int × Int × Int × Unit → Option (Int × Unit)) : Int × Int × Int × Int × Unit → M (Int × Unit) := fun (h_0, h_1, kind, a, _) =>
  .ite (kind == 3)
    (.ofO (impl_flag.g ((decide (h_1 ≥ a)), ())))
    (.ite (kind == 4)
      (.ite (decide (a = 0))
        (.fail)
        (.ofO (impl_flag.g (((Int.tmod h_0 a) == 0), ()))))
      (.ite (kind == 5)
        (.ret ((W ((W (4 * h_1)) - 1)), ()))
        (.ofO (o10 (kind, a, 0, 1, h_0, h_1, ())))))
noncomputable def g (v : Int × Int × Int × Int × Unit) : Option (Int × Unit) := (T (L10 fuel) v).opt
noncomputable def ent : Entry := ⟨104, pa, al, g⟩
@[reducible] noncomputable def E : EC := ⟨[impl_flag.ent, strconv_Itoa.ent, impl_used.ent], [(10, [1, 2, 3, 7, 8])], [(10, [7])], [], [], [], []⟩
noncomputable def H (k : Nat) : List Lab := [⟨false, 10, p10, a10, L10 k⟩]
theorem s10 (k : Nat) (v) : M.bind (.ofO (L10 (k + 1) v)) (exs a10) = evStep (mkE E) (ask (H k)) false (codeAt (bodyOf Tryd.f104) false 10) (stOf p10 v) := (M.bind_ofO_opt (T10 (L10 k) v) (exs a10)).trans (by kernel_rfl)
theorem ok : ent.ok PA := fn_ok E ent Tryd.f104 H ⟨impl_flag.ok, ⟨strconv_Itoa.ok, ⟨impl_used.ok, trivial⟩⟩⟩ (by kernel_rfl) (by kernel_rfl) (by kernel_rfl) ⟨fun _ => rfl, trivial⟩ (fun k => by kernel_rfl) (fun k => ⟨s10 k, trivial⟩)
  (fun v => (M.bind_ofO_opt (T (L10 fuel) v) (res al)).trans (by kernel_rfl))
end impl_Hidden_tells
/-! loop.example/g01394/impl.MakePuzzle -/
namespace impl_MakePuzzle
@[reducible] def pa : PFn := ⟨[.agg [.int .i64, .int .i64], .c (.int .i64), .c (.int .i64)], []⟩
@[reducible] def al : Res := [⟨[.agg [.own 0], .c (.bool)], [.arr false (.pair (.int .i64) (.pair (.int .i64) (.int .i64)))]⟩]
def p16j : PSt := ⟨68, 0, [(3, .c (.ptr 0 0)), (6, .c (.ptr 1 0)), (9, .c (.ptr 2 0)), (10, .c (.fn 103 [3])), (11, .c (.int .i64)), (12, .c (.int .i64)), (31, .c (.int .i64)), (32, .c (.int .i64))], [.cells [.int .i64, .int .i64], .cells [.own 4], .cells [.own 5], .cells [.int .i64], .arr false (.pair (.int .i64) (.pair (.int .i64) (.int .i64))), .arr false (.pair (.int .i64) (.pair (.int .i64) (.int .i64)))]⟩
def a16j : Exs := [(Ex.normal, ⟨68, 0, [(3, .c (.ptr 0 0)), (6, .c (.ptr 1 0)), (9, .c (.ptr 2 0)), (10, .c (.fn 103 [3])), (31, .c (.int .i64)), (32, .c (.int .i64))], [.cells [.int .i64, .int .i64], .cells [.own 4], .cells [.own 5], .cells [.int .i64], .arr false (.pair (.int .i64) (.pair (.int .i64) (.int .i64))), .arr false (.pair (.int .i64) (.pair (.int .i64) (.int .i64)))]⟩)]
noncomputable def T16j  : Int × Int × Int × Int × Int × Int × Int × (List (Prod Int (Prod Int Int))) × (List (Prod Int (Prod Int Int))) × Unit → M (Int × Int × Int × Int × Int × (List (Prod Int (Prod Int Int))) × (List (Prod Int (Prod Int Int))) × Unit) := fun (kind, a, t311, t321, b0_01, b0_11, b3_01, b41, b51, _) =>
  .bind (.ofO (impl_Hidden_tells.g (b0_01, b0_11, kind, a, ()))) fun (r3, _) =>
  .ite (room ((List.length b51) + (List.length [(kind, a, r3)])) 24)
    (.ret (t311, t321, b0_01, b0_11, b3_01, b41, (b51 ++ [(kind, a, r3)]), ()))
    (.fail)
noncomputable def L16j (k : Nat) : Int × Int × Int × Int × Int × Int × Int × (List (Prod Int (Prod Int Int))) × (List (Prod Int (Prod Int Int))) × Unit → Option (Int × Int × Int × Int × Int × (List (Prod Int (Prod Int Int))) × (List (Prod Int (Prod Int Int))) × Unit) := Nat.rec (fun _ => none) (fun _ _ v => (T16j  v).opt) k
def p6 : PSt := ⟨68, 0, [(3, .c (.ptr 0 0)), (6, .c (.ptr 1 0)), (9, .c (.ptr 2 0)), (10, .c (.fn 103 [3])), (31, .c (.int .i64)), (32, .c (.int .i64))], [.cells [.int .i64, .int .i64], .cells [.own 4], .cells [.own 5], .cells [.int .i64], .arr false (.pair (.int .i64) (.pair (.int .i64) (.int .i64))), .arr false (.pair (.int .i64) (.pair (.int .i64) (.int .i64)))]⟩
def a6 : Exs := [((Ex.exit 0), ⟨68, 0, [(6, .c (.ptr 0 0)), (9, .c (.ptr 1 0))], [.cells [.own 2], .cells [.own 3], .arr false (.pair (.int .i64) (.pair (.int .i64) (.int .i64))), .arr false (.pair (.int .i64) (.pair (.int .i64) (.int .i64)))]⟩)]
noncomputable def T6 (o16j : Int × Int × Int × Int × Int × Int × Int × (List (Prod Int (Prod Int Int))) × (List (Prod Int (Prod Int Int))) × Unit → Option (Int × Int × Int × Int × Int × (List (Prod Int (Prod Int Int))) × (List (Prod Int (Prod Int Int))) × Unit)) (o : Int × Int × Int × Int × Int × (List (Prod Int (Prod Int Int))) × (List (Prod Int (Prod Int Int))) × Unit → Option ((List (Prod Int (Prod Int Int))) × (List (Prod Int (Prod Int Int))) × Unit)) : Int × Int × Int × Int × Int × (List (Prod Int (Prod Int Int))) × (List (Prod Int (Prod Int Int))) × Unit → M ((List (Prod Int (Prod Int Int))) × (List (Prod Int (Prod Int Int))) × Unit) := fun (t31, t32, b0_0, b0_1, b3_0, b4, b5, _) =>
  .ite (decide (t32 < t31))
    (.ite ((Int.tmod (Int.tmod (W ((W (b3_0 * 311)) + 503)) 10007) 6) == 2)
      (.bind (.ofO (o16j ((Int.tmod (Int.tmod (W ((W (b3_0 * 311)) + 503)) 10007) 6), (Int.tmod (Int.tmod (W ((W ((Int.tmod (W ((W (b3_0 * 311)) + 503)) 10007) * 311)) + 503)) 10007) 10), t31, t32, b0_0, b0_1, (Int.tmod (W ((W ((Int.tmod (W ((W (b3_0 * 311)) + 503)) 10007) * 311)) + 503)) 10007), b4, b5, ()))) fun (t311, t321, b0_01, b0_11, b3_01, b41, b51, _) =>
      .ofO (o (t311, (W (t321 + 1)), b0_01, b0_11, b3_01, b41, b51, ())))
      (.ite ((Int.tmod (Int.tmod (W ((W (b3_0 * 311)) + 503)) 10007) 6) == 3)
        (.bind (.ofO (o16j ((Int.tmod (Int.tmod (W ((W (b3_0 * 311)) + 503)) 10007) 6), (W ((Int.tmod (Int.tmod (W ((W ((Int.tmod (W ((W (b3_0 * 311)) + 503)) 10007) * 311)) + 503)) 10007) 20) + 1)), t31, t32, b0_0, b0_1, (Int.tmod (W ((W ((Int.tmod (W ((W (b3_0 * 311)) + 503)) 10007) * 311)) + 503)) 10007), b4, b5, ()))) fun (t312, t322, b0_02, b0_12, b3_02, b42, b52, _) =>
        .ofO (o (t312, (W (t322 + 1)), b0_02, b0_12, b3_02, b42, b52, ())))
        (.ite ((Int.tmod (Int.tmod (W ((W (b3_0 * 311)) + 503)) 10007) 6) == 4)
          (.bind (.ofO (o16j ((Int.tmod (Int.tmod (W ((W (b3_0 * 311)) + 503)) 10007) 6), (W ((Int.tmod (Int.tmod (W ((W ((Int.tmod (W ((W (b3_0 * 311)) + 503)) 10007) * 311)) + 503)) 10007) 8) + 2)), t31, t32, b0_0, b0_1, (Int.tmod (W ((W ((Int.tmod (W ((W (b3_0 * 311)) + 503)) 10007) * 311)) + 503)) 10007), b4, b5, ()))) fun (t313, t323, b0_03, b0_13, b3_03, b43, b53, _) =>
          .ofO (o (t313, (W (t323 + 1)), b0_03, b0_13, b3_03, b43, b53, ())))
          (.bind (.ofO (o16j ((Int.tmod (Int.tmod (W ((W (b3_0 * 311)) + 503)) 10007) 6), 0, t31, t32, b0_0, b0_1, (Int.tmod (W ((W ((Int.tmod (W ((W (b3_0 * 311)) + 503)) 10007) * 311)) + 503)) 10007), b4, b5, ()))) fun (t314, t324, b0_04, b0_14, b3_04, b44, b54, _) =>
          .ofO (o (t314, (W (t324 + 1)), b0_04, b0_14, b3_04, b44, b54, ()))))))
    (.ret (b4, b5, ()))
noncomputable def L6 (k : Nat) : Int × Int × Int × Int × Int × (List (Prod Int (Prod Int Int))) × (List (Prod Int (Prod Int Int))) × Unit → Option ((List (Prod Int (Prod Int Int))) × (List (Prod Int (Prod Int Int))) × Unit) := Nat.rec (fun _ => none) (fun k ih v => (T6 (L16j k) ih v).opt) k
noncomputable def T (o6 : Int × Int × Int × Int × Int × (List (Prod Int (Prod Int Int))) × (List (Prod Int (Prod Int Int))) × Unit → Option ((List (Prod Int (Prod Int Int))) × (List (Prod Int (Prod Int Int))) × Unit)) : Int × Int × Int × Int × Unit → M (Bool × (List (Prod Int (Prod Int Int))) × Unit) := fun (h_0, h_1, clues, seed, _) =>
  .bind (.ofO (impl_IsHidden.g (h_0, h_1, ()))) fun (r, _) =>
  .ite (!r)
    (.ret (false, ([] : List (Prod Int (Prod Int Int))), ()))
    (.bind (.ofO (impl_within.g (clues, 0, 6, ()))) fun (r1, _) =>
    .ite (!r1)
      (.ret (false, ([] : List (Prod Int (Prod Int Int))), ()))
      (.bind (.ofO (impl_within.g (seed, 0, 9999, ()))) fun (r2, _) =>
      .ite (!r2)
        (.ret (false, ([] : List (Prod Int (Prod Int Int))), ()))
        (.bind (.ofO (o6 (clues, 0, h_0, h_1, seed, ([] : List (Prod Int (Prod Int Int))), ([] : List (Prod Int (Prod Int Int))), ()))) fun (b2, b3, _) =>
        .ret (true, b3, ()))))
noncomputable def g (v : Int × Int × Int × Int × Unit) : Option (Bool × (List (Prod Int (Prod Int Int))) × Unit) := (T (L6 fuel) v).opt
noncomputable def ent : Entry := ⟨9, pa, al, g⟩
@[reducible] noncomputable def E : EC := ⟨[impl_IsHidden.ent, impl_within.ent, impl_MakePuzzle_1.ent, impl_Hidden_tells.ent], [(6, [3, 6, 9, 10, 31, 32])], [(6, [6, 9])], [(16, [3, 6, 9, 10, 11, 12, 31, 32])], [(16, [3, 6, 9, 10, 31, 32])], [[some (true, (.pair (.int .i64) (.pair (.int .i64) (.int .i64))))], []], []⟩
noncomputable def H (k : Nat) : List Lab := [⟨true, 16, p16j, a16j, L16j k⟩, ⟨false, 6, p6, a6, L6 k⟩]
theorem s16j (k : Nat) (v) : M.bind (.ofO (L16j (k + 1) v)) (exs a16j) = evStep (mkE E) (ask (H k)) true (codeAt (bodyOf Tryd.f9) true 16) (stOf p16j v) := (M.bind_ofO_opt (T16j  v) (exs a16j)).trans (by kernel_rfl)
theorem s6 (k : Nat) (v) : M.bind (.ofO (L6 (k + 1) v)) (exs a6) = evStep (mkE E) (ask (H k)) false (codeAt (bodyOf Tryd.f9) false 6) (stOf p6 v) := (M.bind_ofO_opt (T6 (L16j k) (L6 k) v) (exs a6)).trans (by kernel_rfl)
theorem ok : ent.ok PA := fn_ok E ent Tryd.f9 H ⟨impl_IsHidden.ok, ⟨impl_within.ok, ⟨impl_MakePuzzle_1.ok, ⟨impl_Hidden_tells.ok, trivial⟩⟩⟩⟩ (by kernel_rfl) (by kernel_rfl) (by kernel_rfl) ⟨fun _ => rfl, ⟨fun _ => rfl, trivial⟩⟩ (fun k => by kernel_rfl) (fun k => ⟨s16j k, ⟨s6 k, trivial⟩⟩)
  (fun v => (M.bind_ofO_opt (T (L6 fuel) v) (res al)).trans (by kernel_rfl))
end impl_MakePuzzle
/-! loop.example/g01394/laws.eqClue -/
namespace laws_eqClue
@[reducible] def pa : PFn := ⟨[.agg [.int .i64, .int .i64, .int .i64], .agg [.int .i64, .int .i64, .int .i64]], []⟩
@[reducible] def al : Res := [⟨[.c (.bool)], []⟩]
noncomputable def T  : Int × Int × Int × Int × Int × Int × Unit → M (Bool × Unit) := fun (a_0, a_1, a_2, b_0, b_1, b_2, _) =>
  .ite (a_0 != b_0)
    (.ret (false, ()))
    (.ite (a_1 != b_1)
      (.ret (false, ()))
      (.ite (a_2 != b_2)
        (.ret (false, ()))
        (.ret (true, ()))))
noncomputable def g (v : Int × Int × Int × Int × Int × Int × Unit) : Option (Bool × Unit) := (T  v).opt
noncomputable def ent : Entry := ⟨182, pa, al, g⟩
@[reducible] noncomputable def E : EC := ⟨[], [], [], [], [], [], []⟩
noncomputable def H (_ : Nat) : List Lab := []
theorem ok : ent.ok PA := fn_ok E ent Tryd.f182 H trivial (by kernel_rfl) (by kernel_rfl) (by kernel_rfl) trivial (fun k => by kernel_rfl) (fun _ => trivial)
  (fun v => (M.bind_ofO_opt (T  v) (res al)).trans (by kernel_rfl))
end laws_eqClue
/-! loop.example/g01394/laws.eqClueS -/
namespace laws_eqClueS
@[reducible] def pa : PFn := ⟨[.c (.row (.pair (.int .i64) (.pair (.int .i64) (.int .i64)))), .c (.row (.pair (.int .i64) (.pair (.int .i64) (.int .i64))))], []⟩
@[reducible] def al : Res := [⟨[.c (.bool)], []⟩]
def p4 : PSt := ⟨27, 0, [(0, .c (.row (.pair (.int .i64) (.pair (.int .i64) (.int .i64))))), (1, .c (.row (.pair (.int .i64) (.pair (.int .i64) (.int .i64))))), (5, .c (.int .i64))], []⟩
def a4 : Exs := [(Ex.ret, ⟨27, 0, [(4, .c (.bool))], []⟩), ((Ex.exit 0), ⟨27, 0, [], []⟩)]
noncomputable def T4 (o : (List (Prod Int (Prod Int Int))) × (List (Prod Int (Prod Int Int))) × Int × Unit → Option (Sum (Bool × Unit) (Unit))) : (List (Prod Int (Prod Int Int))) × (List (Prod Int (Prod Int Int))) × Int × Unit → M (Sum (Bool × Unit) (Unit)) := fun (a1, b1, i, _) =>
  .ite (decide (i < ((List.length a1) : Int)))
    (.ite (decide (0 ≤ i))
      (.bind (.ofO (a1)[(Int.toNat i)]?) fun e =>
      .ite (decide (0 ≤ i))
        (.bind (.ofO (b1)[(Int.toNat i)]?) fun e1 =>
        .bind (.ofO (laws_eqClue.g (e.1, e.2.1, e.2.2, e1.1, e1.2.1, e1.2.2, ()))) fun (r, _) =>
        .ite (!r)
          (.ret (.inl (false, ())))
          (.ofO (o (a1, b1, (W (i + 1)), ()))))
        (.fail))
      (.fail))
    (.ret (.inr ((()))))
noncomputable def L4 (k : Nat) : (List (Prod Int (Prod Int Int))) × (List (Prod Int (Prod Int Int))) × Int × Unit → Option (Sum (Bool × Unit) (Unit)) := Nat.rec (fun _ => none) (fun _ ih v => (T4 ih v).opt) k
noncomputable def T (o4 : (List (Prod Int (Prod Int Int))) × (List (Prod Int (Prod Int Int))) × Int × Unit → Option (Sum (Bool × Unit) (Unit))) : (List (Prod Int (Prod Int Int))) × (List (Prod Int (Prod Int Int))) × Unit → M (Bool × Unit) := fun (a, b, _) =>
  .ite (((List.length a) : Int) != ((List.length b) : Int))
    (.ret (false, ()))
    (.bind (.ofO (o4 (a, b, 0, ()))) fun q => .sum q
      (fun (t4, _) =>
      .ret (t4, ()))
      (fun (_) =>
      .ret (true, ())))
noncomputable def g (v : (List (Prod Int (Prod Int Int))) × (List (Prod Int (Prod Int Int))) × Unit) : Option (Bool × Unit) := (T (L4 fuel) v).opt
noncomputable def ent : Entry := ⟨105, pa, al, g⟩
@[reducible] noncomputable def E : EC := ⟨[laws_eqClue.ent], [(4, [0, 1, 5])], [(4, [4])], [], [], [], []⟩
noncomputable def H (k : Nat) : List Lab := [⟨false, 4, p4, a4, L4 k⟩]
theorem s4 (k : Nat) (v) : M.bind (.ofO (L4 (k + 1) v)) (exs a4) = evStep (mkE E) (ask (H k)) false (codeAt (bodyOf Tryd.f105) false 4) (stOf p4 v) := (M.bind_ofO_opt (T4 (L4 k) v) (exs a4)).trans (by kernel_rfl)
theorem ok : ent.ok PA := fn_ok E ent Tryd.f105 H ⟨laws_eqClue.ok, trivial⟩ (by kernel_rfl) (by kernel_rfl) (by kernel_rfl) ⟨fun _ => rfl, trivial⟩ (fun k => by kernel_rfl) (fun k => ⟨s4 k, trivial⟩)
  (fun v => (M.bind_ofO_opt (T (L4 fuel) v) (res al)).trans (by kernel_rfl))
end laws_eqClueS
/-! loop.example/g01394/laws.eqPuzzle -/
namespace laws_eqPuzzle
@[reducible] def pa : PFn := ⟨[.agg [.row (.pair (.int .i64) (.pair (.int .i64) (.int .i64)))], .agg [.row (.pair (.int .i64) (.pair (.int .i64) (.int .i64)))]], []⟩
@[reducible] def al : Res := [⟨[.c (.bool)], []⟩]
noncomputable def T  : (List (Prod Int (Prod Int Int))) × (List (Prod Int (Prod Int Int))) × Unit → M (Bool × Unit) := fun (a_0, b_0, _) =>
  .bind (.ofO (laws_eqClueS.g (a_0, b_0, ()))) fun (r, _) =>
  .ite (!r)
    (.ret (false, ()))
    (.ret (true, ()))
noncomputable def g (v : (List (Prod Int (Prod Int Int))) × (List (Prod Int (Prod Int Int))) × Unit) : Option (Bool × Unit) := (T  v).opt
noncomputable def ent : Entry := ⟨10, pa, al, g⟩
@[reducible] noncomputable def E : EC := ⟨[laws_eqClueS.ent], [], [], [], [], [], []⟩
noncomputable def H (_ : Nat) : List Lab := []
theorem ok : ent.ok PA := fn_ok E ent Tryd.f10 H ⟨laws_eqClueS.ok, trivial⟩ (by kernel_rfl) (by kernel_rfl) (by kernel_rfl) trivial (fun k => by kernel_rfl) (fun _ => trivial)
  (fun v => (M.bind_ofO_opt (T  v) (res al)).trans (by kernel_rfl))
end laws_eqPuzzle
/-! loop.example/g01394/laws.markClueS -/
namespace laws_markClueS
@[reducible] def pa : PFn := ⟨[.c (.own 0), .c (.int .i64)], [.arr false (.pair (.int .i64) (.pair (.int .i64) (.int .i64)))]⟩
@[reducible] def al : Res := [⟨[.c (.int .i64)], [.arr false (.pair (.int .i64) (.pair (.int .i64) (.int .i64)))]⟩]
def p2 : PSt := ⟨34, 1, [(0, .c (.own 0)), (1, .c (.int .i64)), (5, .c (.int .i64))], [.arr false (.pair (.int .i64) (.pair (.int .i64) (.int .i64)))]⟩
def a2 : Exs := [((Ex.exit 0), ⟨34, 1, [(1, .c (.int .i64))], [.arr false (.pair (.int .i64) (.pair (.int .i64) (.int .i64)))]⟩)]
noncomputable def T2 (o : Int × Int × (List (Prod Int (Prod Int Int))) × Unit → Option (Int × (List (Prod Int (Prod Int Int))) × Unit)) : Int × Int × (List (Prod Int (Prod Int Int))) × Unit → M (Int × (List (Prod Int (Prod Int Int))) × Unit) := fun (k'1, i, b01, _) =>
  .ite (decide (i < ((List.length b01) : Int)))
    (.ite (inside i (List.length b01))
      (.bind (.ofO (b01)[(Int.toNat i)]?) fun e =>
      .ite (inside i (List.length (List.set b01 (Int.toNat i) (k'1, e.2.1, e.2.2))))
        (.bind (.ofO ((List.set b01 (Int.toNat i) (k'1, e.2.1, e.2.2)))[(Int.toNat i)]?) fun e1 =>
        .ite (inside i (List.length (List.set (List.set b01 (Int.toNat i) (k'1, e.2.1, e.2.2)) (Int.toNat i) (e1.1, (W (k'1 + 1)), e1.2.2))))
          (.bind (.ofO ((List.set (List.set b01 (Int.toNat i) (k'1, e.2.1, e.2.2)) (Int.toNat i) (e1.1, (W (k'1 + 1)), e1.2.2)))[(Int.toNat i)]?) fun e2 =>
          .ofO (o ((W ((W ((W (k'1 + 1)) + 1)) + 1)), (W (i + 1)), (List.set (List.set (List.set b01 (Int.toNat i) (k'1, e.2.1, e.2.2)) (Int.toNat i) (e1.1, (W (k'1 + 1)), e1.2.2)) (Int.toNat i) (e2.1, e2.2.1, (W ((W (k'1 + 1)) + 1)))), ())))
          (.fail))
        (.fail))
      (.fail))
    (.ret (k'1, b01, ()))
noncomputable def L2 (k : Nat) : Int × Int × (List (Prod Int (Prod Int Int))) × Unit → Option (Int × (List (Prod Int (Prod Int Int))) × Unit) := Nat.rec (fun _ => none) (fun _ ih v => (T2 ih v).opt) k
noncomputable def T (o2 : Int × Int × (List (Prod Int (Prod Int Int))) × Unit → Option (Int × (List (Prod Int (Prod Int Int))) × Unit)) : Int × (List (Prod Int (Prod Int Int))) × Unit → M (Int × (List (Prod Int (Prod Int Int))) × Unit) := fun (k', b0, _) =>
  .ofO (o2 (k', 0, b0, ()))
noncomputable def g (v : Int × (List (Prod Int (Prod Int Int))) × Unit) : Option (Int × (List (Prod Int (Prod Int Int))) × Unit) := (T (L2 fuel) v).opt
noncomputable def ent : Entry := ⟨106, pa, al, g⟩
@[reducible] noncomputable def E : EC := ⟨[], [(2, [0, 1, 5])], [(2, [1])], [], [], [], []⟩
noncomputable def H (k : Nat) : List Lab := [⟨false, 2, p2, a2, L2 k⟩]
theorem s2 (k : Nat) (v) : M.bind (.ofO (L2 (k + 1) v)) (exs a2) = evStep (mkE E) (ask (H k)) false (codeAt (bodyOf Tryd.f106) false 2) (stOf p2 v) := (M.bind_ofO_opt (T2 (L2 k) v) (exs a2)).trans (by kernel_rfl)
theorem ok : ent.ok PA := fn_ok E ent Tryd.f106 H trivial (by kernel_rfl) (by kernel_rfl) (by kernel_rfl) ⟨fun _ => rfl, trivial⟩ (fun k => by kernel_rfl) (fun k => ⟨s2 k, trivial⟩)
  (fun v => (M.bind_ofO_opt (T (L2 fuel) v) (res al)).trans (by kernel_rfl))
end laws_markClueS
/-! loop.example/g01394/laws.markPuzzle -/
namespace laws_markPuzzle
@[reducible] def pa : PFn := ⟨[.agg [.own 0], .c (.int .i64)], [.arr false (.pair (.int .i64) (.pair (.int .i64) (.int .i64)))]⟩
@[reducible] def al : Res := [⟨[.c (.int .i64)], [.arr false (.pair (.int .i64) (.pair (.int .i64) (.int .i64)))]⟩]
noncomputable def T  : Int × (List (Prod Int (Prod Int Int))) × Unit → M (Int × (List (Prod Int (Prod Int Int))) × Unit) := fun (k', b0, _) =>
  .ofO (laws_markClueS.g (k', b0, ()))
noncomputable def g (v : Int × (List (Prod Int (Prod Int Int))) × Unit) : Option (Int × (List (Prod Int (Prod Int Int))) × Unit) := (T  v).opt
noncomputable def ent : Entry := ⟨11, pa, al, g⟩
@[reducible] noncomputable def E : EC := ⟨[laws_markClueS.ent], [], [], [], [], [], [(106, 0)]⟩
noncomputable def H (_ : Nat) : List Lab := []
theorem ok : ent.ok PA := fn_ok E ent Tryd.f11 H ⟨laws_markClueS.ok, trivial⟩ (by kernel_rfl) (by kernel_rfl) (by kernel_rfl) trivial (fun k => by kernel_rfl) (fun _ => trivial)
  (fun v => (M.bind_ofO_opt (T  v) (res al)).trans (by kernel_rfl))
end laws_markPuzzle
/-! loop.example/g01394/laws.heldClueS -/
namespace laws_heldClueS
@[reducible] def pa : PFn := ⟨[.c (.row (.pair (.int .i64) (.pair (.int .i64) (.int .i64)))), .c (.int .i64)], []⟩
@[reducible] def al : Res := [⟨[.c (.int .i64)], []⟩]
def p2 : PSt := ⟨40, 0, [(0, .c (.row (.pair (.int .i64) (.pair (.int .i64) (.int .i64))))), (1, .c (.int .i64)), (5, .c (.int .i64))], []⟩
def a2 : Exs := [(Ex.ret, ⟨40, 0, [(1, .c (.int .i64)), (4, .c (.int .i64))], []⟩), ((Ex.exit 0), ⟨40, 0, [(1, .c (.int .i64))], []⟩)]
noncomputable def T2 (o : (List (Prod Int (Prod Int Int))) × Int × Int × Unit → Option (Sum (Int × Int × Unit) (Int × Unit))) : (List (Prod Int (Prod Int Int))) × Int × Int × Unit → M (Sum (Int × Int × Unit) (Int × Unit)) := fun (a1, k'1, i, _) =>
  .ite (decide (i < ((List.length a1) : Int)))
    (.ite (decide (0 ≤ i))
      (.bind (.ofO (a1)[(Int.toNat i)]?) fun e =>
      .ite (e.1 != k'1)
        (.ret (.inl (k'1, (-1), ())))
        (.ite (decide (0 ≤ i))
          (.bind (.ofO (a1)[(Int.toNat i)]?) fun e1 =>
          .ite (e1.2.1 != (W (k'1 + 1)))
            (.ret (.inl ((W (k'1 + 1)), (-1), ())))
            (.ite (decide (0 ≤ i))
              (.bind (.ofO (a1)[(Int.toNat i)]?) fun e2 =>
              .ite (e2.2.2 != (W ((W (k'1 + 1)) + 1)))
                (.ret (.inl ((W ((W (k'1 + 1)) + 1)), (-1), ())))
                (.ofO (o (a1, (W ((W ((W (k'1 + 1)) + 1)) + 1)), (W (i + 1)), ()))))
              (.fail)))
          (.fail)))
      (.fail))
    (.ret (.inr ((k'1, ()))))
noncomputable def L2 (k : Nat) : (List (Prod Int (Prod Int Int))) × Int × Int × Unit → Option (Sum (Int × Int × Unit) (Int × Unit)) := Nat.rec (fun _ => none) (fun _ ih v => (T2 ih v).opt) k
noncomputable def T (o2 : (List (Prod Int (Prod Int Int))) × Int × Int × Unit → Option (Sum (Int × Int × Unit) (Int × Unit))) : (List (Prod Int (Prod Int Int))) × Int × Unit → M (Int × Unit) := fun (a, k', _) =>
  .bind (.ofO (o2 (a, k', 0, ()))) fun q => .sum q
    (fun (k'1, t4, _) =>
    .ret (t4, ()))
    (fun (k'2, _) =>
    .ret (k'2, ()))
noncomputable def g (v : (List (Prod Int (Prod Int Int))) × Int × Unit) : Option (Int × Unit) := (T (L2 fuel) v).opt
noncomputable def ent : Entry := ⟨107, pa, al, g⟩
@[reducible] noncomputable def E : EC := ⟨[], [(2, [0, 1, 5])], [(2, [1, 4])], [], [], [], []⟩
noncomputable def H (k : Nat) : List Lab := [⟨false, 2, p2, a2, L2 k⟩]
theorem s2 (k : Nat) (v) : M.bind (.ofO (L2 (k + 1) v)) (exs a2) = evStep (mkE E) (ask (H k)) false (codeAt (bodyOf Tryd.f107) false 2) (stOf p2 v) := (M.bind_ofO_opt (T2 (L2 k) v) (exs a2)).trans (by kernel_rfl)
theorem ok : ent.ok PA := fn_ok E ent Tryd.f107 H trivial (by kernel_rfl) (by kernel_rfl) (by kernel_rfl) ⟨fun _ => rfl, trivial⟩ (fun k => by kernel_rfl) (fun k => ⟨s2 k, trivial⟩)
  (fun v => (M.bind_ofO_opt (T (L2 fuel) v) (res al)).trans (by kernel_rfl))
end laws_heldClueS
/-! loop.example/g01394/laws.heldPuzzle -/
namespace laws_heldPuzzle
@[reducible] def pa : PFn := ⟨[.agg [.row (.pair (.int .i64) (.pair (.int .i64) (.int .i64)))], .c (.int .i64)], []⟩
@[reducible] def al : Res := [⟨[.c (.int .i64)], []⟩]
noncomputable def T  : (List (Prod Int (Prod Int Int))) × Int × Unit → M (Int × Unit) := fun (a_0, k', _) =>
  .bind (.ofO (laws_heldClueS.g (a_0, k', ()))) fun (r, _) =>
  .ite (decide (r < 0))
    (.ret ((-1), ()))
    (.ret (r, ()))
noncomputable def g (v : (List (Prod Int (Prod Int Int))) × Int × Unit) : Option (Int × Unit) := (T  v).opt
noncomputable def ent : Entry := ⟨12, pa, al, g⟩
@[reducible] noncomputable def E : EC := ⟨[laws_heldClueS.ent], [], [], [], [], [], []⟩
noncomputable def H (_ : Nat) : List Lab := []
theorem ok : ent.ok PA := fn_ok E ent Tryd.f12 H ⟨laws_heldClueS.ok, trivial⟩ (by kernel_rfl) (by kernel_rfl) (by kernel_rfl) trivial (fun k => by kernel_rfl) (fun _ => trivial)
  (fun v => (M.bind_ofO_opt (T  v) (res al)).trans (by kernel_rfl))
end laws_heldPuzzle
/-! loop.example/g01394/laws.FnExactMakePuzzle -/
namespace laws_FnExactMakePuzzle
@[reducible] def pa : PFn := ⟨[.agg [.int .i64, .int .i64], .c (.int .i64), .c (.int .i64)], []⟩
@[reducible] def al : Res := [⟨[.c (.bool)], []⟩]
noncomputable def T  : Int × Int × Int × Int × Unit → M (Bool × Unit) := fun (aH_0, aH_1, aClues, aSeed, _) =>
  .bind (.ofO (spec_MakePuzzle.g (aH_0, aH_1, aClues, aSeed, ()))) fun (r, r1, _) =>
  .bind (.ofO (impl_MakePuzzle.g (aH_0, aH_1, aClues, aSeed, ()))) fun (r2, r3, _) =>
  .bind (.ofO (laws_eqPuzzle.g (r3, r, ()))) fun (r4, _) =>
  .ite (!r4)
    (.ret (false, ()))
    (.ite (!(r2 == r1))
      (.ret (false, ()))
      (.bind (.ofO (laws_markPuzzle.g (1, r3, ()))) fun (r5, r6, _) =>
      .bind (.ofO (laws_heldPuzzle.g (r6, 1, ()))) fun (r7, _) =>
      .ite (decide (r7 < 0))
        (.ret (false, ()))
        (.ite (r7 != r5)
          (.ret (false, ()))
          (.bind (.ofO (impl_MakePuzzle.g (aH_0, aH_1, aClues, aSeed, ()))) fun (r8, r9, _) =>
          .bind (.ofO (laws_eqPuzzle.g (r9, r, ()))) fun (r10, _) =>
          .ite (!r10)
            (.ret (false, ()))
            (.ite (!(r8 == r1))
              (.ret (false, ()))
              (.bind (.ofO (laws_heldPuzzle.g (r6, 1, ()))) fun (r11, _) =>
              .ite (decide (r11 < 0))
                (.ret (false, ()))
                (.ite (r11 != r5)
                  (.ret (false, ()))
                  (.ret (true, ())))))))))
noncomputable def g (v : Int × Int × Int × Int × Unit) : Option (Bool × Unit) := (T  v).opt
noncomputable def ent : Entry := ⟨3, pa, al, g⟩
@[reducible] noncomputable def E : EC := ⟨[laws_toHidden.ent, spec_MakePuzzle.ent, impl_MakePuzzle.ent, laws_eqPuzzle.ent, laws_markPuzzle.ent, laws_heldPuzzle.ent], [], [], [], [], [], [(11, 0)]⟩
noncomputable def H (_ : Nat) : List Lab := []
theorem ok : ent.ok PA := fn_ok E ent Tryd.f3 H ⟨laws_toHidden.ok, ⟨spec_MakePuzzle.ok, ⟨impl_MakePuzzle.ok, ⟨laws_eqPuzzle.ok, ⟨laws_markPuzzle.ok, ⟨laws_heldPuzzle.ok, trivial⟩⟩⟩⟩⟩⟩ (by kernel_rfl) (by kernel_rfl) (by kernel_rfl) trivial (fun k => by kernel_rfl) (fun _ => trivial)
  (fun v => (M.bind_ofO_opt (T  v) (res al)).trans (by kernel_rfl))
end laws_FnExactMakePuzzle
end Go.Proofs.YtfgkcnoiplojkaaDoor.VI
