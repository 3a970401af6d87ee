/- Functions of the program as the interpreter tells them, printed by a program of ours; each with its proof. -/
import Derived.Test.YtfgkcnoiplojkaaDoorG4
set_option maxRecDepth 100000
set_option linter.unusedVariables false
namespace Go.Proofs.YtfgkcnoiplojkaaDoor.VI
open Go
/-! loop.example/g01394/laws.FnBooksHidden -/
namespace laws_FnBooksHidden
@[reducible] def pa : PFn := ⟨[.c (.row (.int .u8)), .c (.row (.int .u8))], []⟩
@[reducible] def al : Res := [⟨[.c (.bool)], []⟩]
def p21j : PSt := ⟨470, 0, [(1, .c (.row (.int .u8))), (5, .c (.ptr 0 0)), (26, .c (.bool)), (27, .c (.bool)), (211, .c (.own 1)), (212, .c (.int .i64)), (213, .c (.int .i64))], [.cells [.int .i64, .int .i64], .arr false (.pair (.int .i64) (.pair (.int .i64) (.int .i64)))]⟩
def a21j : Exs := [(Ex.ret, ⟨470, 0, [(1, .c (.row (.int .u8))), (4, .c (.bool)), (5, .c (.ptr 0 0)), (211, .c (.own 1)), (212, .c (.int .i64)), (213, .c (.int .i64))], [.cells [.int .i64, .int .i64], .arr false (.pair (.int .i64) (.pair (.int .i64) (.int .i64)))]⟩), (Ex.normal, ⟨470, 0, [(1, .c (.row (.int .u8))), (5, .c (.ptr 0 0)), (211, .c (.own 1)), (212, .c (.int .i64)), (213, .c (.int .i64))], [.cells [.int .i64, .int .i64], .arr false (.pair (.int .i64) (.pair (.int .i64) (.int .i64)))]⟩)]
noncomputable def T21j  : (List Int) × Bool × Bool × Int × Int × Int × Int × (List (Prod Int (Prod Int Int))) × Unit → M (Sum ((List Int) × Bool × Int × Int × Int × Int × (List (Prod Int (Prod Int Int))) × Unit) ((List Int) × Int × Int × Int × Int × (List (Prod Int (Prod Int Int))) × Unit)) := fun (more9, fits, seven, t2121, t2131, b0_08, b0_18, b11, _) =>
  .ite (!seven)
    (.ret (.inl (more9, false, t2121, t2131, b0_08, b0_18, b11, ())))
    (.ite (!fits)
      (.ret (.inl (more9, false, t2121, t2131, b0_08, b0_18, b11, ())))
      (.ret (.inr ((more9, t2121, t2131, b0_08, b0_18, b11, ())))))
noncomputable def L21j (k : Nat) : (List Int) × Bool × Bool × Int × Int × Int × Int × (List (Prod Int (Prod Int Int))) × Unit → Option (Sum ((List Int) × Bool × Int × Int × Int × Int × (List (Prod Int (Prod Int Int))) × Unit) ((List Int) × Int × Int × Int × Int × (List (Prod Int (Prod Int Int))) × Unit)) := Nat.rec (fun _ => none) (fun _ _ v => (T21j  v).opt) k
def p18 : PSt := ⟨470, 0, [(1, .c (.row (.int .u8))), (5, .c (.ptr 0 0)), (211, .c (.own 1)), (212, .c (.int .i64)), (213, .c (.int .i64))], [.cells [.int .i64, .int .i64], .arr false (.pair (.int .i64) (.pair (.int .i64) (.int .i64)))]⟩
def a18 : Exs := [(Ex.ret, ⟨470, 0, [(1, .c (.row (.int .u8))), (4, .c (.bool))], []⟩), ((Ex.exit 0), ⟨470, 0, [(1, .c (.row (.int .u8)))], []⟩)]
noncomputable def T18 (o21j : (List Int) × Bool × Bool × Int × Int × Int × Int × (List (Prod Int (Prod Int Int))) × Unit → Option (Sum ((List Int) × Bool × Int × Int × Int × Int × (List (Prod Int (Prod Int Int))) × Unit) ((List Int) × Int × Int × Int × Int × (List (Prod Int (Prod Int Int))) × Unit))) (o : (List Int) × Int × Int × Int × Int × (List (Prod Int (Prod Int Int))) × Unit → Option (Sum ((List Int) × Bool × Unit) ((List Int) × Unit))) : (List Int) × Int × Int × Int × Int × (List (Prod Int (Prod Int Int))) × Unit → M (Sum ((List Int) × Bool × Unit) ((List Int) × Unit)) := fun (more8, t212, t213, b0_07, b0_17, b1, _) =>
  .ite (decide (t213 < t212))
    (.ite (inside t213 (List.length b1))
      (.bind (.ofO (b1)[(Int.toNat t213)]?) fun e =>
      .bind (.ofO (impl_DoesFit.g (e.1, e.2.1, e.2.2, b0_07, b0_17, ()))) fun (r26, r27, _) =>
      .bind (.ofO (o21j (more8, r26, r27, t212, t213, b0_07, b0_17, b1, ()))) fun q => .sum q
        (fun (more9, t4, t2121, t2131, b0_08, b0_18, b11, _) =>
        .ret (.inl (more9, t4, ())))
        (fun (more10, t2122, t2132, b0_09, b0_19, b12, _) =>
        .ofO (o (more10, t2122, (W (t2132 + 1)), b0_09, b0_19, b12, ()))))
      (.fail))
    (.ret (.inr ((more8, ()))))
noncomputable def L18 (k : Nat) : (List Int) × Int × Int × Int × Int × (List (Prod Int (Prod Int Int))) × Unit → Option (Sum ((List Int) × Bool × Unit) ((List Int) × Unit)) := Nat.rec (fun _ => none) (fun k ih v => (T18 (L21j k) ih v).opt) k
def p17j : PSt := ⟨470, 0, [(1, .c (.row (.int .u8))), (5, .c (.ptr 0 0)), (8, .c (.ptr 1 0))], [.cells [.int .i64, .int .i64], .cells [.own 2], .arr false (.pair (.int .i64) (.pair (.int .i64) (.int .i64)))]⟩
def a17j : Exs := [(Ex.ret, ⟨470, 0, [(1, .c (.row (.int .u8))), (4, .c (.bool))], []⟩), (Ex.normal, ⟨470, 0, [(1, .c (.row (.int .u8)))], []⟩)]
noncomputable def T17j (o18 : (List Int) × Int × Int × Int × Int × (List (Prod Int (Prod Int Int))) × Unit → Option (Sum ((List Int) × Bool × Unit) ((List Int) × Unit))) : (List Int) × Int × Int × (List (Prod Int (Prod Int Int))) × Unit → M (Sum ((List Int) × Bool × Unit) ((List Int) × Unit)) := fun (more7, b0_06, b0_16, b24, _) =>
  .bind (.ofO (o18 (more7, (((List.length b24) : Nat) : Int), 0, b0_06, b0_16, b24, ()))) fun q => .sum q
    (fun (more8, t4, _) =>
    .ret (.inl (more8, t4, ())))
    (fun (more9, _) =>
    .ret (.inr ((more9, ()))))
noncomputable def L17j (k : Nat) : (List Int) × Int × Int × (List (Prod Int (Prod Int Int))) × Unit → Option (Sum ((List Int) × Bool × Unit) ((List Int) × Unit)) := Nat.rec (fun _ => none) (fun k _ v => (T17j (L18 k) v).opt) k
def p15j : PSt := ⟨470, 0, [(1, .c (.row (.int .u8))), (5, .c (.ptr 0 0)), (6, .c (.int .i64)), (8, .c (.ptr 1 0)), (13, .c (.bool)), (15, .c (.bool)), (16, .c (.bool)), (17, .c (.bool)), (18, .c (.bool)), (19, .c (.bool)), (20, .c (.int .i64)), (21, .c (.bool)), (22, .c (.bool)), (23, .c (.bool))], [.cells [.int .i64, .int .i64], .cells [.own 2], .arr false (.pair (.int .i64) (.pair (.int .i64) (.int .i64)))]⟩
def a15j : Exs := [(Ex.ret, ⟨470, 0, [(1, .c (.row (.int .u8))), (4, .c (.bool))], []⟩), (Ex.normal, ⟨470, 0, [(1, .c (.row (.int .u8)))], []⟩)]
noncomputable def T15j (o17j : (List Int) × Int × Int × (List (Prod Int (Prod Int Int))) × Unit → Option (Sum ((List Int) × Bool × Unit) ((List Int) × Unit))) : (List Int) × Int × Bool × Bool × Bool × Bool × Bool × Bool × Int × Bool × Bool × Bool × Int × Int × (List (Prod Int (Prod Int Int))) × Unit → M (Sum ((List Int) × Bool × Unit) ((List Int) × Unit)) := fun (more6, clues5, one2, two2, x1, three1, y1, four1, leaf, five, z, six, b0_05, b0_15, b23, _) =>
  .bind (.ofO (impl_IsPuzzle.g (b23, ()))) fun (r25, _) =>
  .ite (!r25)
    (.ret (.inl (more6, false, ())))
    (.ite ((((List.length b23) : Nat) : Int) != clues5)
      (.ret (.inl (more6, false, ())))
      (.ite (!one2)
        (.ret (.inl (more6, false, ())))
        (.ite (!two2)
          (.ret (.inl (more6, false, ())))
          (.ite (!three1)
            (.ret (.inl (more6, false, ())))
            (.ite (!x1)
              (.ret (.inl (more6, false, ())))
              (.ite (!four1)
                (.ret (.inl (more6, false, ())))
                (.ite (!y1)
                  (.ret (.inl (more6, false, ())))
                  (.ite (!five)
                    (.ret (.inl (more6, false, ())))
                    (.ite (leaf != b0_15)
                      (.ret (.inl (more6, false, ())))
                      (.ite (!six)
                        (.ret (.inl (more6, false, ())))
                        (.ite (!z)
                          (.ret (.inl (more6, false, ())))
                          (.bind (.ofO (o17j (more6, b0_05, b0_15, b23, ()))) fun q => .sum q
                            (fun (more7, t4, _) =>
                            .ret (.inl (more7, t4, ())))
                            (fun (more8, _) =>
                            .ret (.inr ((more8, ()))))))))))))))))
noncomputable def L15j (k : Nat) : (List Int) × Int × Bool × Bool × Bool × Bool × Bool × Bool × Int × Bool × Bool × Bool × Int × Int × (List (Prod Int (Prod Int Int))) × Unit → Option (Sum ((List Int) × Bool × Unit) ((List Int) × Unit)) := Nat.rec (fun _ => none) (fun k _ v => (T15j (L17j k) v).opt) k
def p13j : PSt := ⟨470, 0, [(1, .c (.row (.int .u8))), (5, .c (.ptr 0 0)), (6, .c (.int .i64)), (8, .c (.ptr 1 0)), (12, .c (.int .i64)), (13, .c (.bool)), (14, .c (.int .i64)), (15, .c (.bool)), (16, .c (.bool)), (17, .c (.bool)), (18, .c (.bool)), (19, .c (.bool))], [.cells [.int .i64, .int .i64], .cells [.own 2], .arr false (.pair (.int .i64) (.pair (.int .i64) (.int .i64)))]⟩
def a13j : Exs := [(Ex.ret, ⟨470, 0, [(1, .c (.row (.int .u8))), (4, .c (.bool))], []⟩), (Ex.normal, ⟨470, 0, [(1, .c (.row (.int .u8)))], []⟩)]
noncomputable def T13j (o15j : (List Int) × Int × Bool × Bool × Bool × Bool × Bool × Bool × Int × Bool × Bool × Bool × Int × Int × (List (Prod Int (Prod Int Int))) × Unit → Option (Sum ((List Int) × Bool × Unit) ((List Int) × Unit))) : (List Int) × Int × Int × Bool × Int × Bool × Bool × Bool × Bool × Bool × Int × Int × (List (Prod Int (Prod Int Int))) × Unit → M (Sum ((List Int) × Bool × Unit) ((List Int) × Unit)) := fun (more5, clues4, all1, one1, both1, two1, x, three, y, four, b0_04, b0_14, b22, _) =>
  .bind (.ofO (impl_TornLeaf.g (b0_04, (W (all1 - both1)), ()))) fun (r21, r22, _) =>
  .bind (.ofO (impl_DoesFit.g (3, b0_14, 1, b0_04, b0_14, ()))) fun (r23, r24, _) =>
  .bind (.ofO (o15j (more5, clues4, one1, two1, x, three, y, four, r21, r22, r23, r24, b0_04, b0_14, b22, ()))) fun q => .sum q
    (fun (more6, t4, _) =>
    .ret (.inl (more6, t4, ())))
    (fun (more7, _) =>
    .ret (.inr ((more7, ()))))
noncomputable def L13j (k : Nat) : (List Int) × Int × Int × Bool × Int × Bool × Bool × Bool × Bool × Bool × Int × Int × (List (Prod Int (Prod Int Int))) × Unit → Option (Sum ((List Int) × Bool × Unit) ((List Int) × Unit)) := Nat.rec (fun _ => none) (fun k _ v => (T13j (L15j k) v).opt) k
def p11j : PSt := ⟨470, 0, [(1, .c (.row (.int .u8))), (5, .c (.ptr 0 0)), (6, .c (.int .i64)), (8, .c (.ptr 1 0)), (12, .c (.int .i64)), (13, .c (.bool)), (14, .c (.int .i64)), (15, .c (.bool))], [.cells [.int .i64, .int .i64], .cells [.own 2], .arr false (.pair (.int .i64) (.pair (.int .i64) (.int .i64)))]⟩
def a11j : Exs := [(Ex.ret, ⟨470, 0, [(1, .c (.row (.int .u8))), (4, .c (.bool))], []⟩), (Ex.normal, ⟨470, 0, [(1, .c (.row (.int .u8)))], []⟩)]
noncomputable def T11j (o13j : (List Int) × Int × Int × Bool × Int × Bool × Bool × Bool × Bool × Bool × Int × Int × (List (Prod Int (Prod Int Int))) × Unit → Option (Sum ((List Int) × Bool × Unit) ((List Int) × Unit))) : (List Int) × Int × Int × Bool × Int × Bool × Int × Int × (List (Prod Int (Prod Int Int))) × Unit → M (Sum ((List Int) × Bool × Unit) ((List Int) × Unit)) := fun (more4, clues3, all, one, both, two, b0_03, b0_13, b21, _) =>
  .bind (.ofO (impl_DoesFit.g (0, 0, (W (all - both)), b0_03, b0_13, ()))) fun (r17, r18, _) =>
  .bind (.ofO (impl_DoesFit.g (5, 0, both, b0_03, b0_13, ()))) fun (r19, r20, _) =>
  .bind (.ofO (o13j (more4, clues3, all, one, both, two, r17, r18, r19, r20, b0_03, b0_13, b21, ()))) fun q => .sum q
    (fun (more5, t4, _) =>
    .ret (.inl (more5, t4, ())))
    (fun (more6, _) =>
    .ret (.inr ((more6, ()))))
noncomputable def L11j (k : Nat) : (List Int) × Int × Int × Bool × Int × Bool × Int × Int × (List (Prod Int (Prod Int Int))) × Unit → Option (Sum ((List Int) × Bool × Unit) ((List Int) × Unit)) := Nat.rec (fun _ => none) (fun k _ v => (T11j (L13j k) v).opt) k
def p33j : PSt := ⟨470, 0, [(1, .c (.row (.int .u8))), (28, .c (.ptr 0 0)), (29, .c (.ptr 1 0)), (35, .c (.row (.pair (.int .i64) (.int .i64)))), (36, .c (.bool)), (37, .c (.row (.pair (.int .i64) (.int .i64)))), (38, .c (.bool))], [.cells [.row (.pair (.int .i64) (.pair (.int .i64) (.int .i64)))], .cells [.row (.pair (.int .i64) (.pair (.int .i64) (.int .i64)))]]⟩
def a33j : Exs := [(Ex.ret, ⟨470, 0, [(1, .c (.row (.int .u8))), (4, .c (.bool))], []⟩), (Ex.normal, ⟨470, 0, [(1, .c (.row (.int .u8)))], []⟩)]
noncomputable def T33j  : (List Int) × (List (Prod Int Int)) × Bool × (List (Prod Int Int)) × Bool × (List (Prod Int (Prod Int Int))) × (List (Prod Int (Prod Int Int))) × Unit → M (Sum ((List Int) × Bool × Unit) ((List Int) × Unit)) := fun (more10, x, four, y, five, b0_06, b1_02, _) =>
  .bind (.ofO (impl_NeedlessClues.g (b1_02, ()))) fun (r29, r30, _) =>
  .ite (!four)
    (.ret (.inl (more10, false, ())))
    (.ite (!five)
      (.ret (.inl (more10, false, ())))
      (.bind (.ofO (laws_xBooks.g (x, y, ()))) fun (r31, _) =>
      .ite (!r31)
        (.ret (.inl (more10, false, ())))
        (.ite (!r30)
          (.ret (.inl (more10, false, ())))
          (.ite ((((List.length r29) : Nat) : Int) != 0)
            (.ret (.inl (more10, false, ())))
            (.ite (decide ((((List.length b1_02) : Nat) : Int) > (((List.length b0_06) : Nat) : Int)))
              (.ret (.inl (more10, false, ())))
              (.ret (.inr ((more10, ())))))))))
noncomputable def L33j (k : Nat) : (List Int) × (List (Prod Int Int)) × Bool × (List (Prod Int Int)) × Bool × (List (Prod Int (Prod Int Int))) × (List (Prod Int (Prod Int Int))) × Unit → Option (Sum ((List Int) × Bool × Unit) ((List Int) × Unit)) := Nat.rec (fun _ => none) (fun _ _ v => (T33j  v).opt) k
def p51j : PSt := ⟨470, 0, [(41, .c (.ptr 0 0)), (42, .c (.ptr 1 0)), (43, .c (.ptr 2 0)), (47, .c (.ptr 3 0)), (48, .c (.int .i64)), (49, .c (.ptr 4 0)), (50, .c (.bool)), (61, .c (.ptr 5 0)), (62, .c (.bool))], [.cells [.row (.pair (.int .i64) (.pair (.int .i64) (.int .i64)))], .cells [.int .i64, .int .i64, .int .i64], .cells [.row (.pair (.int .i64) (.pair (.int .i64) (.int .i64)))], .cells [.row (.pair (.int .i64) (.pair (.int .i64) (.int .i64)))], .cells [.row (.pair (.int .i64) (.pair (.int .i64) (.int .i64)))], .cells [.row (.pair (.int .i64) (.pair (.int .i64) (.int .i64)))]]⟩
def a51j : Exs := [(Ex.ret, ⟨470, 0, [(4, .c (.bool)), (47, .c (.ptr 0 0)), (48, .c (.int .i64)), (49, .c (.ptr 1 0)), (50, .c (.bool))], [.cells [.row (.pair (.int .i64) (.pair (.int .i64) (.int .i64)))], .cells [.row (.pair (.int .i64) (.pair (.int .i64) (.int .i64)))]]⟩), (Ex.normal, ⟨470, 0, [(47, .c (.ptr 0 0)), (48, .c (.int .i64)), (49, .c (.ptr 1 0)), (50, .c (.bool))], [.cells [.row (.pair (.int .i64) (.pair (.int .i64) (.int .i64)))], .cells [.row (.pair (.int .i64) (.pair (.int .i64) (.int .i64)))]]⟩)]
noncomputable def T51j  : Int × Bool × Bool × (List (Prod Int (Prod Int Int))) × Int × Int × Int × (List (Prod Int (Prod Int Int))) × (List (Prod Int (Prod Int Int))) × (List (Prod Int (Prod Int Int))) × (List (Prod Int (Prod Int Int))) × Unit → M (Sum (Bool × Int × Bool × (List (Prod Int (Prod Int Int))) × (List (Prod Int (Prod Int Int))) × Unit) (Int × Bool × (List (Prod Int (Prod Int Int))) × (List (Prod Int (Prod Int Int))) × Unit)) := fun (k'5, six4, ten, b0_012, b1_08, b1_16, b1_26, b2_07, b3_05, b4_05, b5_03, _) =>
  .ite (!ten)
    (.ret (.inl (false, k'5, six4, b3_05, b4_05, ())))
    (.bind (.ofO (laws_xPuzzle.g (b5_03, b0_012, ()))) fun (r66, _) =>
    .ite (!r66)
      (.ret (.inl (false, k'5, six4, b3_05, b4_05, ())))
      (.bind (.ofO (b2_07)[(Int.toNat (((List.length b0_012) : Nat) : Int))]?) fun e =>
      .ite (!(eqInts [e.1, e.2.1, e.2.2] [b1_08, b1_16, b1_26]))
        (.ret (.inl (false, k'5, six4, b3_05, b4_05, ())))
        (.ret (.inr ((k'5, six4, b3_05, b4_05, ()))))))
noncomputable def L51j (k : Nat) : Int × Bool × Bool × (List (Prod Int (Prod Int Int))) × Int × Int × Int × (List (Prod Int (Prod Int Int))) × (List (Prod Int (Prod Int Int))) × (List (Prod Int (Prod Int Int))) × (List (Prod Int (Prod Int Int))) × Unit → Option (Sum (Bool × Int × Bool × (List (Prod Int (Prod Int Int))) × (List (Prod Int (Prod Int Int))) × Unit) (Int × Bool × (List (Prod Int (Prod Int Int))) × (List (Prod Int (Prod Int Int))) × Unit)) := Nat.rec (fun _ => none) (fun _ _ v => (T51j  v).opt) k
def p55j : PSt := ⟨470, 0, [(47, .c (.ptr 0 0)), (63, .c (.ptr 1 0)), (64, .c (.bool))], [.cells [.row (.pair (.int .i64) (.pair (.int .i64) (.int .i64)))], .cells [.row (.pair (.int .i64) (.pair (.int .i64) (.int .i64)))]]⟩
def a55j : Exs := [(Ex.ret, ⟨470, 0, [(4, .c (.bool))], []⟩)]
noncomputable def T55j  : Bool × (List (Prod Int (Prod Int Int))) × (List (Prod Int (Prod Int Int))) × Unit → M (Bool × Unit) := fun (ten, b0_015, b1_011, _) =>
  .ite ten
    (.ofO (laws_xPuzzle.g (b1_011, b0_015, ())))
    (.ret (false, ()))
noncomputable def L55j (k : Nat) : Bool × (List (Prod Int (Prod Int Int))) × (List (Prod Int (Prod Int Int))) × Unit → Option (Bool × Unit) := Nat.rec (fun _ => none) (fun _ _ v => (T55j  v).opt) k
def p53j : PSt := ⟨470, 0, [(47, .c (.ptr 0 0)), (48, .c (.int .i64)), (49, .c (.ptr 1 0)), (50, .c (.bool))], [.cells [.row (.pair (.int .i64) (.pair (.int .i64) (.int .i64)))], .cells [.row (.pair (.int .i64) (.pair (.int .i64) (.int .i64)))]]⟩
def a53j : Exs := [(Ex.ret, ⟨470, 0, [(4, .c (.bool))], []⟩)]
noncomputable def T53j (o55j : Bool × (List (Prod Int (Prod Int Int))) × (List (Prod Int (Prod Int Int))) × Unit → Option (Bool × Unit)) : Int × Bool × (List (Prod Int (Prod Int Int))) × (List (Prod Int (Prod Int Int))) × Unit → M (Bool × Unit) := fun (k'7, six6, b0_014, b1_010, _) =>
  .ite six6
    (.ite (k'7 == (W ((((List.length b0_014) : Nat) : Int) - 1)))
      (.ite (decide (0 ≤ k'7))
        (.bind (.ofO (b0_014)[(Int.toNat k'7)]?) fun e =>
        .bind (.ofO (impl_AddClue.g (b1_010, e.1, e.2.1, e.2.2, ()))) fun (r66, r67, _) =>
        .ofO (o55j (r67, b0_014, r66, ())))
        (.fail))
      (.ret (true, ())))
    (.ret (true, ()))
noncomputable def L53j (k : Nat) : Int × Bool × (List (Prod Int (Prod Int Int))) × (List (Prod Int (Prod Int Int))) × Unit → Option (Bool × Unit) := Nat.rec (fun _ => none) (fun k _ v => (T53j (L55j k) v).opt) k
def p49j : PSt := ⟨470, 0, [(41, .c (.ptr 0 0)), (42, .c (.ptr 1 0)), (43, .c (.ptr 2 0)), (44, .c (.bool)), (47, .c (.ptr 3 0)), (48, .c (.int .i64)), (49, .c (.ptr 4 0)), (50, .c (.bool))], [.cells [.row (.pair (.int .i64) (.pair (.int .i64) (.int .i64)))], .cells [.int .i64, .int .i64, .int .i64], .cells [.row (.pair (.int .i64) (.pair (.int .i64) (.int .i64)))], .cells [.row (.pair (.int .i64) (.pair (.int .i64) (.int .i64)))], .cells [.row (.pair (.int .i64) (.pair (.int .i64) (.int .i64)))]]⟩
def a49j : Exs := [(Ex.ret, ⟨470, 0, [(4, .c (.bool))], []⟩)]
noncomputable def T49j (o51j : Int × Bool × Bool × (List (Prod Int (Prod Int Int))) × Int × Int × Int × (List (Prod Int (Prod Int Int))) × (List (Prod Int (Prod Int Int))) × (List (Prod Int (Prod Int Int))) × (List (Prod Int (Prod Int Int))) × Unit → Option (Sum (Bool × Int × Bool × (List (Prod Int (Prod Int Int))) × (List (Prod Int (Prod Int Int))) × Unit) (Int × Bool × (List (Prod Int (Prod Int Int))) × (List (Prod Int (Prod Int Int))) × Unit))) (o53j : Int × Bool × (List (Prod Int (Prod Int Int))) × (List (Prod Int (Prod Int Int))) × Unit → Option (Bool × Unit)) : Bool × Int × Bool × (List (Prod Int (Prod Int Int))) × Int × Int × Int × (List (Prod Int (Prod Int Int))) × (List (Prod Int (Prod Int Int))) × (List (Prod Int (Prod Int Int))) × Unit → M (Bool × Unit) := fun (four5, k'4, six3, b0_011, b1_07, b1_15, b1_25, b2_06, b3_04, b4_04, _) =>
  .ite four5
    (.bind (.ofO (impl_DropClue.g (b2_06, (((List.length b0_011) : Nat) : Int), ()))) fun (r64, r65, _) =>
    .bind (.ofO (o51j (k'4, six3, r65, b0_011, b1_07, b1_15, b1_25, b2_06, b3_04, b4_04, r64, ()))) fun q => .sum q
      (fun (t42, k'5, six4, b0_012, b1_08, _) =>
      .ret (t42, ()))
      (fun (k'6, six5, b0_013, b1_09, _) =>
      .ofO (o53j (k'6, six5, b0_013, b1_09, ()))))
    (.ofO (o53j (k'4, six3, b3_04, b4_04, ())))
noncomputable def L49j (k : Nat) : Bool × Int × Bool × (List (Prod Int (Prod Int Int))) × Int × Int × Int × (List (Prod Int (Prod Int Int))) × (List (Prod Int (Prod Int Int))) × (List (Prod Int (Prod Int Int))) × Unit → Option (Bool × Unit) := Nat.rec (fun _ => none) (fun k _ v => (T49j (L51j k) (L53j k) v).opt) k
def p46j : PSt := ⟨470, 0, [(1, .c (.row (.int .u8))), (41, .c (.ptr 0 0)), (42, .c (.ptr 1 0)), (43, .c (.ptr 2 0)), (44, .c (.bool)), (45, .c (.ptr 3 0)), (46, .c (.bool)), (47, .c (.ptr 4 0)), (48, .c (.int .i64)), (49, .c (.ptr 5 0)), (50, .c (.bool)), (51, .c (.ptr 6 0)), (52, .c (.bool)), (53, .c (.ptr 7 0)), (55, .c (.bool)), (56, .c (.bool)), (57, .c (.bool)), (58, .c (.bool)), (59, .c (.ptr 8 0))], [.cells [.row (.pair (.int .i64) (.pair (.int .i64) (.int .i64)))], .cells [.int .i64, .int .i64, .int .i64], .cells [.row (.pair (.int .i64) (.pair (.int .i64) (.int .i64)))], .cells [.row (.pair (.int .i64) (.pair (.int .i64) (.int .i64)))], .cells [.row (.pair (.int .i64) (.pair (.int .i64) (.int .i64)))], .cells [.row (.pair (.int .i64) (.pair (.int .i64) (.int .i64)))], .cells [.row (.pair (.int .i64) (.pair (.int .i64) (.int .i64)))], .cells [.int .i64, .int .i64, .int .i64], .cells [.int .i64, .int .i64, .int .i64]]⟩
def a46j : Exs := [(Ex.ret, ⟨470, 0, [(4, .c (.bool))], []⟩)]
noncomputable def T46j (o49j : Bool × Int × Bool × (List (Prod Int (Prod Int Int))) × Int × Int × Int × (List (Prod Int (Prod Int Int))) × (List (Prod Int (Prod Int Int))) × (List (Prod Int (Prod Int Int))) × Unit → Option (Bool × Unit)) : (List Int) × Bool × Bool × Int × Bool × Bool × Bool × Bool × Bool × Bool × (List (Prod Int (Prod Int Int))) × Int × Int × Int × (List (Prod Int (Prod Int Int))) × (List (Prod Int (Prod Int Int))) × (List (Prod Int (Prod Int Int))) × (List (Prod Int (Prod Int Int))) × (List (Prod Int (Prod Int Int))) × Int × Int × Int × Int × Int × Int × Unit → M (Bool × Unit) := fun (more17, four4, five3, k'3, six2, seven2, fits1, eight1, due, nine, b0_010, b1_06, b1_14, b1_24, b2_05, b3_03, b4_03, b5_02, b6_02, b7_01, b7_11, b7_21, b8_01, b8_11, b8_2, _) =>
  .bind (.ofO (spec_DrawIsHidden.g (more17, ()))) fun (r55, r56, _) =>
  .ite (!(four4 == five3))
    (.ret (false, ()))
    (.bind (.ofO (laws_xPuzzle.g (b2_05, b3_03, ()))) fun (r57, _) =>
    .ite (!r57)
      (.ret (false, ()))
      (.ite (!(six2 == seven2))
        (.ret (false, ()))
        (.bind (.ofO (laws_xPuzzle.g (b5_02, b6_02, ()))) fun (r58, _) =>
        .ite (!r58)
          (.ret (false, ()))
          (.ite (!(eight1 == nine))
            (.ret (false, ()))
            (.ite (!(fits1 == due))
              (.ret (false, ()))
              (.bind (.ofO (impl_IsClue.g (b8_01, b8_11, b8_2, ()))) fun (r59, _) =>
              .bind (.ofO (spec_IsClue.g (b8_01, b8_11, b8_2, ()))) fun (r60, _) =>
              .ite (!(r59 == r60))
                (.ret (false, ()))
                (.ite eight1
                  (.bind (.ofO (impl_IsClue.g (b7_01, b7_11, b7_21, ()))) fun (r61, _) =>
                  .ite (!r61)
                    (.ret (false, ()))
                    (.bind (.ofO (impl_IsHidden.g (r55, r56, ()))) fun (r62, _) =>
                    .bind (.ofO (spec_IsHidden.g (r55, r56, ()))) fun (r63, _) =>
                    .ite (!(r62 == r63))
                      (.ret (false, ()))
                      (.ofO (o49j (four4, k'3, six2, b0_010, b1_06, b1_14, b1_24, b2_05, b4_03, b5_02, ())))))
                  (.bind (.ofO (impl_IsHidden.g (r55, r56, ()))) fun (r64, _) =>
                  .bind (.ofO (spec_IsHidden.g (r55, r56, ()))) fun (r65, _) =>
                  .ite (!(r64 == r65))
                    (.ret (false, ()))
                    (.ofO (o49j (four4, k'3, six2, b0_010, b1_06, b1_14, b1_24, b2_05, b4_03, b5_02, ())))))))))))
noncomputable def L46j (k : Nat) : (List Int) × Bool × Bool × Int × Bool × Bool × Bool × Bool × Bool × Bool × (List (Prod Int (Prod Int Int))) × Int × Int × Int × (List (Prod Int (Prod Int Int))) × (List (Prod Int (Prod Int Int))) × (List (Prod Int (Prod Int Int))) × (List (Prod Int (Prod Int Int))) × (List (Prod Int (Prod Int Int))) × Int × Int × Int × Int × Int × Int × Unit → Option (Bool × Unit) := Nat.rec (fun _ => none) (fun k _ v => (T46j (L49j k) v).opt) k
def p44j : PSt := ⟨470, 0, [(1, .c (.row (.int .u8))), (41, .c (.ptr 0 0)), (42, .c (.ptr 1 0)), (43, .c (.ptr 2 0)), (44, .c (.bool)), (45, .c (.ptr 3 0)), (46, .c (.bool)), (47, .c (.ptr 4 0)), (48, .c (.int .i64)), (49, .c (.ptr 5 0)), (50, .c (.bool)), (51, .c (.ptr 6 0)), (52, .c (.bool)), (53, .c (.ptr 7 0)), (54, .c (.ptr 8 0)), (55, .c (.bool)), (56, .c (.bool))], [.cells [.row (.pair (.int .i64) (.pair (.int .i64) (.int .i64)))], .cells [.int .i64, .int .i64, .int .i64], .cells [.row (.pair (.int .i64) (.pair (.int .i64) (.int .i64)))], .cells [.row (.pair (.int .i64) (.pair (.int .i64) (.int .i64)))], .cells [.row (.pair (.int .i64) (.pair (.int .i64) (.int .i64)))], .cells [.row (.pair (.int .i64) (.pair (.int .i64) (.int .i64)))], .cells [.row (.pair (.int .i64) (.pair (.int .i64) (.int .i64)))], .cells [.int .i64, .int .i64, .int .i64], .cells [.int .i64, .int .i64]]⟩
def a44j : Exs := [(Ex.ret, ⟨470, 0, [(4, .c (.bool))], []⟩)]
noncomputable def T44j (o46j : (List Int) × Bool × Bool × Int × Bool × Bool × Bool × Bool × Bool × Bool × (List (Prod Int (Prod Int Int))) × Int × Int × Int × (List (Prod Int (Prod Int Int))) × (List (Prod Int (Prod Int Int))) × (List (Prod Int (Prod Int Int))) × (List (Prod Int (Prod Int Int))) × (List (Prod Int (Prod Int Int))) × Int × Int × Int × Int × Int × Int × Unit → Option (Bool × Unit)) : (List Int) × Bool × Bool × Int × Bool × Bool × Bool × Bool × (List (Prod Int (Prod Int Int))) × Int × Int × Int × (List (Prod Int (Prod Int Int))) × (List (Prod Int (Prod Int Int))) × (List (Prod Int (Prod Int Int))) × (List (Prod Int (Prod Int Int))) × (List (Prod Int (Prod Int Int))) × Int × Int × Int × Int × Int × Unit → M (Bool × Unit) := fun (more16, four3, five2, k'2, six1, seven1, fits, eight, b0_09, b1_05, b1_13, b1_23, b2_04, b3_02, b4_02, b5_01, b6_01, b7_0, b7_1, b7_2, b8_0, b8_1, _) =>
  .bind (.ofO (spec_DoesFit.g (b7_0, b7_1, b7_2, b8_0, b8_1, ()))) fun (r50, r51, _) =>
  .bind (.ofO (spec_DrawIsClue.g (more16, ()))) fun (r52, r53, r54, _) =>
  .ofO (o46j (more16, four3, five2, k'2, six1, seven1, fits, eight, r50, r51, b0_09, b1_05, b1_13, b1_23, b2_04, b3_02, b4_02, b5_01, b6_01, b7_0, b7_1, b7_2, r52, r53, r54, ()))
noncomputable def L44j (k : Nat) : (List Int) × Bool × Bool × Int × Bool × Bool × Bool × Bool × (List (Prod Int (Prod Int Int))) × Int × Int × Int × (List (Prod Int (Prod Int Int))) × (List (Prod Int (Prod Int Int))) × (List (Prod Int (Prod Int Int))) × (List (Prod Int (Prod Int Int))) × (List (Prod Int (Prod Int Int))) × Int × Int × Int × Int × Int × Unit → Option (Bool × Unit) := Nat.rec (fun _ => none) (fun k _ v => (T44j (L46j k) v).opt) k
def p42j : PSt := ⟨470, 0, [(1, .c (.row (.int .u8))), (41, .c (.ptr 0 0)), (42, .c (.ptr 1 0)), (43, .c (.ptr 2 0)), (44, .c (.bool)), (45, .c (.ptr 3 0)), (46, .c (.bool)), (47, .c (.ptr 4 0)), (48, .c (.int .i64)), (49, .c (.ptr 5 0)), (50, .c (.bool)), (51, .c (.ptr 6 0)), (52, .c (.bool))], [.cells [.row (.pair (.int .i64) (.pair (.int .i64) (.int .i64)))], .cells [.int .i64, .int .i64, .int .i64], .cells [.row (.pair (.int .i64) (.pair (.int .i64) (.int .i64)))], .cells [.row (.pair (.int .i64) (.pair (.int .i64) (.int .i64)))], .cells [.row (.pair (.int .i64) (.pair (.int .i64) (.int .i64)))], .cells [.row (.pair (.int .i64) (.pair (.int .i64) (.int .i64)))], .cells [.row (.pair (.int .i64) (.pair (.int .i64) (.int .i64)))]]⟩
def a42j : Exs := [(Ex.ret, ⟨470, 0, [(4, .c (.bool))], []⟩)]
noncomputable def T42j (o44j : (List Int) × Bool × Bool × Int × Bool × Bool × Bool × Bool × (List (Prod Int (Prod Int Int))) × Int × Int × Int × (List (Prod Int (Prod Int Int))) × (List (Prod Int (Prod Int Int))) × (List (Prod Int (Prod Int Int))) × (List (Prod Int (Prod Int Int))) × (List (Prod Int (Prod Int Int))) × Int × Int × Int × Int × Int × Unit → Option (Bool × Unit)) : (List Int) × Bool × Bool × Int × Bool × Bool × (List (Prod Int (Prod Int Int))) × Int × Int × Int × (List (Prod Int (Prod Int Int))) × (List (Prod Int (Prod Int Int))) × (List (Prod Int (Prod Int Int))) × (List (Prod Int (Prod Int Int))) × (List (Prod Int (Prod Int Int))) × Unit → M (Bool × Unit) := fun (more15, four2, five1, k'1, six, seven, b0_08, b1_04, b1_12, b1_22, b2_03, b3_01, b4_01, b5_0, b6_0, _) =>
  .bind (.ofO (spec_DrawDoesFit.g (more15, ()))) fun (r43, r44, r45, r46, r47, _) =>
  .bind (.ofO (impl_DoesFit.g (r43, r44, r45, r46, r47, ()))) fun (r48, r49, _) =>
  .ofO (o44j (more15, four2, five1, k'1, six, seven, r48, r49, b0_08, b1_04, b1_12, b1_22, b2_03, b3_01, b4_01, b5_0, b6_0, r43, r44, r45, r46, r47, ()))
noncomputable def L42j (k : Nat) : (List Int) × Bool × Bool × Int × Bool × Bool × (List (Prod Int (Prod Int Int))) × Int × Int × Int × (List (Prod Int (Prod Int Int))) × (List (Prod Int (Prod Int Int))) × (List (Prod Int (Prod Int Int))) × (List (Prod Int (Prod Int Int))) × (List (Prod Int (Prod Int Int))) × Unit → Option (Bool × Unit) := Nat.rec (fun _ => none) (fun k _ v => (T42j (L44j k) v).opt) k
def p40j : PSt := ⟨470, 0, [(1, .c (.row (.int .u8))), (41, .c (.ptr 0 0)), (42, .c (.ptr 1 0)), (43, .c (.ptr 2 0)), (44, .c (.bool)), (45, .c (.ptr 3 0)), (46, .c (.bool)), (47, .c (.ptr 4 0)), (48, .c (.int .i64))], [.cells [.row (.pair (.int .i64) (.pair (.int .i64) (.int .i64)))], .cells [.int .i64, .int .i64, .int .i64], .cells [.row (.pair (.int .i64) (.pair (.int .i64) (.int .i64)))], .cells [.row (.pair (.int .i64) (.pair (.int .i64) (.int .i64)))], .cells [.row (.pair (.int .i64) (.pair (.int .i64) (.int .i64)))]]⟩
def a40j : Exs := [(Ex.ret, ⟨470, 0, [(4, .c (.bool))], []⟩)]
noncomputable def T40j (o42j : (List Int) × Bool × Bool × Int × Bool × Bool × (List (Prod Int (Prod Int Int))) × Int × Int × Int × (List (Prod Int (Prod Int Int))) × (List (Prod Int (Prod Int Int))) × (List (Prod Int (Prod Int Int))) × (List (Prod Int (Prod Int Int))) × (List (Prod Int (Prod Int Int))) × Unit → Option (Bool × Unit)) : (List Int) × Bool × Bool × Int × (List (Prod Int (Prod Int Int))) × Int × Int × Int × (List (Prod Int (Prod Int Int))) × (List (Prod Int (Prod Int Int))) × (List (Prod Int (Prod Int Int))) × Unit → M (Bool × Unit) := fun (more14, four1, five, k', b0_07, b1_03, b1_11, b1_21, b2_02, b3_0, b4_0, _) =>
  .bind (.ofO (impl_DropClue.g (b4_0, k', ()))) fun (r39, r40, _) =>
  .bind (.ofO (spec_DropClue.g (b4_0, k', ()))) fun (r41, r42, _) =>
  .ofO (o42j (more14, four1, five, k', r40, r42, b0_07, b1_03, b1_11, b1_21, b2_02, b3_0, b4_0, r39, r41, ()))
noncomputable def L40j (k : Nat) : (List Int) × Bool × Bool × Int × (List (Prod Int (Prod Int Int))) × Int × Int × Int × (List (Prod Int (Prod Int Int))) × (List (Prod Int (Prod Int Int))) × (List (Prod Int (Prod Int Int))) × Unit → Option (Bool × Unit) := Nat.rec (fun _ => none) (fun k _ v => (T40j (L42j k) v).opt) k
def p38j : PSt := ⟨470, 0, [(1, .c (.row (.int .u8))), (41, .c (.ptr 0 0)), (42, .c (.ptr 1 0)), (43, .c (.ptr 2 0)), (44, .c (.bool))], [.cells [.row (.pair (.int .i64) (.pair (.int .i64) (.int .i64)))], .cells [.int .i64, .int .i64, .int .i64], .cells [.row (.pair (.int .i64) (.pair (.int .i64) (.int .i64)))]]⟩
def a38j : Exs := [(Ex.ret, ⟨470, 0, [(4, .c (.bool))], []⟩)]
noncomputable def T38j (o40j : (List Int) × Bool × Bool × Int × (List (Prod Int (Prod Int Int))) × Int × Int × Int × (List (Prod Int (Prod Int Int))) × (List (Prod Int (Prod Int Int))) × (List (Prod Int (Prod Int Int))) × Unit → Option (Bool × Unit)) : (List Int) × Bool × (List (Prod Int (Prod Int Int))) × Int × Int × Int × (List (Prod Int (Prod Int Int))) × Unit → M (Bool × Unit) := fun (more13, four, b0_06, b1_02, b1_1, b1_2, b2_01, _) =>
  .bind (.ofO (spec_AddClue.g (b0_06, b1_02, b1_1, b1_2, ()))) fun (r35, r36, _) =>
  .bind (.ofO (spec_DrawDropClue.g (more13, ()))) fun (r37, r38, _) =>
  .ofO (o40j (more13, four, r36, r38, b0_06, b1_02, b1_1, b1_2, b2_01, r35, r37, ()))
noncomputable def L38j (k : Nat) : (List Int) × Bool × (List (Prod Int (Prod Int Int))) × Int × Int × Int × (List (Prod Int (Prod Int Int))) × Unit → Option (Bool × Unit) := Nat.rec (fun _ => none) (fun k _ v => (T38j (L40j k) v).opt) k
def p36j : PSt := ⟨470, 0, [(1, .c (.row (.int .u8)))], []⟩
def a36j : Exs := [(Ex.ret, ⟨470, 0, [(4, .c (.bool))], []⟩)]
noncomputable def T36j (o38j : (List Int) × Bool × (List (Prod Int (Prod Int Int))) × Int × Int × Int × (List (Prod Int (Prod Int Int))) × Unit → Option (Bool × Unit)) : (List Int) × Unit → M (Bool × Unit) := fun (more12, _) =>
  .bind (.ofO (spec_DrawAddClue.g (more12, ()))) fun (r29, r30, r31, r32, _) =>
  .bind (.ofO (impl_AddClue.g (r29, r30, r31, r32, ()))) fun (r33, r34, _) =>
  .ofO (o38j (more12, r34, r29, r30, r31, r32, r33, ()))
noncomputable def L36j (k : Nat) : (List Int) × Unit → Option (Bool × Unit) := Nat.rec (fun _ => none) (fun k _ v => (T36j (L38j k) v).opt) k
def p30j : PSt := ⟨470, 0, [(1, .c (.row (.int .u8))), (28, .c (.ptr 0 0)), (29, .c (.ptr 1 0)), (30, .c (.bool))], [.cells [.row (.pair (.int .i64) (.pair (.int .i64) (.int .i64)))], .cells [.row (.pair (.int .i64) (.pair (.int .i64) (.int .i64)))]]⟩
def a30j : Exs := [(Ex.ret, ⟨470, 0, [(4, .c (.bool))], []⟩)]
noncomputable def T30j (o33j : (List Int) × (List (Prod Int Int)) × Bool × (List (Prod Int Int)) × Bool × (List (Prod Int (Prod Int Int))) × (List (Prod Int (Prod Int Int))) × Unit → Option (Sum ((List Int) × Bool × Unit) ((List Int) × Unit))) (o36j : (List Int) × Unit → Option (Bool × Unit)) : (List Int) × Bool × (List (Prod Int (Prod Int Int))) × (List (Prod Int (Prod Int Int))) × Unit → M (Bool × Unit) := fun (more9, one1, b0_05, b1_01, _) =>
  .ite one1
    (.bind (.ofO (impl_Solutions.g (b0_05, ()))) fun (r25, r26, _) =>
    .bind (.ofO (impl_Solutions.g (b1_01, ()))) fun (r27, r28, _) =>
    .bind (.ofO (o33j (more9, r25, r26, r27, r28, b0_05, b1_01, ()))) fun q => .sum q
      (fun (more10, t41, _) =>
      .ret (t41, ()))
      (fun (more11, _) =>
      .ofO (o36j (more11, ()))))
    (.ofO (o36j (more9, ())))
noncomputable def L30j (k : Nat) : (List Int) × Bool × (List (Prod Int (Prod Int Int))) × (List (Prod Int (Prod Int Int))) × Unit → Option (Bool × Unit) := Nat.rec (fun _ => none) (fun k _ v => (T30j (L33j k) (L36j k) v).opt) k
def p27j : PSt := ⟨470, 0, [(1, .c (.row (.int .u8))), (28, .c (.ptr 0 0)), (29, .c (.ptr 1 0)), (30, .c (.bool)), (31, .c (.ptr 2 0)), (32, .c (.bool))], [.cells [.row (.pair (.int .i64) (.pair (.int .i64) (.int .i64)))], .cells [.row (.pair (.int .i64) (.pair (.int .i64) (.int .i64)))], .cells [.row (.pair (.int .i64) (.pair (.int .i64) (.int .i64)))]]⟩
def a27j : Exs := [(Ex.ret, ⟨470, 0, [(4, .c (.bool))], []⟩)]
noncomputable def T27j (o30j : (List Int) × Bool × (List (Prod Int (Prod Int Int))) × (List (Prod Int (Prod Int Int))) × Unit → Option (Bool × Unit)) : (List Int) × Bool × Bool × (List (Prod Int (Prod Int Int))) × (List (Prod Int (Prod Int Int))) × (List (Prod Int (Prod Int Int))) × Unit → M (Bool × Unit) := fun (more8, one, two, b0_04, b1_0, b2_0, _) =>
  .bind (.ofO (impl_IsSolved.g (b0_04, ()))) fun (r22, r23, _) =>
  .ite (!(one == two))
    (.ret (false, ()))
    (.bind (.ofO (laws_xPuzzle.g (b1_0, b2_0, ()))) fun (r24, _) =>
    .ite (!r24)
      (.ret (false, ()))
      (.ite r23
        (.ite (!(one == r22))
          (.ret (false, ()))
          (.ofO (o30j (more8, one, b0_04, b1_0, ()))))
        (.ite (!(one == false))
          (.ret (false, ()))
          (.ofO (o30j (more8, one, b0_04, b1_0, ()))))))
noncomputable def L27j (k : Nat) : (List Int) × Bool × Bool × (List (Prod Int (Prod Int Int))) × (List (Prod Int (Prod Int Int))) × (List (Prod Int (Prod Int Int))) × Unit → Option (Bool × Unit) := Nat.rec (fun _ => none) (fun k _ v => (T27j (L30j k) v).opt) k
def p25j : PSt := ⟨470, 0, [(1, .c (.row (.int .u8))), (28, .c (.ptr 0 0))], [.cells [.row (.pair (.int .i64) (.pair (.int .i64) (.int .i64)))]]⟩
def a25j : Exs := [(Ex.ret, ⟨470, 0, [(4, .c (.bool))], []⟩)]
noncomputable def T25j (o27j : (List Int) × Bool × Bool × (List (Prod Int (Prod Int Int))) × (List (Prod Int (Prod Int Int))) × (List (Prod Int (Prod Int Int))) × Unit → Option (Bool × Unit)) : (List Int) × (List (Prod Int (Prod Int Int))) × Unit → M (Bool × Unit) := fun (more7, b0_03, _) =>
  .bind (.ofO (impl_HarderPuzzle.g (b0_03, ()))) fun (r18, r19, _) =>
  .bind (.ofO (spec_HarderPuzzle.g (b0_03, ()))) fun (r20, r21, _) =>
  .ofO (o27j (more7, r19, r21, b0_03, r18, r20, ()))
noncomputable def L25j (k : Nat) : (List Int) × (List (Prod Int (Prod Int Int))) × Unit → Option (Bool × Unit) := Nat.rec (fun _ => none) (fun k _ v => (T25j (L27j k) v).opt) k
def p24j : PSt := ⟨470, 0, [(1, .c (.row (.int .u8)))], []⟩
def a24j : Exs := [(Ex.ret, ⟨470, 0, [(4, .c (.bool))], []⟩)]
noncomputable def T24j (o25j : (List Int) × (List (Prod Int (Prod Int Int))) × Unit → Option (Bool × Unit)) : (List Int) × Unit → M (Bool × Unit) := fun (more6, _) =>
  .bind (.ofO (spec_DrawHarderPuzzle.g (more6, ()))) fun (r17, _) =>
  .ofO (o25j (more6, r17, ()))
noncomputable def L24j (k : Nat) : (List Int) × Unit → Option (Bool × Unit) := Nat.rec (fun _ => none) (fun k _ v => (T24j (L25j k) v).opt) k
def p8j : PSt := ⟨470, 0, [(1, .c (.row (.int .u8))), (5, .c (.ptr 0 0)), (6, .c (.int .i64)), (8, .c (.ptr 1 0)), (9, .c (.bool))], [.cells [.int .i64, .int .i64], .cells [.own 2], .arr false (.pair (.int .i64) (.pair (.int .i64) (.int .i64)))]⟩
def a8j : Exs := [(Ex.ret, ⟨470, 0, [(1, .c (.row (.int .u8))), (4, .c (.bool))], []⟩), (Ex.ret, ⟨470, 0, [(4, .c (.bool))], []⟩)]
noncomputable def T8j (o11j : (List Int) × Int × Int × Bool × Int × Bool × Int × Int × (List (Prod Int (Prod Int Int))) × Unit → Option (Sum ((List Int) × Bool × Unit) ((List Int) × Unit))) (o24j : (List Int) × Unit → Option (Bool × Unit)) : (List Int) × Int × Bool × Int × Int × (List (Prod Int (Prod Int Int))) × Unit → M (Sum ((List Int) × Bool × Unit) (Bool × Unit)) := fun (more3, clues2, ok1, b0_02, b0_12, b2, _) =>
  .ite ok1
    (.bind (.ofO (impl_SumOfPages.g (b0_02, ()))) fun (r13, r14, _) =>
    .bind (.ofO (impl_SumOfLeaf.g (b0_12, ()))) fun (r15, r16, _) =>
    .bind (.ofO (o11j (more3, clues2, r13, r14, r15, r16, b0_02, b0_12, b2, ()))) fun q => .sum q
      (fun (more4, t4, _) =>
      .ret (.inl (more4, t4, ())))
      (fun (more5, _) =>
      .bind (.ofO (o24j (more5, ()))) fun (t41, _) =>
      .ret (.inr ((t41, ())))))
    (.bind (.ofO (o24j (more3, ()))) fun (t42, _) =>
    .ret (.inr ((t42, ()))))
noncomputable def L8j (k : Nat) : (List Int) × Int × Bool × Int × Int × (List (Prod Int (Prod Int Int))) × Unit → Option (Sum ((List Int) × Bool × Unit) (Bool × Unit)) := Nat.rec (fun _ => none) (fun k _ v => (T8j (L11j k) (L24j k) v).opt) k
def p6j : PSt := ⟨470, 0, [(1, .c (.row (.int .u8))), (5, .c (.ptr 0 0)), (6, .c (.int .i64)), (8, .c (.ptr 1 0)), (9, .c (.bool)), (10, .c (.ptr 2 0)), (11, .c (.bool))], [.cells [.int .i64, .int .i64], .cells [.own 3], .cells [.own 4], .arr false (.pair (.int .i64) (.pair (.int .i64) (.int .i64))), .arr false (.pair (.int .i64) (.pair (.int .i64) (.int .i64)))]⟩
def a6j : Exs := [(Ex.ret, ⟨470, 0, [(1, .c (.row (.int .u8))), (4, .c (.bool))], []⟩), (Ex.ret, ⟨470, 0, [(4, .c (.bool))], []⟩)]
noncomputable def T6j (o8j : (List Int) × Int × Bool × Int × Int × (List (Prod Int (Prod Int Int))) × Unit → Option (Sum ((List Int) × Bool × Unit) (Bool × Unit))) : (List Int) × Int × Bool × Bool × Int × Int × (List (Prod Int (Prod Int Int))) × (List (Prod Int (Prod Int Int))) × Unit → M (Sum ((List Int) × Bool × Unit) (Bool × Unit)) := fun (more2, clues1, ok, fine, b0_01, b0_11, b3, b4, _) =>
  .ite (!(ok == fine))
    (.ret (.inl (more2, false, ())))
    (.bind (.ofO (laws_xPuzzle.g (b3, b4, ()))) fun (r9, _) =>
    .ite (!r9)
      (.ret (.inl (more2, false, ())))
      (.ite ok
        (.bind (.ofO (impl_IsHidden.g (b0_01, b0_11, ()))) fun (r10, _) =>
        .ite (!r10)
          (.ret (.inl (more2, false, ())))
          (.bind (.ofO (impl_IsHidden.g (b0_01, b0_11, ()))) fun (r11, _) =>
          .bind (.ofO (spec_IsHidden.g (b0_01, b0_11, ()))) fun (r12, _) =>
          .ite (!(r11 == r12))
            (.ret (.inl (more2, false, ())))
            (.bind (.ofO (o8j (more2, clues1, ok, b0_01, b0_11, b3, ()))) fun q => .sum q
              (fun (more3, t4, _) =>
              .ret (.inl (more3, t4, ())))
              (fun (t41, _) =>
              .ret (.inr ((t41, ())))))))
        (.bind (.ofO (impl_IsHidden.g (b0_01, b0_11, ()))) fun (r13, _) =>
        .bind (.ofO (spec_IsHidden.g (b0_01, b0_11, ()))) fun (r14, _) =>
        .ite (!(r13 == r14))
          (.ret (.inl (more2, false, ())))
          (.bind (.ofO (o8j (more2, clues1, ok, b0_01, b0_11, b3, ()))) fun q => .sum q
            (fun (more4, t42, _) =>
            .ret (.inl (more4, t42, ())))
            (fun (t43, _) =>
            .ret (.inr ((t43, ()))))))))
noncomputable def L6j (k : Nat) : (List Int) × Int × Bool × Bool × Int × Int × (List (Prod Int (Prod Int Int))) × (List (Prod Int (Prod Int Int))) × Unit → Option (Sum ((List Int) × Bool × Unit) (Bool × Unit)) := Nat.rec (fun _ => none) (fun k _ v => (T6j (L8j k) v).opt) k
def p4j : PSt := ⟨470, 0, [(1, .c (.row (.int .u8))), (5, .c (.ptr 0 0)), (6, .c (.int .i64)), (7, .c (.int .i64))], [.cells [.int .i64, .int .i64]]⟩
def a4j : Exs := [(Ex.ret, ⟨470, 0, [(1, .c (.row (.int .u8))), (4, .c (.bool))], []⟩), (Ex.ret, ⟨470, 0, [(4, .c (.bool))], []⟩)]
noncomputable def T4j (o6j : (List Int) × Int × Bool × Bool × Int × Int × (List (Prod Int (Prod Int Int))) × (List (Prod Int (Prod Int Int))) × Unit → Option (Sum ((List Int) × Bool × Unit) (Bool × Unit))) : (List Int) × Int × Int × Int × Int × Unit → M (Sum ((List Int) × Bool × Unit) (Bool × Unit)) := fun (more1, clues, seed, b0_0, b0_1, _) =>
  .bind (.ofO (impl_MakePuzzle.g (b0_0, b0_1, clues, seed, ()))) fun (r5, r6, _) =>
  .bind (.ofO (spec_MakePuzzle.g (b0_0, b0_1, clues, seed, ()))) fun (r7, r8, _) =>
  .bind (.ofO (o6j (more1, clues, r5, r7, b0_0, b0_1, r6, r8, ()))) fun q => .sum q
    (fun (more2, t4, _) =>
    .ret (.inl (more2, t4, ())))
    (fun (t41, _) =>
    .ret (.inr ((t41, ()))))
noncomputable def L4j (k : Nat) : (List Int) × Int × Int × Int × Int × Unit → Option (Sum ((List Int) × Bool × Unit) (Bool × Unit)) := Nat.rec (fun _ => none) (fun k _ v => (T4j (L6j k) v).opt) k
noncomputable def T (o4j : (List Int) × Int × Int × Int × Int × Unit → Option (Sum ((List Int) × Bool × Unit) (Bool × Unit))) : (List Int) × (List Int) × Unit → M (Bool × Unit) := fun (code, more, _) =>
  .bind (.ofO (laws_big.g (code, more, ()))) fun (r, _) =>
  .ite r
    (.ret (true, ()))
    (.bind (.ofO (spec_DrawMakePuzzle.g (code, ()))) fun (r1, r2, r3, r4, _) =>
    .bind (.ofO (o4j (more, r3, r4, r1, r2, ()))) fun q => .sum q
      (fun (more1, t4, _) =>
      .ret (t4, ()))
      (fun (t41, _) =>
      .ret (t41, ())))
noncomputable def g (v : (List Int) × (List Int) × Unit) : Option (Bool × Unit) := (T (L4j fuel) v).opt
noncomputable def ent : Entry := ⟨4, pa, al, g⟩
@[reducible] noncomputable def E : EC := ⟨[laws_big.ent, spec_DrawMakePuzzle.ent, impl_MakePuzzle.ent, spec_MakePuzzle.ent, laws_xPuzzle.ent, impl_IsHidden.ent, spec_IsHidden.ent, impl_SumOfPages.ent, impl_SumOfLeaf.ent, impl_DoesFit.ent, impl_TornLeaf.ent, impl_IsPuzzle.ent, spec_DrawHarderPuzzle.ent, impl_HarderPuzzle.ent, spec_HarderPuzzle.ent, impl_IsSolved.ent, impl_Solutions.ent, impl_NeedlessClues.ent, laws_xBooks.ent, spec_DrawAddClue.ent, impl_AddClue.ent, spec_AddClue.ent, spec_DrawDropClue.ent, impl_DropClue.ent, spec_DropClue.ent, spec_DrawDoesFit.ent, spec_DoesFit.ent, spec_DrawIsClue.ent, spec_DrawIsHidden.ent, impl_IsClue.ent, spec_IsClue.ent], [(18, [1, 5, 211, 212, 213])], [(18, [1, 4])], [(4, [1, 5, 6, 7]), (6, [1, 5, 6, 8, 9, 10, 11]), (8, [1, 5, 6, 8, 9]), (11, [1, 5, 6, 8, 12, 13, 14, 15]), (13, [1, 5, 6, 8, 12, 13, 14, 15, 16, 17, 18, 19]), (15, [1, 5, 6, 8, 13, 15, 16, 17, 18, 19, 20, 21, 22, 23]), (17, [1, 5, 8]), (21, [1, 5, 26, 27, 211, 212, 213]), (24, [1]), (25, [1, 28]), (27, [1, 28, 29, 30, 31, 32]), (30, [1, 28, 29, 30]), (33, [1, 28, 29, 35, 36, 37, 38]), (36, [1]), (38, [1, 41, 42, 43, 44]), (40, [1, 41, 42, 43, 44, 45, 46, 47, 48]), (42, [1, 41, 42, 43, 44, 45, 46, 47, 48, 49, 50, 51, 52]), (44, [1, 41, 42, 43, 44, 45, 46, 47, 48, 49, 50, 51, 52, 53, 54, 55, 56]), (46, [1, 41, 42, 43, 44, 45, 46, 47, 48, 49, 50, 51, 52, 53, 55, 56, 57, 58, 59]), (49, [41, 42, 43, 44, 47, 48, 49, 50]), (51, [41, 42, 43, 47, 48, 49, 50, 61, 62]), (53, [47, 48, 49, 50]), (55, [47, 63, 64])], [(4, [1, 4]), (6, [1, 4]), (8, [1, 4]), (11, [1, 4]), (13, [1, 4]), (15, [1, 4]), (17, [1, 4]), (21, [1, 4, 5, 211, 212, 213]), (24, [4]), (25, [4]), (27, [4]), (30, [4]), (33, [1, 4]), (36, [4]), (38, [4]), (40, [4]), (42, [4]), (44, [4]), (46, [4]), (49, [4]), (51, [4, 47, 48, 49, 50]), (53, [4]), (55, [4])], [], []⟩
noncomputable def H (k : Nat) : List Lab := [⟨true, 21, p21j, a21j, L21j k⟩, ⟨false, 18, p18, a18, L18 k⟩, ⟨true, 17, p17j, a17j, L17j k⟩, ⟨true, 15, p15j, a15j, L15j k⟩, ⟨true, 13, p13j, a13j, L13j k⟩, ⟨true, 11, p11j, a11j, L11j k⟩, ⟨true, 33, p33j, a33j, L33j k⟩, ⟨true, 51, p51j, a51j, L51j k⟩, ⟨true, 55, p55j, a55j, L55j k⟩, ⟨true, 53, p53j, a53j, L53j k⟩, ⟨true, 49, p49j, a49j, L49j k⟩, ⟨true, 46, p46j, a46j, L46j k⟩, ⟨true, 44, p44j, a44j, L44j k⟩, ⟨true, 42, p42j, a42j, L42j k⟩, ⟨true, 40, p40j, a40j, L40j k⟩, ⟨true, 38, p38j, a38j, L38j k⟩, ⟨true, 36, p36j, a36j, L36j k⟩, ⟨true, 30, p30j, a30j, L30j k⟩, ⟨true, 27, p27j, a27j, L27j k⟩, ⟨true, 25, p25j, a25j, L25j k⟩, ⟨true, 24, p24j, a24j, L24j k⟩, ⟨true, 8, p8j, a8j, L8j k⟩, ⟨true, 6, p6j, a6j, L6j k⟩, ⟨true, 4, p4j, a4j, L4j k⟩]
theorem s21j (k : Nat) (v) : M.bind (.ofO (L21j (k + 1) v)) (exs a21j) = evStep (mkE E) (ask (H k)) true (codeAt (bodyOf Tryd.f4) true 21) (stOf p21j v) := (M.bind_ofO_opt (T21j  v) (exs a21j)).trans (by kernel_rfl)
theorem s18 (k : Nat) (v) : M.bind (.ofO (L18 (k + 1) v)) (exs a18) = evStep (mkE E) (ask (H k)) false (codeAt (bodyOf Tryd.f4) false 18) (stOf p18 v) := (M.bind_ofO_opt (T18 (L21j k) (L18 k) v) (exs a18)).trans (by kernel_rfl)
theorem s17j (k : Nat) (v) : M.bind (.ofO (L17j (k + 1) v)) (exs a17j) = evStep (mkE E) (ask (H k)) true (codeAt (bodyOf Tryd.f4) true 17) (stOf p17j v) := (M.bind_ofO_opt (T17j (L18 k) v) (exs a17j)).trans (by kernel_rfl)
theorem s15j (k : Nat) (v) : M.bind (.ofO (L15j (k + 1) v)) (exs a15j) = evStep (mkE E) (ask (H k)) true (codeAt (bodyOf Tryd.f4) true 15) (stOf p15j v) := (M.bind_ofO_opt (T15j (L17j k) v) (exs a15j)).trans (by kernel_rfl)
theorem s13j (k : Nat) (v) : M.bind (.ofO (L13j (k + 1) v)) (exs a13j) = evStep (mkE E) (ask (H k)) true (codeAt (bodyOf Tryd.f4) true 13) (stOf p13j v) := (M.bind_ofO_opt (T13j (L15j k) v) (exs a13j)).trans (by kernel_rfl)
theorem s11j (k : Nat) (v) : M.bind (.ofO (L11j (k + 1) v)) (exs a11j) = evStep (mkE E) (ask (H k)) true (codeAt (bodyOf Tryd.f4) true 11) (stOf p11j v) := (M.bind_ofO_opt (T11j (L13j k) v) (exs a11j)).trans (by kernel_rfl)
theorem s33j (k : Nat) (v) : M.bind (.ofO (L33j (k + 1) v)) (exs a33j) = evStep (mkE E) (ask (H k)) true (codeAt (bodyOf Tryd.f4) true 33) (stOf p33j v) := (M.bind_ofO_opt (T33j  v) (exs a33j)).trans (by kernel_rfl)
theorem s51j (k : Nat) (v) : M.bind (.ofO (L51j (k + 1) v)) (exs a51j) = evStep (mkE E) (ask (H k)) true (codeAt (bodyOf Tryd.f4) true 51) (stOf p51j v) := (M.bind_ofO_opt (T51j  v) (exs a51j)).trans (by kernel_rfl)
theorem s55j (k : Nat) (v) : M.bind (.ofO (L55j (k + 1) v)) (exs a55j) = evStep (mkE E) (ask (H k)) true (codeAt (bodyOf Tryd.f4) true 55) (stOf p55j v) := (M.bind_ofO_opt (T55j  v) (exs a55j)).trans (by kernel_rfl)
theorem s53j (k : Nat) (v) : M.bind (.ofO (L53j (k + 1) v)) (exs a53j) = evStep (mkE E) (ask (H k)) true (codeAt (bodyOf Tryd.f4) true 53) (stOf p53j v) := (M.bind_ofO_opt (T53j (L55j k) v) (exs a53j)).trans (by kernel_rfl)
theorem s49j (k : Nat) (v) : M.bind (.ofO (L49j (k + 1) v)) (exs a49j) = evStep (mkE E) (ask (H k)) true (codeAt (bodyOf Tryd.f4) true 49) (stOf p49j v) := (M.bind_ofO_opt (T49j (L51j k) (L53j k) v) (exs a49j)).trans (by kernel_rfl)
theorem s46j (k : Nat) (v) : M.bind (.ofO (L46j (k + 1) v)) (exs a46j) = evStep (mkE E) (ask (H k)) true (codeAt (bodyOf Tryd.f4) true 46) (stOf p46j v) := (M.bind_ofO_opt (T46j (L49j k) v) (exs a46j)).trans (by kernel_rfl)
theorem s44j (k : Nat) (v) : M.bind (.ofO (L44j (k + 1) v)) (exs a44j) = evStep (mkE E) (ask (H k)) true (codeAt (bodyOf Tryd.f4) true 44) (stOf p44j v) := (M.bind_ofO_opt (T44j (L46j k) v) (exs a44j)).trans (by kernel_rfl)
theorem s42j (k : Nat) (v) : M.bind (.ofO (L42j (k + 1) v)) (exs a42j) = evStep (mkE E) (ask (H k)) true (codeAt (bodyOf Tryd.f4) true 42) (stOf p42j v) := (M.bind_ofO_opt (T42j (L44j k) v) (exs a42j)).trans (by kernel_rfl)
theorem s40j (k : Nat) (v) : M.bind (.ofO (L40j (k + 1) v)) (exs a40j) = evStep (mkE E) (ask (H k)) true (codeAt (bodyOf Tryd.f4) true 40) (stOf p40j v) := (M.bind_ofO_opt (T40j (L42j k) v) (exs a40j)).trans (by kernel_rfl)
theorem s38j (k : Nat) (v) : M.bind (.ofO (L38j (k + 1) v)) (exs a38j) = evStep (mkE E) (ask (H k)) true (codeAt (bodyOf Tryd.f4) true 38) (stOf p38j v) := (M.bind_ofO_opt (T38j (L40j k) v) (exs a38j)).trans (by kernel_rfl)
theorem s36j (k : Nat) (v) : M.bind (.ofO (L36j (k + 1) v)) (exs a36j) = evStep (mkE E) (ask (H k)) true (codeAt (bodyOf Tryd.f4) true 36) (stOf p36j v) := (M.bind_ofO_opt (T36j (L38j k) v) (exs a36j)).trans (by kernel_rfl)
theorem s30j (k : Nat) (v) : M.bind (.ofO (L30j (k + 1) v)) (exs a30j) = evStep (mkE E) (ask (H k)) true (codeAt (bodyOf Tryd.f4) true 30) (stOf p30j v) := (M.bind_ofO_opt (T30j (L33j k) (L36j k) v) (exs a30j)).trans (by kernel_rfl)
theorem s27j (k : Nat) (v) : M.bind (.ofO (L27j (k + 1) v)) (exs a27j) = evStep (mkE E) (ask (H k)) true (codeAt (bodyOf Tryd.f4) true 27) (stOf p27j v) := (M.bind_ofO_opt (T27j (L30j k) v) (exs a27j)).trans (by kernel_rfl)
theorem s25j (k : Nat) (v) : M.bind (.ofO (L25j (k + 1) v)) (exs a25j) = evStep (mkE E) (ask (H k)) true (codeAt (bodyOf Tryd.f4) true 25) (stOf p25j v) := (M.bind_ofO_opt (T25j (L27j k) v) (exs a25j)).trans (by kernel_rfl)
theorem s24j (k : Nat) (v) : M.bind (.ofO (L24j (k + 1) v)) (exs a24j) = evStep (mkE E) (ask (H k)) true (codeAt (bodyOf Tryd.f4) true 24) (stOf p24j v) := (M.bind_ofO_opt (T24j (L25j k) v) (exs a24j)).trans (by kernel_rfl)
theorem s8j (k : Nat) (v) : M.bind (.ofO (L8j (k + 1) v)) (exs a8j) = evStep (mkE E) (ask (H k)) true (codeAt (bodyOf Tryd.f4) true 8) (stOf p8j v) := (M.bind_ofO_opt (T8j (L11j k) (L24j k) v) (exs a8j)).trans (by kernel_rfl)
theorem s6j (k : Nat) (v) : M.bind (.ofO (L6j (k + 1) v)) (exs a6j) = evStep (mkE E) (ask (H k)) true (codeAt (bodyOf Tryd.f4) true 6) (stOf p6j v) := (M.bind_ofO_opt (T6j (L8j k) v) (exs a6j)).trans (by kernel_rfl)
theorem s4j (k : Nat) (v) : M.bind (.ofO (L4j (k + 1) v)) (exs a4j) = evStep (mkE E) (ask (H k)) true (codeAt (bodyOf Tryd.f4) true 4) (stOf p4j v) := (M.bind_ofO_opt (T4j (L6j k) v) (exs a4j)).trans (by kernel_rfl)
theorem ok : ent.ok PA := fn_ok E ent Tryd.f4 H ⟨laws_big.ok, ⟨spec_DrawMakePuzzle.ok, ⟨impl_MakePuzzle.ok, ⟨spec_MakePuzzle.ok, ⟨laws_xPuzzle.ok, ⟨impl_IsHidden.ok, ⟨spec_IsHidden.ok, ⟨impl_SumOfPages.ok, ⟨impl_SumOfLeaf.ok, ⟨impl_DoesFit.ok, ⟨impl_TornLeaf.ok, ⟨impl_IsPuzzle.ok, ⟨spec_DrawHarderPuzzle.ok, ⟨impl_HarderPuzzle.ok, ⟨spec_HarderPuzzle.ok, ⟨impl_IsSolved.ok, ⟨impl_Solutions.ok, ⟨impl_NeedlessClues.ok, ⟨laws_xBooks.ok, ⟨spec_DrawAddClue.ok, ⟨impl_AddClue.ok, ⟨spec_AddClue.ok, ⟨spec_DrawDropClue.ok, ⟨impl_DropClue.ok, ⟨spec_DropClue.ok, ⟨spec_DrawDoesFit.ok, ⟨spec_DoesFit.ok, ⟨spec_DrawIsClue.ok, ⟨spec_DrawIsHidden.ok, ⟨impl_IsClue.ok, ⟨spec_IsClue.ok, trivial⟩⟩⟩⟩⟩⟩⟩⟩⟩⟩⟩⟩⟩⟩⟩⟩⟩⟩⟩⟩⟩⟩⟩⟩⟩⟩⟩⟩⟩⟩⟩ (by kernel_rfl) (by kernel_rfl) (by kernel_rfl) ⟨fun _ => rfl, ⟨fun _ => rfl, ⟨fun _ => rfl, ⟨fun _ => rfl, ⟨fun _ => rfl, ⟨fun _ => rfl, ⟨fun _ => rfl, ⟨fun _ => rfl, ⟨fun _ => rfl, ⟨fun _ => rfl, ⟨fun _ => rfl, ⟨fun _ => rfl, ⟨fun _ => rfl, ⟨fun _ => rfl, ⟨fun _ => rfl, ⟨fun _ => rfl, ⟨fun _ => rfl, ⟨fun _ => rfl, ⟨fun _ => rfl, ⟨fun _ => rfl, ⟨fun _ => rfl, ⟨fun _ => rfl, ⟨fun _ => rfl, ⟨fun _ => rfl, trivial⟩⟩⟩⟩⟩⟩⟩⟩⟩⟩⟩⟩⟩⟩⟩⟩⟩⟩⟩⟩⟩⟩⟩⟩ (fun k => by kernel_rfl) (fun k => ⟨s21j k, ⟨s18 k, ⟨s17j k, ⟨s15j k, ⟨s13j k, ⟨s11j k, ⟨s33j k, ⟨s51j k, ⟨s55j k, ⟨s53j k, ⟨s49j k, ⟨s46j k, ⟨s44j k, ⟨s42j k, ⟨s40j k, ⟨s38j k, ⟨s36j k, ⟨s30j k, ⟨s27j k, ⟨s25j k, ⟨s24j k, ⟨s8j k, ⟨s6j k, ⟨s4j k, trivial⟩⟩⟩⟩⟩⟩⟩⟩⟩⟩⟩⟩⟩⟩⟩⟩⟩⟩⟩⟩⟩⟩⟩⟩)
  (fun v => (M.bind_ofO_opt (T (L4j fuel) v) (res al)).trans (by kernel_rfl))
end laws_FnBooksHidden
end Go.Proofs.YtfgkcnoiplojkaaDoor.VI
