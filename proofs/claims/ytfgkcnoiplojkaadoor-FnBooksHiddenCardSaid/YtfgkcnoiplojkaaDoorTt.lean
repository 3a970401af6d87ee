/- The types of the program that the interpreter is told: each entry is the program's (printed by GenT). -/
import Derived.Test.YtfgkcnoiplojkaaDoorProg
import Derived.Test.YtfgkcnoiplojkaaDoorVy
import Derived.KernelRfl
set_option maxRecDepth 100000
namespace Go.Proofs.YtfgkcnoiplojkaaDoor.VI
open Go

def tdI (k : IntKind) : TD := ⟨1, false, some [.v (.int k 0)], .int k⟩
def tdB : TD := ⟨1, false, some [.v (.bool false)], .bool⟩
def tdS : TD := ⟨1, false, some [.v (.string ⟨#[]⟩)], .str⟩
def tdL (b : Nat) (z : List Cell) (ty : Ty) : TD := ⟨1, false, some [.row ty []], .slice b z ty⟩
def tdT (z : List Cell) (fs : List (Nat × Nat × Bool)) : TD := ⟨z.length, true, some z, .struct fs⟩
def tdO (n : Nat) (z : Option (List Cell)) : TD := ⟨n, false, z, .other⟩
def tdA (sz n : Nat) (z : List Cell) (ty : Ty) : TD := ⟨sz, true, none, .array n z ty⟩

theorem tdOf {P : Program} {t : TypeId} {td : TD} {d : TypeDesc} {sz : Nat} {z : Value} (hi : (P.info? t).map (fun i => (i.size, i.zero)) = some (sz, some z)) (hu : P.underlying t = some d) (hs : td.size = sz) (ha : isAggD d = td.agg)
    (hz : ∀ c, td.zero = some c → ZeroR c z.cells.toList ∧ td.size = c.length) (hk : KindOK P (some z) td.kind d) : TDok P t td := by
  simp only [Option.map_eq_some_iff] at hi
  obtain ⟨i, h1, h2⟩ := hi
  obtain ⟨h3, h4⟩ := Prod.mk.inj h2
  exact ⟨i, d, h1, hu, by rw [h3, hs], ha, fun c hc => ⟨z, h4, hz c hc⟩, by rw [h4]; exact hk⟩

theorem z1 {v : Value} (h : oneCell v = true) : ZeroR [.v v] [v] := .cons (.inl ⟨rfl, h⟩) .nil
theorem zrow (ty : Ty) : ZeroR [.row ty []] [.slice none 0 0] := .cons (.inr ⟨ty, rfl, rfl⟩) .nil

section
variable {P : Program} {t : TypeId}
theorem okI {k : IntKind} (h1 : (P.info? t).map (fun i => (i.size, i.zero)) = some (1, some (.int k 0))) (h2 : P.underlying t = some (.int k)) : TDok P t (tdI k) :=
  tdOf h1 h2 rfl rfl (fun c h => by cases h; exact ⟨z1 rfl, rfl⟩) rfl
theorem okB (h1 : (P.info? t).map (fun i => (i.size, i.zero)) = some (1, some (.bool false))) (h2 : P.underlying t = some .bool) : TDok P t tdB :=
  tdOf h1 h2 rfl rfl (fun c h => by cases h; exact ⟨z1 rfl, rfl⟩) rfl
theorem okS (h1 : (P.info? t).map (fun i => (i.size, i.zero)) = some (1, some (.string ⟨#[]⟩))) (h2 : P.underlying t = some .string) : TDok P t tdS :=
  tdOf h1 h2 rfl rfl (fun c h => by cases h; exact ⟨z1 rfl, rfl⟩) rfl

theorem kSlice {e : TypeId} {eb : Nat} {ez : List Cell} {ty : Ty} {z : Option Value} {ze : Value} (hi : (P.info? e).map (fun i => (i.size, i.bytes, i.zero)) = some (ty.size, eb, some ze)) (h0 : eb ≠ 0) (hz : ZeroR ez ze.cells.toList) (hs : ze.cells.size = ty.size)
    (hk : ∀ k, ty = .int k → P.underlying e = some (.int k)) : KindOK P z (.slice eb ez ty) (.slice e) := by
  simp only [Option.map_eq_some_iff] at hi
  obtain ⟨i, h1, h2⟩ := hi
  obtain ⟨h3, h4⟩ := Prod.mk.inj h2
  obtain ⟨h5, h6⟩ := Prod.mk.inj h4
  exact ⟨e, i, ze, rfl, h1, h3, h5, h0, h6, hz, hs, hk⟩

theorem okL {e : TypeId} {eb : Nat} {ez : List Cell} {ty : Ty} {ze : Value} (h1 : (P.info? t).map (fun i => (i.size, i.zero)) = some (1, some (.slice none 0 0))) (h2 : P.underlying t = some (.slice e))
    (hi : (P.info? e).map (fun i => (i.size, i.bytes, i.zero)) = some (ty.size, eb, some ze)) (h0 : eb ≠ 0) (hz : ZeroR ez ze.cells.toList) (hs : ze.cells.size = ty.size) (hk : ∀ k, ty = .int k → P.underlying e = some (.int k)) : TDok P t (tdL eb ez ty) :=
  tdOf h1 h2 rfl rfl (fun c h => by cases h; exact ⟨zrow _, rfl⟩) (kSlice hi h0 hz hs hk)

def structView (P : Program) : TypeDesc → Option (List (Option (Nat × Nat × Bool)))
  | .struct fields => some (fields.toList.map fun fd => (P.info? fd.type).bind fun i => (P.underlying fd.type).map fun dd => (fd.offset, i.size, isAggD dd))
  | _ => none

theorem okT {cs : List Cell} {fs : List (Nat × Nat × Bool)} {z : Value} (hv : (P.underlying t).bind (structView P) = some (fs.map some)) (hn : (fs.all fun f => !Nat.beq f.2.1 0) = true)
    (hi : (P.info? t).map (fun i => (i.size, i.zero)) = some (cs.length, some z)) (hz : ZeroR cs z.cells.toList) : TDok P t (tdT cs fs) := by
  simp only [Option.bind_eq_some_iff] at hv
  obtain ⟨d, hd, hv⟩ := hv
  unfold structView at hv
  split at hv
  · rename_i fields
    have hl := Option.some.inj hv
    refine tdOf (d := .struct fields) hi hd rfl rfl (fun c h => by cases h; exact ⟨hz, rfl⟩) ?_
    refine ⟨fields, rfl, by simpa using congrArg List.length hl, fun k f hf => ?_⟩
    have h1 : (fs.map some)[k]? = some (some f) := by rw [List.getElem?_map, hf]; rfl
    rw [← hl, List.getElem?_map, Option.map_eq_some_iff] at h1
    obtain ⟨fd, h2, h3⟩ := h1
    simp only [Option.bind_eq_some_iff, Option.map_eq_some_iff] at h3
    obtain ⟨i, h4, dd, h5, h6⟩ := h3
    subst h6
    have h7 := List.all_eq_true.1 hn _ (List.mem_of_getElem? hf)
    refine ⟨fd, i, dd, by simpa using h2, rfl, h4, rfl, fun e => ?_, h5, rfl⟩
    simp [e] at h7
  · cases hv

theorem okO {sz : Nat} {z : Value} {tz : Option (List Cell)} (hi : (P.info? t).map (fun i => (i.size, i.zero)) = some (sz, some z)) (hu : (P.underlying t).map isAggD = some false) (hz : ∀ c, tz = some c → ZeroR c z.cells.toList ∧ sz = c.length) :
    TDok P t (tdO sz tz) := by
  simp only [Option.map_eq_some_iff] at hu
  obtain ⟨d, h1, h2⟩ := hu
  exact tdOf hi h1 rfl h2 hz trivial

theorem okA {e : TypeId} {n sz : Nat} {ez : List Cell} {ty : Ty} {zc : List Value} (h1 : (P.info? t).map (fun i => i.size) = some sz) (h2 : P.underlying t = some (.array n e)) (he : (P.info? e).map (fun i => i.size) = some ty.size)
    (hz : (P.info? t).bind (fun i => i.zero.map fun v => v.cells.toList) = some (List.replicate n zc).flatten) (hc : ZeroR ez zc) : TDok P t (tdA sz n ez ty) := by
  simp only [Option.map_eq_some_iff] at h1 he
  obtain ⟨i, hi, hs⟩ := h1
  obtain ⟨ie, hie, hse⟩ := he
  rw [hi] at hz
  simp only [Option.bind_some, Option.map_eq_some_iff] at hz
  obtain ⟨v, hv, hvc⟩ := hz
  exact ⟨i, _, hi, h2, hs, rfl, (fun c h => by cases h), e, ie, v, zc, rfl, hie, hse, hv, hvc, hc⟩
end

noncomputable abbrev PA : Program := Tryd.prog

def TDoks (P : Program) : Tab TD → Prop
  | [] => True
  | p :: r => TDok P p.1 p.2 ∧ TDoks P r

theorem TDoks.get {P : Program} : ∀ {l : Tab TD}, TDoks P l → ∀ t td, l.get t = some td → TDok P t td
  | [], _, t, td, h => by cases h
  | (j, x) :: r, hl, t, td, h => by
    simp only [Tab.get] at h
    cases hb : Nat.beq t j with
    | true => rw [hb] at h; obtain rfl := Option.some.inj h; rw [Nat.eq_of_beq_eq_true hb]; exact hl.1
    | false => rw [hb] at h; exact hl.2.get t td h

def ttab : Tab TD := [(2, tdI .i64),
  (3, tdI .i64),
  (4, tdB),
  (5, tdI .u8),
  (9, tdS),
  (24, tdL 24 [.v (.int .i64 0), .v (.int .i64 0), .v (.int .i64 0)] (.pair (.int .i64) (.pair (.int .i64) (.int .i64)))),
  (34, tdL 1 [.v (.int .u8 0)] (.int .u8)),
  (50, tdL 16 [.v (.int .i64 0), .v (.int .i64 0)] (.pair (.int .i64) (.int .i64))),
  (53, tdL 8 [.v (.int .i64 0)] (.int .i64)),
  (90, tdL 16 [.v (.int .i64 0), .v (.int .i64 0)] (.pair (.int .i64) (.int .i64))),
  (162, tdL 1 [.v (.bool false)] .bool),
  (179, tdL 24 [.row (.int .i64) []] (.row (.int .i64))),
  (187, tdL 16 [.v (.string ⟨#[]⟩)] .str),
  (21, tdI .i32),
  (22, tdT [.v (.int .i64 0), .v (.int .i64 0)] [(0, 1, false), (1, 1, false)]),
  (23, tdT [.v (.int .i64 0), .v (.int .i64 0)] [(0, 1, false), (1, 1, false)]),
  (25, tdT [.row (.pair (.int .i64) (.pair (.int .i64) (.int .i64))) []] [(0, 1, false)]),
  (26, tdT [.row (.pair (.int .i64) (.pair (.int .i64) (.int .i64))) []] [(0, 1, false)]),
  (29, tdT [.v (.int .i64 0), .v (.int .i64 0)] [(0, 1, false), (1, 1, false)]),
  (43, tdT [.v (.int .i64 0), .v (.int .i64 0), .v (.int .i64 0)] [(0, 1, false), (1, 1, false), (2, 1, false)]),
  (44, tdT [.v (.int .i64 0), .v (.int .i64 0), .v (.int .i64 0)] [(0, 1, false), (1, 1, false), (2, 1, false)]),
  (103, tdT [.v (.int .i64 0), .v (.int .i64 0)] [(0, 1, false), (1, 1, false)]),
  (104, tdT [.v (.int .i64 0), .v (.int .i64 0)] [(0, 1, false), (1, 1, false)]),
  (119, tdO 1 none),
  (120, tdI .u64),
  (121, tdT [.row (.int .u8) [], .v (.int .i64 0), .v (.int .u64 0)] [(0, 1, false), (1, 1, false), (2, 1, false)]),
  (122, tdT [.row (.int .u8) [], .v (.int .i64 0), .v (.int .u64 0)] [(0, 1, false), (1, 1, false), (2, 1, false)]),
  (147, tdA 8 8 [.v (.int .i64 0)] (.int .i64)),
  (148, tdA 8 8 [.v (.int .i64 0)] (.int .i64)),
  (156, tdO 1 none),
  (157, tdA 2001 2001 [.v (.bool false)] .bool),
  (158, tdA 2001 2001 [.v (.bool false)] .bool),
  (165, tdA 2 2 [.v (.int .i64 0)] (.int .i64)),
  (190, tdI .u64),
  (195, tdI .i64),
  (198, tdO 1 none),
  (201, tdA 24 24 [.v (.int .u8 0)] (.int .u8)),
  (212, tdA 20 20 [.v (.int .u64 0)] (.int .u64)),
  (213, tdI .u32),
  (214, tdA 65 65 [.v (.int .u8 0)] (.int .u8)),
  (220, tdO 1 none),
  (221, tdO 1 none),
  (222, tdT [.v (.string ⟨#[]⟩)] [(0, 1, false)]),
  (223, tdT [.v (.string ⟨#[]⟩)] [(0, 1, false)]),
  (225, tdA 32 32 [.v (.int .u8 0)] (.int .u8)),
  (226, tdA 64 64 [.v (.int .u8 0)] (.int .u8)),
  (233, tdI .u8),
  (234, tdI .u8),
  (236, tdI .i32),
  (237, tdI .i32)]
def ttA (t : Nat) : Option TD := ttab.get t
theorem ok2 : TDok PA 2 (tdI .i64) := okI (by kernel_rfl) (by kernel_rfl) -- int64
theorem ok3 : TDok PA 3 (tdI .i64) := okI (by kernel_rfl) (by kernel_rfl) -- int
theorem ok4 : TDok PA 4 (tdB) := okB (by kernel_rfl) (by kernel_rfl) -- bool
theorem ok5 : TDok PA 5 (tdI .u8) := okI (by kernel_rfl) (by kernel_rfl) -- uint8
theorem ok9 : TDok PA 9 (tdS) := okS (by kernel_rfl) (by kernel_rfl) -- string
theorem ok24 : TDok PA 24 (tdL 24 [.v (.int .i64 0), .v (.int .i64 0), .v (.int .i64 0)] (.pair (.int .i64) (.pair (.int .i64) (.int .i64)))) := okL (e := 44) (ze := .agg #[.int .i64 0, .int .i64 0, .int .i64 0]) (by kernel_rfl) (by kernel_rfl) (by kernel_rfl) (by decide) (.cons (.inl ⟨rfl, rfl⟩) (.cons (.inl ⟨rfl, rfl⟩) (.cons (.inl ⟨rfl, rfl⟩) .nil))) rfl (fun k h => by cases h) -- []impl.Clue
theorem ok34 : TDok PA 34 (tdL 1 [.v (.int .u8 0)] (.int .u8)) := okL (e := 5) (ze := .int .u8 0) (by kernel_rfl) (by kernel_rfl) (by kernel_rfl) (by decide) (.cons (.inl ⟨rfl, rfl⟩) .nil) rfl (fun k h => by cases h; kernel_rfl) -- []uint8
theorem ok50 : TDok PA 50 (tdL 16 [.v (.int .i64 0), .v (.int .i64 0)] (.pair (.int .i64) (.int .i64))) := okL (e := 29) (ze := .agg #[.int .i64 0, .int .i64 0]) (by kernel_rfl) (by kernel_rfl) (by kernel_rfl) (by decide) (.cons (.inl ⟨rfl, rfl⟩) (.cons (.inl ⟨rfl, rfl⟩) .nil)) rfl (fun k h => by cases h) -- []impl.Hidden
theorem ok53 : TDok PA 53 (tdL 8 [.v (.int .i64 0)] (.int .i64)) := okL (e := 3) (ze := .int .i64 0) (by kernel_rfl) (by kernel_rfl) (by kernel_rfl) (by decide) (.cons (.inl ⟨rfl, rfl⟩) .nil) rfl (fun k h => by cases h; kernel_rfl) -- []int
theorem ok90 : TDok PA 90 (tdL 16 [.v (.int .i64 0), .v (.int .i64 0)] (.pair (.int .i64) (.int .i64))) := okL (e := 104) (ze := .agg #[.int .i64 0, .int .i64 0]) (by kernel_rfl) (by kernel_rfl) (by kernel_rfl) (by decide) (.cons (.inl ⟨rfl, rfl⟩) (.cons (.inl ⟨rfl, rfl⟩) .nil)) rfl (fun k h => by cases h) -- []impl.Range
theorem ok162 : TDok PA 162 (tdL 1 [.v (.bool false)] .bool) := okL (e := 4) (ze := .bool false) (by kernel_rfl) (by kernel_rfl) (by kernel_rfl) (by decide) (.cons (.inl ⟨rfl, rfl⟩) .nil) rfl (fun k h => by cases h) -- []bool
theorem ok179 : TDok PA 179 (tdL 24 [.row (.int .i64) []] (.row (.int .i64))) := okL (e := 53) (ze := .slice none 0 0) (by kernel_rfl) (by kernel_rfl) (by kernel_rfl) (by decide) (.cons (.inr ⟨_, rfl, rfl⟩) .nil) rfl (fun k h => by cases h) -- [][]int
theorem ok187 : TDok PA 187 (tdL 16 [.v (.string ⟨#[]⟩)] .str) := okL (e := 9) (ze := .string ⟨#[]⟩) (by kernel_rfl) (by kernel_rfl) (by kernel_rfl) (by decide) (.cons (.inl ⟨rfl, rfl⟩) .nil) rfl (fun k h => by cases h) -- []string
theorem ok21 : TDok PA 21 (tdI .i32) := okI (by kernel_rfl) (by kernel_rfl) -- int32
theorem ok22 : TDok PA 22 (tdT [.v (.int .i64 0), .v (.int .i64 0)] [(0, 1, false), (1, 1, false)]) := okT (z := .agg #[.int .i64 0, .int .i64 0]) (by kernel_rfl) (by decide) (by kernel_rfl) (.cons (.inl ⟨rfl, rfl⟩) (.cons (.inl ⟨rfl, rfl⟩) .nil)) -- struct { Pages int; Leaf int }
theorem ok23 : TDok PA 23 (tdT [.v (.int .i64 0), .v (.int .i64 0)] [(0, 1, false), (1, 1, false)]) := okT (z := .agg #[.int .i64 0, .int .i64 0]) (by kernel_rfl) (by decide) (by kernel_rfl) (.cons (.inl ⟨rfl, rfl⟩) (.cons (.inl ⟨rfl, rfl⟩) .nil)) -- laws.Hidden
theorem ok25 : TDok PA 25 (tdT [.row (.pair (.int .i64) (.pair (.int .i64) (.int .i64))) []] [(0, 1, false)]) := okT (z := .agg #[.slice none 0 0]) (by kernel_rfl) (by decide) (by kernel_rfl) (.cons (.inr ⟨_, rfl, rfl⟩) .nil) -- struct { Clues []impl.Clue }
theorem ok26 : TDok PA 26 (tdT [.row (.pair (.int .i64) (.pair (.int .i64) (.int .i64))) []] [(0, 1, false)]) := okT (z := .agg #[.slice none 0 0]) (by kernel_rfl) (by decide) (by kernel_rfl) (.cons (.inr ⟨_, rfl, rfl⟩) .nil) -- impl.Puzzle
theorem ok29 : TDok PA 29 (tdT [.v (.int .i64 0), .v (.int .i64 0)] [(0, 1, false), (1, 1, false)]) := okT (z := .agg #[.int .i64 0, .int .i64 0]) (by kernel_rfl) (by decide) (by kernel_rfl) (.cons (.inl ⟨rfl, rfl⟩) (.cons (.inl ⟨rfl, rfl⟩) .nil)) -- impl.Hidden
theorem ok43 : TDok PA 43 (tdT [.v (.int .i64 0), .v (.int .i64 0), .v (.int .i64 0)] [(0, 1, false), (1, 1, false), (2, 1, false)]) := okT (z := .agg #[.int .i64 0, .int .i64 0, .int .i64 0]) (by kernel_rfl) (by decide) (by kernel_rfl) (.cons (.inl ⟨rfl, rfl⟩) (.cons (.inl ⟨rfl, rfl⟩) (.cons (.inl ⟨rfl, rfl⟩) .nil))) -- struct { Kind int; A int; B int }
theorem ok44 : TDok PA 44 (tdT [.v (.int .i64 0), .v (.int .i64 0), .v (.int .i64 0)] [(0, 1, false), (1, 1, false), (2, 1, false)]) := okT (z := .agg #[.int .i64 0, .int .i64 0, .int .i64 0]) (by kernel_rfl) (by decide) (by kernel_rfl) (.cons (.inl ⟨rfl, rfl⟩) (.cons (.inl ⟨rfl, rfl⟩) (.cons (.inl ⟨rfl, rfl⟩) .nil))) -- impl.Clue
theorem ok103 : TDok PA 103 (tdT [.v (.int .i64 0), .v (.int .i64 0)] [(0, 1, false), (1, 1, false)]) := okT (z := .agg #[.int .i64 0, .int .i64 0]) (by kernel_rfl) (by decide) (by kernel_rfl) (.cons (.inl ⟨rfl, rfl⟩) (.cons (.inl ⟨rfl, rfl⟩) .nil)) -- struct { From int; To int }
theorem ok104 : TDok PA 104 (tdT [.v (.int .i64 0), .v (.int .i64 0)] [(0, 1, false), (1, 1, false)]) := okT (z := .agg #[.int .i64 0, .int .i64 0]) (by kernel_rfl) (by decide) (by kernel_rfl) (.cons (.inl ⟨rfl, rfl⟩) (.cons (.inl ⟨rfl, rfl⟩) .nil)) -- impl.Range
theorem ok119 : TDok PA 119 (tdO 1 none) := okO (z := .pointer none) (by kernel_rfl) (by kernel_rfl) (fun c h => by cases h) -- *spec.l1Cur
theorem ok120 : TDok PA 120 (tdI .u64) := okI (by kernel_rfl) (by kernel_rfl) -- uint64
theorem ok121 : TDok PA 121 (tdT [.row (.int .u8) [], .v (.int .i64 0), .v (.int .u64 0)] [(0, 1, false), (1, 1, false), (2, 1, false)]) := okT (z := .agg #[.slice none 0 0, .int .i64 0, .int .u64 0]) (by kernel_rfl) (by decide) (by kernel_rfl) (.cons (.inr ⟨_, rfl, rfl⟩) (.cons (.inl ⟨rfl, rfl⟩) (.cons (.inl ⟨rfl, rfl⟩) .nil))) -- struct { code []uint8; at int; seed uint64 }
theorem ok122 : TDok PA 122 (tdT [.row (.int .u8) [], .v (.int .i64 0), .v (.int .u64 0)] [(0, 1, false), (1, 1, false), (2, 1, false)]) := okT (z := .agg #[.slice none 0 0, .int .i64 0, .int .u64 0]) (by kernel_rfl) (by decide) (by kernel_rfl) (.cons (.inr ⟨_, rfl, rfl⟩) (.cons (.inl ⟨rfl, rfl⟩) (.cons (.inl ⟨rfl, rfl⟩) .nil))) -- spec.l1Cur
theorem ok147 : TDok PA 147 (tdA 8 8 [.v (.int .i64 0)] (.int .i64)) := okA (e := 3) (zc := [.int .i64 0]) (by kernel_rfl) (by kernel_rfl) (by kernel_rfl) (by kernel_rfl) (.cons (.inl ⟨rfl, rfl⟩) .nil) -- [8]int
theorem ok148 : TDok PA 148 (tdA 8 8 [.v (.int .i64 0)] (.int .i64)) := okA (e := 3) (zc := [.int .i64 0]) (by kernel_rfl) (by kernel_rfl) (by kernel_rfl) (by kernel_rfl) (.cons (.inl ⟨rfl, rfl⟩) .nil) -- impl.bound
theorem ok156 : TDok PA 156 (tdO 1 none) := okO (z := .pointer none) (by kernel_rfl) (by kernel_rfl) (fun c h => by cases h) -- *impl.pageSet
theorem ok157 : TDok PA 157 (tdA 2001 2001 [.v (.bool false)] .bool) := okA (e := 4) (zc := [.bool false]) (by kernel_rfl) (by kernel_rfl) (by kernel_rfl) (by kernel_rfl) (.cons (.inl ⟨rfl, rfl⟩) .nil) -- [2001]bool
theorem ok158 : TDok PA 158 (tdA 2001 2001 [.v (.bool false)] .bool) := okA (e := 4) (zc := [.bool false]) (by kernel_rfl) (by kernel_rfl) (by kernel_rfl) (by kernel_rfl) (.cons (.inl ⟨rfl, rfl⟩) .nil) -- impl.pageSet
theorem ok165 : TDok PA 165 (tdA 2 2 [.v (.int .i64 0)] (.int .i64)) := okA (e := 3) (zc := [.int .i64 0]) (by kernel_rfl) (by kernel_rfl) (by kernel_rfl) (by kernel_rfl) (.cons (.inl ⟨rfl, rfl⟩) .nil) -- [2]int
theorem ok190 : TDok PA 190 (tdI .u64) := okI (by kernel_rfl) (by kernel_rfl) -- uint
theorem ok195 : TDok PA 195 (tdI .i64) := okI (by kernel_rfl) (by kernel_rfl) -- strconv.Error
theorem ok198 : TDok PA 198 (tdO 1 none) := okO (z := .pointer none) (by kernel_rfl) (by kernel_rfl) (fun c h => by cases h) -- *strconv.NumError
theorem ok201 : TDok PA 201 (tdA 24 24 [.v (.int .u8 0)] (.int .u8)) := okA (e := 5) (zc := [.int .u8 0]) (by kernel_rfl) (by kernel_rfl) (by kernel_rfl) (by kernel_rfl) (.cons (.inl ⟨rfl, rfl⟩) .nil) -- [24]uint8
theorem ok212 : TDok PA 212 (tdA 20 20 [.v (.int .u64 0)] (.int .u64)) := okA (e := 120) (zc := [.int .u64 0]) (by kernel_rfl) (by kernel_rfl) (by kernel_rfl) (by kernel_rfl) (.cons (.inl ⟨rfl, rfl⟩) .nil) -- [20]uint64
theorem ok213 : TDok PA 213 (tdI .u32) := okI (by kernel_rfl) (by kernel_rfl) -- uint32
theorem ok214 : TDok PA 214 (tdA 65 65 [.v (.int .u8 0)] (.int .u8)) := okA (e := 5) (zc := [.int .u8 0]) (by kernel_rfl) (by kernel_rfl) (by kernel_rfl) (by kernel_rfl) (.cons (.inl ⟨rfl, rfl⟩) .nil) -- [65]uint8
theorem ok220 : TDok PA 220 (tdO 1 none) := okO (z := .pointer none) (by kernel_rfl) (by kernel_rfl) (fun c h => by cases h) -- *uint8
theorem ok221 : TDok PA 221 (tdO 1 none) := okO (z := .pointer none) (by kernel_rfl) (by kernel_rfl) (fun c h => by cases h) -- *errors.errorString
theorem ok222 : TDok PA 222 (tdT [.v (.string ⟨#[]⟩)] [(0, 1, false)]) := okT (z := .agg #[.string ⟨#[]⟩]) (by kernel_rfl) (by decide) (by kernel_rfl) (.cons (.inl ⟨rfl, rfl⟩) .nil) -- struct { s string }
theorem ok223 : TDok PA 223 (tdT [.v (.string ⟨#[]⟩)] [(0, 1, false)]) := okT (z := .agg #[.string ⟨#[]⟩]) (by kernel_rfl) (by decide) (by kernel_rfl) (.cons (.inl ⟨rfl, rfl⟩) .nil) -- errors.errorString
theorem ok225 : TDok PA 225 (tdA 32 32 [.v (.int .u8 0)] (.int .u8)) := okA (e := 5) (zc := [.int .u8 0]) (by kernel_rfl) (by kernel_rfl) (by kernel_rfl) (by kernel_rfl) (.cons (.inl ⟨rfl, rfl⟩) .nil) -- [32]uint8
theorem ok226 : TDok PA 226 (tdA 64 64 [.v (.int .u8 0)] (.int .u8)) := okA (e := 5) (zc := [.int .u8 0]) (by kernel_rfl) (by kernel_rfl) (by kernel_rfl) (by kernel_rfl) (.cons (.inl ⟨rfl, rfl⟩) .nil) -- [64]uint8
theorem ok233 : TDok PA 233 (tdI .u8) := okI (by kernel_rfl) (by kernel_rfl) -- abi.TFlag
theorem ok234 : TDok PA 234 (tdI .u8) := okI (by kernel_rfl) (by kernel_rfl) -- abi.Kind
theorem ok236 : TDok PA 236 (tdI .i32) := okI (by kernel_rfl) (by kernel_rfl) -- abi.NameOff
theorem ok237 : TDok PA 237 (tdI .i32) := okI (by kernel_rfl) (by kernel_rfl) -- abi.TypeOff
theorem ttab_ok : TDoks PA ttab := ⟨ok2, ⟨ok3, ⟨ok4, ⟨ok5, ⟨ok9, ⟨ok24, ⟨ok34, ⟨ok50, ⟨ok53, ⟨ok90, ⟨ok162, ⟨ok179, ⟨ok187, ⟨ok21, ⟨ok22, ⟨ok23, ⟨ok25, ⟨ok26, ⟨ok29, ⟨ok43, ⟨ok44, ⟨ok103, ⟨ok104, ⟨ok119, ⟨ok120, ⟨ok121, ⟨ok122, ⟨ok147, ⟨ok148, ⟨ok156, ⟨ok157, ⟨ok158, ⟨ok165, ⟨ok190, ⟨ok195, ⟨ok198, ⟨ok201, ⟨ok212, ⟨ok213, ⟨ok214, ⟨ok220, ⟨ok221, ⟨ok222, ⟨ok223, ⟨ok225, ⟨ok226, ⟨ok233, ⟨ok234, ⟨ok236, ⟨ok237, trivial⟩⟩⟩⟩⟩⟩⟩⟩⟩⟩⟩⟩⟩⟩⟩⟩⟩⟩⟩⟩⟩⟩⟩⟩⟩⟩⟩⟩⟩⟩⟩⟩⟩⟩⟩⟩⟩⟩⟩⟩⟩⟩⟩⟩⟩⟩⟩⟩⟩⟩

theorem tt_ok : ∀ t td, ttA t = some td → TDok PA t td := fun t td h => ttab_ok.get t td h
theorem mixed : PA.follows .mixedOrders = true := by kernel_rfl

/-- Which struct types hold numbers alone, and == at them is as one would think. -/
def intFieldsB (P : Program) : Nat → List Field → List IntKind → Bool
  | _, [], [] => true
  | i, f :: fs, k :: ks => Nat.beq f.offset i && !(f.name == "_") && (match P.underlying f.type with | some (.int j) => kindEq j k | _ => false) && intFieldsB P (i + 1) fs ks
  | _, _, _ => false

theorem intFieldsB_ok {P : Program} : ∀ {i : Nat} {fs : List Field} {ks : List IntKind}, intFieldsB P i fs ks = true → IntFields P i fs ks
  | i, [], [], _ => .nil i
  | i, f :: fs, k :: ks, h => by
    simp only [intFieldsB, Bool.and_eq_true, Bool.not_eq_true'] at h
    obtain ⟨⟨⟨h1, h2⟩, h3⟩, h4⟩ := h
    refine .cons (Nat.eq_of_beq_eq_true h1) (by simpa using h2) ?_ (intFieldsB_ok h4)
    split at h3
    · rename_i j hj; rw [hj, kindEq_eq h3]
    · cases h3
  | _, [], _ :: _, h => by cases h
  | _, _ :: _, [], h => by cases h

def eqCheck (P : Program) (t : Nat) (ks : List IntKind) : Bool :=
  (match P.underlying t with | some (.struct fs) => intFieldsB P 0 fs.toList ks | _ => false) && (!P.stoodInHeld t && !P.eqGuardType P.depth t)

theorem eqCheck_ok {P : Program} {t : Nat} {ks : List IntKind} (h : eqCheck P t ks = true) : EqOK P t ks := by
  simp only [eqCheck, Bool.and_eq_true, Bool.not_eq_true'] at h
  obtain ⟨h1, h2, h3⟩ := h
  split at h1
  · rename_i fs hfs
    have hf : P.fieldsOf t = fs := by unfold Program.fieldsOf; rw [hfs]
    exact ⟨by rw [hf]; exact hfs, h2, h3, by rw [hf]; exact intFieldsB_ok h1⟩
  · cases h1

def intsOf : List Cell → Option (List IntKind)
  | [] => some []
  | .v (.int k _) :: r => match intsOf r with | some ks => some (k :: ks) | none => none
  | _ => none

noncomputable def eqA (t : Nat) : Option (List IntKind) := match ttA t with
  | some td => match td.kind, td.zero with
    | .struct _, some z => match intsOf z with
      | some ks => bif eqCheck PA t ks then some ks else none
      | none => none
    | _, _ => none
  | none => none

theorem eq_ok : ∀ t ks, eqA t = some ks → EqOK PA t ks := by
  intro t ks h
  unfold eqA at h
  split at h
  · split at h
    · split at h
      · rename_i ks' _
        cases hc : eqCheck PA t ks' with
        | false => rw [hc] at h; cases h
        | true => rw [hc] at h; obtain rfl := Option.some.inj h; exact eqCheck_ok hc
      · cases h
    · cases h
  · cases h

def W (x : Int) : Int := IntKind.i64.wrap x
def WU (x : Int) : Int := IntKind.u64.wrap x
def WB (x : Int) : Int := IntKind.u8.wrap x
def fuel : Nat := 1073741824
def bodyOf (f : Func) : Code := f.body.getD .skip

/-- What is told of a function to the interpreter: the functions called; what lives at loops' heads, where they are left, where ways meet, and behind that; how results are told; which arguments are written. -/
structure EC where
  l : List Entry
  ann : Tab (List Nat)
  out : Tab (List Nat)
  join : Tab (List Nat)
  jout : Tab (List Nat)
  cast : List (List Cast)
  io : List (Nat × Nat)

noncomputable def mkE (c : EC) : Env :=
  { tt := ttA, call := callT c.l, ann := c.ann.get, out := c.out.get, join := c.join.get, jout := c.jout.get, cast := c.cast, io := fun f i => c.io.any fun p => Nat.beq p.1 f && Nat.beq p.2 i, eqs := eqA }

@[reducible] def oks : List Entry → Prop
  | [] => True
  | e :: r => e.ok PA ∧ oks r

theorem oks_all : ∀ {l : List Entry}, oks l → ∀ e ∈ l, e.ok PA
  | [], _, e, h => by simp at h
  | x :: r, h, e, he => by
    rcases List.mem_cons.1 he with rfl | he
    · exact h.1
    · exact oks_all h.2 e he

theorem none_ok {P : Program} {e : Entry} (h : ∀ v, e.g v = none) : e.ok P := by
  intro vs bs vs' bs' hr
  unfold Entry.run at hr
  replace hr := bind_ofO hr
  obtain ⟨v, _, hr⟩ := hr
  rw [h v] at hr
  cases hr

/-- A function's contract, as it is printed. -/
theorem fn_ok (c : EC) (e : Entry) (fn : Func) (H : Nat → List Lab) (hl : oks c.l) (hf : PA.funcs[e.f]? = some fn) (hb : fn.body = some (bodyOf fn)) (hname : (fn.name == "runtime.NumGoroutine") = false)
    (h0 : Nones (H 0)) (hk : ∀ k, keysOK (bodyOf fn) (H k) = true) (hs : ∀ k, Steps (mkE c) (bodyOf fn) (H k) (H (k + 1)))
    (hg : ∀ v, M.bind (.ofO (e.g v)) (res e.al) = e.pa.bld v fun vs bs => evFnJ (mkE c) (ask (H fuel)) fn (bodyOf fn) vs bs) : e.ok PA :=
  fn_labs (envOK tt_ok rfl (oks_all hl) eq_ok) mixed hf hb hname h0 hk hs fuel hg

end Go.Proofs.YtfgkcnoiplojkaaDoor.VI
