/- The value interpreter: how its values stand for the machine's. -/
import Derived.Test.YtfgkcnoiplojkaaDoorVc
namespace Go.Proofs.YtfgkcnoiplojkaaDoor.VI
open Go

/-- Two lists, element by element. -/
inductive All2 {α β : Type} (R : α → β → Prop) : List α → List β → Prop where
  | nil : All2 R [] []
  | cons {a : α} {b : β} {as : List α} {bs : List β} (h : R a b) (t : All2 R as bs) : All2 R (a :: as) (b :: bs)

namespace All2
variable {α β : Type} {R R' : α → β → Prop}
theorem imp (h : ∀ a b, R a b → R' a b) : ∀ {as : List α} {bs : List β}, All2 R as bs → All2 R' as bs
  | _, _, .nil => .nil
  | _, _, .cons x t => .cons (h _ _ x) (imp h t)
theorem length : ∀ {as : List α} {bs : List β}, All2 R as bs → as.length = bs.length
  | _, _, .nil => rfl
  | _, _, .cons _ t => congrArg (· + 1) (length t)
theorem get : ∀ {as : List α} {bs : List β}, All2 R as bs → ∀ (i : Nat) (a : α), as[i]? = some a → ∃ b, bs[i]? = some b ∧ R a b
  | _, _, .nil, i, a, h => by simp at h
  | _, _, .cons (b := b) x t, 0, a, h => ⟨b, rfl, by simp at h; exact h ▸ x⟩
  | _, _, .cons _ t, i + 1, a, h => by
    obtain ⟨b, hb, hr⟩ := get t i a (by simpa using h)
    exact ⟨b, by simpa using hb, hr⟩
theorem append : ∀ {as as' : List α} {bs bs' : List β}, All2 R as bs → All2 R as' bs' → All2 R (as ++ as') (bs ++ bs')
  | _, _, _, _, .nil, k => k
  | _, _, _, _, .cons x t, k => .cons x (append t k)
theorem of_get : ∀ (as : List α) (bs : List β), as.length = bs.length → (∀ (i : Nat) (a : α) (b : β), as[i]? = some a → bs[i]? = some b → R a b) → All2 R as bs
  | [], [], _, _ => .nil
  | a :: as, b :: bs, hl, h => .cons (h 0 a b rfl rfl) (of_get as bs (by simpa using hl) fun i x y hx hy => h (i + 1) x y (by simpa using hx) (by simpa using hy))
  | [], _ :: _, hl, _ => by simp at hl
  | _ :: _, [], hl, _ => by simp at hl
end All2

theorem add_add (a : Addr) (m n : Nat) : (a.add m).add n = a.add (m + n) := by
  unfold Addr.add
  by_cases hm : m = 0 <;> by_cases hn : n = 0 <;> simp [hm, hn]
  · omega

theorem add_block (a : Addr) (n : Nat) : (a.add n).block = a.block := by
  unfold Addr.add; split <;> rfl

theorem add_plain (g i n : Nat) : (⟨g, i, none⟩ : Addr).add n = ⟨g, i + n, none⟩ := by
  unfold Addr.add; split <;> simp_all

/-- An element's cells. -/
def EncE (w : World) (Pr : Addr → Prop) : (ty : Ty) → ty.den → List Value → Prop
  | .int k, x, cs => cs = [.int k x]
  | .bool, x, cs => cs = [.bool x]
  | .str, x, cs => cs = [.string x]
  | .pair a b, x, cs => ∃ c1 c2, cs = c1 ++ c2 ∧ EncE w Pr a x.1 c1 ∧ EncE w Pr b x.2 c2
  | .row a, xs, cs => ∃ A n c, cs = [.slice A n c] ∧ n = List.length (α := a.den) xs ∧ n ≤ c ∧
      ∀ i (x : a.den), (xs : List a.den)[i]? = some x → ∃ ad vs, A = some ad ∧ EncE w Pr a x vs ∧ ∀ j v, vs[j]? = some v → w.cell? (ad.add (i * a.size + j)) = some v ∧ Pr (ad.add (i * a.size + j))

/-- A slice that is only read. -/
def RowV (w : World) (Pr : Addr → Prop) (ty : Ty) (xs : List ty.den) (A : Option Addr) (n c : Nat) : Prop :=
  n = xs.length ∧ n ≤ c ∧
    ∀ i x, xs[i]? = some x → ∃ ad vs, A = some ad ∧ EncE w Pr ty x vs ∧ ∀ j v, vs[j]? = some v → w.cell? (ad.add (i * ty.size + j)) = some v ∧ Pr (ad.add (i * ty.size + j))

theorem EncE_row (w : World) (Pr : Addr → Prop) (a : Ty) (xs : List a.den) (cs : List Value) :
    EncE w Pr (.row a) xs cs ↔ ∃ A n c, cs = [.slice A n c] ∧ RowV w Pr a xs A n c := Iff.rfl

def Keep (Pr : Addr → Prop) (w w' : World) : Prop := ∀ a v, Pr a → w.cell? a = some v → w'.cell? a = some v

theorem EncE_mono {w w' : World} {Pr Pr' : Addr → Prop} (hk : Keep Pr w w') (hp : ∀ a, Pr a → Pr' a) :
    ∀ (ty : Ty) (x : ty.den) (cs : List Value), EncE w Pr ty x cs → EncE w' Pr' ty x cs := by
  intro ty
  induction ty with
  | int k => intro x cs h; exact h
  | bool => intro x cs h; exact h
  | str => intro x cs h; exact h
  | pair a b iha ihb =>
    rintro x cs ⟨c1, c2, e, h1, h2⟩
    exact ⟨c1, c2, e, iha _ _ h1, ihb _ _ h2⟩
  | row a ih =>
    rintro xs cs ⟨A, n, c, e, hn, hc, h⟩
    refine ⟨A, n, c, e, hn, hc, fun i x hx => ?_⟩
    obtain ⟨ad, vs, hA, hE, hS⟩ := h i x hx
    exact ⟨ad, vs, hA, ih _ _ hE, fun j v hv => ⟨hk _ _ (hS j v hv).2 (hS j v hv).1, hp _ (hS j v hv).2⟩⟩

theorem RowV_mono {w w' : World} {Pr Pr' : Addr → Prop} (hk : Keep Pr w w') (hp : ∀ a, Pr a → Pr' a) {ty : Ty} {xs : List ty.den} {A : Option Addr} {n c : Nat}
    (h : RowV w Pr ty xs A n c) : RowV w' Pr' ty xs A n c := by
  have := (EncE_row w' Pr' ty xs [.slice A n c]).1 (EncE_mono hk hp (.row ty) xs [.slice A n c] ((EncE_row w Pr ty xs _).2 ⟨A, n, c, rfl, h⟩))
  obtain ⟨A', n', c', e, h'⟩ := this
  simp only [List.cons.injEq, Value.slice.injEq, and_true] at e
  obtain ⟨rfl, rfl, rfl⟩ := e
  exact h'

theorem EncE_len {w : World} {Pr : Addr → Prop} : ∀ (ty : Ty) (x : ty.den) (cs : List Value), EncE w Pr ty x cs → cs.length = ty.size := by
  intro ty
  induction ty with
  | int k => intro x cs h; simp only [EncE] at h; subst h; rfl
  | bool => intro x cs h; simp only [EncE] at h; subst h; rfl
  | str => intro x cs h; simp only [EncE] at h; subst h; rfl
  | pair a b iha ihb =>
    rintro x cs ⟨c1, c2, e, h1, h2⟩
    subst e
    simp [Ty.size, iha _ _ h1, ihb _ _ h2]
  | row a ih =>
    rintro xs cs ⟨A, n, c, e, _⟩
    subst e; rfl

theorem EncE_one {w : World} {Pr : Addr → Prop} : ∀ (ty : Ty) (x : ty.den) (cs : List Value), EncE w Pr ty x cs → ∀ v ∈ cs, oneCell v = true := by
  intro ty
  induction ty with
  | int k => intro x cs h v hv; simp only [EncE] at h; subst h; simp at hv; subst hv; rfl
  | bool => intro x cs h v hv; simp only [EncE] at h; subst h; simp at hv; subst hv; rfl
  | str => intro x cs h v hv; simp only [EncE] at h; subst h; simp at hv; subst hv; rfl
  | pair a b iha ihb =>
    rintro x cs ⟨c1, c2, e, h1, h2⟩ v hv
    subst e
    rcases List.mem_append.1 hv with h | h
    · exact iha _ _ h1 v h
    · exact ihb _ _ h2 v h
  | row a ih =>
    rintro xs cs ⟨A, n, c, e, _⟩ v hv
    subst e; simp at hv; subst hv; rfl

theorem size_pos : ∀ ty : Ty, 0 < ty.size
  | .int _ => Nat.one_pos
  | .bool => Nat.one_pos
  | .str => Nat.one_pos
  | .row _ => Nat.one_pos
  | .pair a b => by have := size_pos a; simp only [Ty.size]; omega

/-- What does not lead anywhere does not ask which cells stay. -/
theorem EncE_free {w w' : World} {Pr Pr' : Addr → Prop} : ∀ (ty : Ty), ty.leads = false → ∀ (x : ty.den) (cs : List Value), EncE w Pr ty x cs → EncE w' Pr' ty x cs := by
  intro ty
  induction ty with
  | int k => intro _ x cs h; exact h
  | bool => intro _ x cs h; exact h
  | str => intro _ x cs h; exact h
  | pair a b iha ihb =>
    intro hl
    simp only [Ty.leads, Bool.or_eq_false_iff] at hl
    rintro x cs ⟨c1, c2, e, h1, h2⟩
    exact ⟨c1, c2, e, iha hl.1 _ _ h1, ihb hl.2 _ _ h2⟩
  | row a _ => intro hl; simp [Ty.leads] at hl

section
variable (w : World) (Pr : Addr → Prop) (B : Nat → Option BX) (β : Nat → Option Nat)

def OwnV (g? : Option Nat) (sz len : Nat) (y : Value) : Prop :=
  match g? with
  | none => y = .slice none 0 0 ∧ len = 0
  | some g => ∃ c vs T, y = .slice (some ⟨g, 0, none⟩) len c ∧ len ≤ c ∧ w.heap[g]? = some (.cells vs T (0, 0)) ∧ c * sz ≤ vs.size

/-- n elements of a row of len, from off on: the capacity reaches at least as far as the row. -/
def ViewV (g? : Option Nat) (sz len off n : Nat) (A : Option Addr) (c : Nat) : Prop :=
  off + n ≤ len ∧ (off < len → ∃ g, g? = some g ∧ A = some ⟨g, off * sz, none⟩ ∧ len ≤ off + c ∧ ∃ vs T, w.heap[g]? = some (.cells vs T (0, 0)) ∧ (off + c) * sz ≤ vs.size)

def PtrR (b off : Nat) (y : Value) : Prop := ∃ g bx, y = .pointer (some ⟨g, off, none⟩) ∧ B b = some bx ∧ (bx ≠ .gone → β b = some g)

def CellR : Cell → Value → Prop
  | .v x, y => y = x ∧ oneCell x = true
  | .row ty xs, y => ∃ A n c, y = .slice A n c ∧ RowV w Pr ty xs A n c
  | .own b, y => (∃ A n c, y = .slice A n c) ∧ ∃ bx, B b = some bx ∧ ∀ ro ty xs, bx = .arr ro ty xs → OwnV w (β b) ty.size xs.length y
  | .view b off n, y => ∃ A c, y = .slice A n c ∧ n ≤ c ∧ ∃ bx, B b = some bx ∧ ∀ ro ty xs, bx = .arr ro ty xs → ViewV w (β b) ty.size xs.length off n A c
  | .ptr b off, y => PtrR B β b off y
  | .fn f caps, y => ∃ vs : List Value, y = .func (.func f) #[] vs.toArray ∧ All2 (fun b v => PtrR B β b 0 v) caps vs

def SVR : SV → Value → Prop
  | .c x, y => CellR w Pr B β x y
  | .agg cs, y => ∃ vs : List Value, y = .agg vs.toArray ∧ All2 (CellR w Pr B β) cs vs

def CVR : CV → Value → Prop
  | .s x, y => SVR w Pr B β x y
  | .tup vs, y => ∃ ys : List Value, y = .tuple ys.toArray ∧ All2 (SVR w Pr B β) vs ys
  | .eptr cs off, y => ∃ a, y = .pointer (some a) ∧ ∀ j c, cs[off + j]? = some c → ∃ v, CellR w Pr B β c v ∧ w.cell? (a.add j) = some v ∧ Pr (a.add j)
  | .aptr b i off, y => ∃ g bx, y = .pointer (some g) ∧ B b = some bx ∧ ∀ ro ty xs, bx = .arr ro ty xs → ∃ g', β b = some g' ∧ g = ⟨g', i * ty.size + off, none⟩
  | .und, y => y = undef

def ArrR (ty : Ty) (xs : List ty.den) (vs : Array Value) : Prop := ∀ i x, xs[i]? = some x → ∃ es, EncE w Pr ty x es ∧ ∀ j v, es[j]? = some v → vs[i * ty.size + j]? = some v

def BXR (b : Nat) : BX → Prop
  | .cells cs => ∃ g vs T, β b = some g ∧ w.heap[g]? = some (.cells vs T (0, 0)) ∧ All2 (CellR w Pr B β) cs vs.toList ∧ ∀ a, Pr a → a.block ≠ g
  | .arr ro ty xs => match β b with
    | none => xs = []
    | some g => ∃ vs T, w.heap[g]? = some (.cells vs T (0, 0)) ∧ ArrR w Pr ty xs vs ∧ (ro = false → ∀ a, Pr a → a.block ≠ g) ∧ (ro = true → ∀ off, off < xs.length * ty.size → Pr ⟨g, off, none⟩)
  | .gone => True
end

theorem CellR.one {w : World} {Pr : Addr → Prop} {B : Nat → Option BX} {β : Nat → Option Nat} {c : Cell} {y : Value} (h : CellR w Pr B β c y) : oneCell y = true := by
  cases c with
  | v x => obtain ⟨rfl, h⟩ := h; exact h
  | row ty xs => obtain ⟨A, n, c, rfl, _⟩ := h; rfl
  | own b => obtain ⟨⟨A, n, c, rfl⟩, _⟩ := h; rfl
  | view b off n => obtain ⟨A, c, rfl, _⟩ := h; rfl
  | ptr b off => obtain ⟨g, bx, rfl, _⟩ := h; rfl
  | fn f caps => obtain ⟨vs, rfl, _⟩ := h; rfl

theorem oneCell_cells {y : Value} (h : oneCell y = true) : y.cells = #[y] := by
  cases y <;> simp_all [oneCell, Value.cells]

/-- Blocks stay as large as they were, and may be written. -/
def Shape (w w' : World) : Prop := ∀ (g : Nat) (vs : Array Value) (T : TypeId), w.heap[g]? = some (.cells vs T (0, 0)) → ∃ vs', w'.heap[g]? = some (.cells vs' T (0, 0)) ∧ vs'.size = vs.size

theorem Shape.refl (w : World) : Shape w w := fun _ vs _ h => ⟨vs, h, rfl⟩
theorem Shape.trans {w1 w2 w3 : World} (h : Shape w1 w2) (k : Shape w2 w3) : Shape w1 w3 := fun g vs T hg => by
  obtain ⟨v2, h2, e2⟩ := h g vs T hg
  obtain ⟨v3, h3, e3⟩ := k g v2 T h2
  exact ⟨v3, h3, e3.trans e2⟩

def Compat : BX → BX → Prop
  | _, .gone => True
  | .cells cs, .cells cs' => cs.length = cs'.length
  | .arr ro ty xs, .arr ro' ty' xs' => ty = ty' ∧ xs.length = xs'.length ∧ (ro = true → ro' = true ∧ HEq xs xs')
  | _, _ => False

theorem Compat.refl : ∀ x : BX, Compat x x
  | .cells _ => rfl
  | .arr _ _ _ => ⟨rfl, rfl, fun h => ⟨h, HEq.rfl⟩⟩
  | .gone => trivial

theorem Compat.trans : ∀ {x y z : BX}, Compat x y → Compat y z → Compat x z
  | _, _, .gone, _, _ => trivial
  | .cells _, .cells _, .cells _, h, k => Eq.trans h k
  | .arr _ _ _, .arr _ _ _, .arr _ _ _, h, k => ⟨h.1.trans k.1, h.2.1.trans k.2.1, fun e => ⟨(k.2.2 (h.2.2 e).1).1, (h.2.2 e).2.trans (k.2.2 (h.2.2 e).1).2⟩⟩
  | .cells _, .arr _ _ _, _, h, _ => h.elim
  | .cells _, .gone, .cells _, _, k => k.elim
  | .cells _, .gone, .arr _ _ _, _, k => k.elim
  | .arr _ _ _, .cells _, _, h, _ => h.elim
  | .arr _ _ _, .gone, .cells _, _, k => k.elim
  | .arr _ _ _, .gone, .arr _ _ _, _, k => k.elim
  | .gone, .cells _, _, h, _ => h.elim
  | .gone, .arr _ _ _, _, h, _ => h.elim
  | .gone, .gone, .cells _, _, k => k.elim
  | .gone, .gone, .arr _ _ _, _, k => k.elim
  | .cells _, .cells _, .arr _ _ _, _, k => k.elim
  | .arr _ _ _, .arr _ _ _, .cells _, _, k => k.elim

def Ext (B : Nat → Option BX) (β : Nat → Option Nat) (B' : Nat → Option BX) (β' : Nat → Option Nat) : Prop :=
  ∀ b bx, B b = some bx → ∃ bx', B' b = some bx' ∧ Compat bx bx' ∧ (bx' ≠ .gone → β' b = β b)

theorem Ext.refl (B : Nat → Option BX) (β : Nat → Option Nat) : Ext B β B β := fun _ bx h => ⟨bx, h, Compat.refl bx, fun _ => rfl⟩

theorem Compat.live {x y : BX} (h : Compat x y) (hy : y ≠ .gone) : x ≠ .gone := by
  rintro rfl
  cases y <;> simp_all [Compat]

theorem Ext.trans {B1 B2 B3 : Nat → Option BX} {β1 β2 β3 : Nat → Option Nat} (h : Ext B1 β1 B2 β2) (k : Ext B2 β2 B3 β3) : Ext B1 β1 B3 β3 := fun b bx hb => by
  obtain ⟨x2, h2, c2, e2⟩ := h b bx hb
  obtain ⟨x3, h3, c3, e3⟩ := k b x2 h2
  exact ⟨x3, h3, c2.trans c3, fun hg => (e3 hg).trans (e2 (c3.live hg))⟩

section
variable {w w' : World} {Pr Pr' : Addr → Prop} {B B' : Nat → Option BX} {β β' : Nat → Option Nat}

theorem OwnV.ext (hs : Shape w w') {g? : Option Nat} {sz len : Nat} {y : Value} (h : OwnV w g? sz len y) : OwnV w' g? sz len y := by
  cases g? with
  | none => exact h
  | some g =>
    obtain ⟨c, vs, T, e, hc, hg, hz⟩ := h
    obtain ⟨vs', hg', e'⟩ := hs g vs T hg
    exact ⟨c, vs', T, e, hc, hg', by rw [e']; exact hz⟩

theorem ViewV.ext (hs : Shape w w') {g? : Option Nat} {sz len off n c : Nat} {A : Option Addr} (h : ViewV w g? sz len off n A c) : ViewV w' g? sz len off n A c := by
  refine ⟨h.1, fun hl => ?_⟩
  obtain ⟨g, hg, hA, hc, vs, T, hh, hz⟩ := h.2 hl
  obtain ⟨vs', hh', e⟩ := hs g vs T hh
  exact ⟨g, hg, hA, hc, vs', T, hh', by rw [e]; exact hz⟩

theorem PtrR.ext (he : Ext B β B' β') {b off : Nat} {y : Value} (h : PtrR B β b off y) : PtrR B' β' b off y := by
  obtain ⟨g, bx, e, hb, hl⟩ := h
  obtain ⟨bx', hb', hc, hβ⟩ := he b bx hb
  exact ⟨g, bx', e, hb', fun hn => (hβ hn).trans (hl (hc.live hn))⟩

theorem CellR.ext (hk : Keep Pr w w') (hp : ∀ a, Pr a → Pr' a) (hs : Shape w w') (he : Ext B β B' β') {c : Cell} {y : Value} (h : CellR w Pr B β c y) : CellR w' Pr' B' β' c y := by
  cases c with
  | v x => exact h
  | row ty xs => obtain ⟨A, n, c, e, hr⟩ := h; exact ⟨A, n, c, e, RowV_mono hk hp hr⟩
  | own b =>
    obtain ⟨hy, bx, hb, ho⟩ := h
    obtain ⟨bx', hb', hc, hβ⟩ := he b bx hb
    refine ⟨hy, bx', hb', ?_⟩
    rintro ro ty xs rfl
    rw [hβ (by simp)]
    cases bx with
    | cells cs => exact hc.elim
    | gone => exact hc.elim
    | arr ro0 ty0 xs0 =>
      obtain ⟨rfl, hl, _⟩ := hc
      rw [← hl]
      exact (ho _ _ _ rfl).ext hs
  | view b off n =>
    obtain ⟨A, c, e, hn, bx, hb, ho⟩ := h
    obtain ⟨bx', hb', hc, hβ⟩ := he b bx hb
    refine ⟨A, c, e, hn, bx', hb', ?_⟩
    rintro ro ty xs rfl
    rw [hβ (by simp)]
    cases bx with
    | cells cs => exact hc.elim
    | gone => exact hc.elim
    | arr ro0 ty0 xs0 =>
      obtain ⟨rfl, hl, _⟩ := hc
      rw [← hl]
      exact (ho _ _ _ rfl).ext hs
  | ptr b off => exact PtrR.ext he h
  | fn f caps =>
    obtain ⟨vs, e, h⟩ := h
    exact ⟨vs, e, h.imp fun _ _ hx => PtrR.ext he hx⟩

theorem CellsR.ext (hk : Keep Pr w w') (hp : ∀ a, Pr a → Pr' a) (hs : Shape w w') (he : Ext B β B' β') {cs : List Cell} {ys : List Value} (h : All2 (CellR w Pr B β) cs ys) : All2 (CellR w' Pr' B' β') cs ys :=
  h.imp fun _ _ hx => CellR.ext hk hp hs he hx

theorem SVR.ext (hk : Keep Pr w w') (hp : ∀ a, Pr a → Pr' a) (hs : Shape w w') (he : Ext B β B' β') {x : SV} {y : Value} (h : SVR w Pr B β x y) : SVR w' Pr' B' β' x y := by
  cases x with
  | c x => exact CellR.ext hk hp hs he h
  | agg cs => obtain ⟨vs, e, h⟩ := h; exact ⟨vs, e, CellsR.ext hk hp hs he h⟩

theorem CVR.ext (hk : Keep Pr w w') (hp : ∀ a, Pr a → Pr' a) (hs : Shape w w') (he : Ext B β B' β') {x : CV} {y : Value} (h : CVR w Pr B β x y) : CVR w' Pr' B' β' x y := by
  cases x with
  | s x => exact SVR.ext hk hp hs he h
  | tup vs => obtain ⟨ys, e, h⟩ := h; exact ⟨ys, e, h.imp fun _ _ hx => SVR.ext hk hp hs he hx⟩
  | eptr cs off =>
    obtain ⟨a, e, h⟩ := h
    refine ⟨a, e, fun j c hj => ?_⟩
    obtain ⟨v, hv, hc, hq⟩ := h j c hj
    exact ⟨v, CellR.ext hk hp hs he hv, hk _ _ hq hc, hp _ hq⟩
  | aptr b i off =>
    obtain ⟨g, bx, e, hb, ho⟩ := h
    obtain ⟨bx', hb', hc, hβ⟩ := he b bx hb
    refine ⟨g, bx', e, hb', ?_⟩
    rintro ro ty xs rfl
    rw [hβ (by simp)]
    cases bx with
    | cells cs => exact hc.elim
    | gone => exact hc.elim
    | arr ro0 ty0 xs0 =>
      obtain ⟨rfl, hl, _⟩ := hc
      exact ho _ _ _ rfl
  | und => exact h
end

/-- The boxes as they stand in memory. -/
structure Mem (w : World) (Pr : Addr → Prop) (B : Nat → Option BX) (β : Nat → Option Nat) : Prop where
  box : ∀ b bx, B b = some bx → BXR w Pr B β b bx
  inj : ∀ b bx c cx g, B b = some bx → bx ≠ .gone → B c = some cx → cx ≠ .gone → β b = some g → β c = some g → b = c
  lt : ∀ a, Pr a → a.block < w.heap.size

def SameOut (w w' : World) : Prop := w'.os = w.os ∧ w'.tape = w.tape ∧ w'.output = w.output

/-- What a call may have done to memory: w0, Pr0, B0, β0: as it began. -/
structure Since (w0 : World) (Pr0 : Addr → Prop) (B0 : Nat → Option BX) (β0 : Nat → Option Nat) (w : World) (Pr : Addr → Prop) (B : Nat → Option BX) (β : Nat → Option Nat) : Prop where
  keep : Keep Pr0 w0 w
  grows : ∀ a, Pr0 a → Pr a
  new : ∀ a, Pr a → Pr0 a ∨ w0.heap.size ≤ a.block ∨ ∃ b bx, B0 b = some bx ∧ bx ≠ .gone ∧ β0 b = some a.block
  shape : Shape w0 w
  size : w0.heap.size ≤ w.heap.size
  frame : ∀ g, g < w0.heap.size → (∀ b bx, B0 b = some bx → bx ≠ .gone → β0 b ≠ some g) → w.heap[g]? = w0.heap[g]?
  place : ∀ b bx g, B b = some bx → bx ≠ .gone → β b = some g → w0.heap.size ≤ g ∨ ∃ c cx, B0 c = some cx ∧ cx ≠ .gone ∧ β0 c = some g
  ext : Ext B0 β0 B β
  same : SameOut w0 w

end Go.Proofs.YtfgkcnoiplojkaaDoor.VI
