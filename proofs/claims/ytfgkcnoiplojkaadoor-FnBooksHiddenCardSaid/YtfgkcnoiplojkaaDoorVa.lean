/- The value interpreter: its values, its states and what one operation does to a state. No program is run here. -/
import Derived.Calls
import Derived.Orders
namespace Go.Proofs.YtfgkcnoiplojkaaDoor.VI
open Go

/-- The kinds of a row's elements. -/
inductive Ty where
  | int (k : IntKind)
  | bool
  | str
  | pair (a b : Ty)
  | row (a : Ty)
  deriving DecidableEq

@[reducible] def Ty.den : Ty → Type
  | .int _ => Int
  | .bool => Bool
  | .str => ByteArray
  | .pair a b => a.den × b.den
  | .row a => List a.den

def Ty.size : Ty → Nat
  | .pair a b => a.size + b.size
  | _ => 1

/-- A value of one cell. 'row': a slice whose readable cells never change; 'own': the slice that is the whole of the box b; 'view': n elements of the box b from off on; 'ptr': the address of cell off of the box b. -/
inductive Cell where
  | v (x : Value)
  | row (ty : Ty) (xs : List ty.den)
  | own (b : Nat)
  | view (b off n : Nat)
  | ptr (b off : Nat)
  | fn (f : FuncId) (caps : List Nat)

inductive SV where
  | c (x : Cell)
  | agg (cs : List Cell)

/-- What a temporary holds. 'eptr': the address of cell off of an element of a row; 'aptr': of cell off of element i of the box b. -/
inductive CV where
  | s (x : SV)
  | tup (vs : List SV)
  | eptr (cs : List Cell) (off : Nat)
  | aptr (b i off : Nat)
  | und

/-- A box: memory that may change. 'cells': one variable; 'arr': a row of elements, or an array ('ro': it will not change any more); 'gone': nothing may be asked of it. -/
inductive BX where
  | cells (cs : List Cell)
  | arr (ro : Bool) (ty : Ty) (xs : List ty.den)
  | gone

/-- An answer that may be missing, told by what is done with it: so that a case that is not decided stands in front. -/
structure M (α : Type) where
  run : (R : Type) → R → (α → R) → R
  nat : ∀ (R : Type) (F : R) (k : α → R), run R F k = match run (Option α) none some with | some a => k a | none => F

namespace M
variable {α β : Type}
def opt (m : M α) : Option α := m.run (Option α) none some
theorem run_eq (m : M α) (R : Type) (F : R) (k : α → R) : m.run R F k = match m.opt with | some a => k a | none => F := m.nat R F k
def ret (a : α) : M α := ⟨fun _ _ k => k a, fun _ _ _ => rfl⟩
def fail : M α := ⟨fun _ F _ => F, fun _ _ _ => rfl⟩
def ofO (o : Option α) : M α := ⟨fun _ F k => match o with | some a => k a | none => F, fun _ _ _ => by cases o <;> rfl⟩
def bind (m : M α) (f : α → M β) : M β := ⟨fun R F k => m.run R F fun a => (f a).run R F k, fun R F k => by
  rw [run_eq, run_eq m (Option β)]
  cases m.opt with
  | none => rfl
  | some a => exact (f a).nat R F k⟩
def ite (b : Bool) (x y : M α) : M α := ⟨fun R F k => bif b then x.run R F k else y.run R F k, fun R F k => by
  cases b
  · exact y.nat R F k
  · exact x.nat R F k⟩
/-- One of two. -/
def sum {γ δ : Type} (q : Sum γ δ) (f : γ → M α) (g : δ → M α) : M α := ⟨fun R F k => match q with | .inl a => (f a).run R F k | .inr b => (g b).run R F k, fun R F k => by
  cases q with
  | inl a => exact (f a).nat R F k
  | inr b => exact (g b).nat R F k⟩
theorem opt_ret (a : α) : (ret a).opt = some a := rfl
theorem opt_fail : (fail : M α).opt = none := rfl
theorem opt_ofO (o : Option α) : (ofO o).opt = o := by cases o <;> rfl
theorem opt_ite (b : Bool) (x y : M α) : (ite b x y).opt = bif b then x.opt else y.opt := by cases b <;> rfl
theorem opt_sum {γ δ : Type} (q : Sum γ δ) (f : γ → M α) (g : δ → M α) : (sum q f g).opt = match q with | .inl a => (f a).opt | .inr b => (g b).opt := by cases q <;> rfl
theorem opt_bind (m : M α) (f : α → M β) : (bind m f).opt = m.opt.bind fun a => (f a).opt := by
  show m.run (Option β) none (fun a => (f a).run (Option β) none some) = _
  rw [run_eq]
  cases m.opt <;> rfl
end M

abbrev Tab (α : Type) := List (Nat × α)

def Tab.get {α : Type} : Tab α → Nat → Option α
  | [], _ => none
  | (j, v) :: r, i => bif Nat.beq i j then some v else Tab.get r i

def Tab.put {α : Type} : Tab α → Nat → α → Tab α
  | [], i, x => [(i, x)]
  | (j, v) :: r, i, x => bif Nat.beq i j then (i, x) :: r else bif Nat.ble i j then (i, x) :: (j, v) :: r else (j, v) :: Tab.put r i x

theorem nbeq_ne {i j : Nat} (h : ¬ i = j) : Nat.beq i j = false := by
  cases hq : Nat.beq i j with
  | false => rfl
  | true => exact absurd (Nat.eq_of_beq_eq_true hq) h

theorem nble_no {i j : Nat} (h : ¬ i ≤ j) : Nat.ble i j = false := by
  cases hq : Nat.ble i j with
  | false => rfl
  | true => exact absurd (Nat.le_of_ble_eq_true hq) h

theorem Tab.get_put {α : Type} (t : Tab α) (i k : Nat) (x : α) : (t.put i x).get k = if k = i then some x else t.get k := by
  induction t with
  | nil =>
    by_cases h : k = i
    · subst h; simp [Tab.put, Tab.get, Nat.beq_refl]
    · simp [Tab.put, Tab.get, h, nbeq_ne h]
  | cons p r ih =>
    obtain ⟨j, v⟩ := p
    by_cases hij : i = j
    · subst hij
      by_cases h : k = i
      · subst h; simp [Tab.put, Tab.get, Nat.beq_refl]
      · simp [Tab.put, Tab.get, h, nbeq_ne h, Nat.beq_refl]
    · by_cases hle : i ≤ j
      · by_cases h : k = i
        · subst h; simp [Tab.put, Tab.get, nbeq_ne hij, Nat.ble_eq_true_of_le hle, Nat.beq_refl]
        · simp [Tab.put, Tab.get, nbeq_ne hij, Nat.ble_eq_true_of_le hle, h, nbeq_ne h]
      · by_cases hkj : k = j
        · subst hkj
          have : ¬ k = i := fun e => hij e.symm
          simp [Tab.put, Tab.get, nbeq_ne hij, nble_no hle, this, Nat.beq_refl]
        · simp [Tab.put, Tab.get, nbeq_ne hij, nble_no hle, nbeq_ne hkj, ih]

/-- A state: how many temporaries there are, how many boxes were lent (their names are 0, 1, ..), the temporaries, the boxes, the next free name of a box. -/
structure St where
  nt : Nat
  lent : Nat
  tmps : Tab CV
  boxes : Tab BX
  next : Nat

def has : List Nat → Nat → Bool
  | [], _ => false
  | j :: r, i => Nat.beq i j || has r i

theorem has_iff (l : List Nat) (i : Nat) : has l i = true ↔ i ∈ l := by
  induction l with
  | nil => simp [has]
  | cons j r ih =>
    simp only [has, Bool.or_eq_true, ih, List.mem_cons]
    constructor
    · rintro (h | h)
      · exact .inl (Nat.eq_of_beq_eq_true h)
      · exact .inr h
    · rintro (h | h)
      · exact .inl (by subst h; exact Nat.beq_refl i)
      · exact .inr h

/-- What the interpreter knows of a type: its cells, whether it is a struct or an array, what it is of, its zero value. -/
inductive TK where
  | slice (ebytes : Nat) (ezero : List Cell) (ty : Ty)
  | struct (fields : List (Nat × Nat × Bool))
  | array (n : Nat) (ezero : List Cell) (ty : Ty)
  | str
  | bool
  | int (k : IntKind)
  | other

structure TD where
  size : Nat
  agg : Bool
  zero : Option (List Cell)
  kind : TK

end Go.Proofs.YtfgkcnoiplojkaaDoor.VI
