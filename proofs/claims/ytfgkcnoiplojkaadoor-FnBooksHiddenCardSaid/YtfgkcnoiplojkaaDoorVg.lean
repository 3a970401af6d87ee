/- The value interpreter: each operation does in the machine what it does in the state. -/
import Derived.Test.YtfgkcnoiplojkaaDoorVf
namespace Go.Proofs.YtfgkcnoiplojkaaDoor.VI
open Go

def ZeroR : List Cell → List Value → Prop := All2 fun c v => (c = .v v ∧ oneCell v = true) ∨ ∃ ty, c = .row ty [] ∧ v = .slice none 0 0

def KindOK (P : Program) (z : Option Value) : TK → TypeDesc → Prop
  | .slice ebytes ezero ty, d => ∃ e ie ze, d = .slice e ∧ P.info? e = some ie ∧ ie.size = ty.size ∧ ie.bytes = ebytes ∧ ebytes ≠ 0 ∧ ie.zero = some ze ∧ ZeroR ezero ze.cells.toList ∧ ze.cells.size = ty.size ∧ ∀ k, ty = .int k → P.underlying e = some (.int k)
  | .struct fs, d => ∃ fields, d = .struct fields ∧ fields.size = fs.length ∧ ∀ (k : Nat) (f : Nat × Nat × Bool), fs[k]? = some f → ∃ (fd : Field) (i : TypeInfo) (dd : TypeDesc), fields[k]? = some fd ∧ fd.offset = f.1 ∧ P.info? fd.type = some i ∧ i.size = f.2.1 ∧ i.size ≠ 0 ∧ P.underlying fd.type = some dd ∧ isAggD dd = f.2.2
  | .array n ezero ty, d => ∃ e ie v zc, d = .array n e ∧ P.info? e = some ie ∧ ie.size = ty.size ∧ z = some v ∧ v.cells.toList = (List.replicate n zc).flatten ∧ ZeroR ezero zc
  | .str, d => d = .string
  | .bool, d => d = .bool
  | .int k, d => d = .int k
  | .other, _ => True

structure TDok (P : Program) (t : TypeId) (td : TD) : Prop where
  out : ∃ i d, P.info? t = some i ∧ P.underlying t = some d ∧ i.size = td.size ∧ isAggD d = td.agg ∧ (∀ z, td.zero = some z → ∃ v, i.zero = some v ∧ ZeroR z v.cells.toList ∧ td.size = z.length) ∧ KindOK P i.zero td.kind d

theorem kindEq_eq {a b : IntKind} (h : kindEq a b = true) : a = b := by
  cases a <;> cases b <;> first | rfl | (exact absurd h (by decide))

theorem castRow_eq {a b : Ty} {xs : List a.den} {ys : List b.den} (h : castRow a b xs = some ys) : ∃ e : a = b, ys = e ▸ xs := by
  unfold castRow at h
  split at h
  · rename_i j k xs
    cases hk : kindEq j k with
    | false => rw [hk] at h; cases h
    | true =>
      rw [hk] at h
      obtain rfl := kindEq_eq hk
      exact ⟨rfl, (Option.some.inj h).symm⟩
  · exact ⟨rfl, (Option.some.inj h).symm⟩
  · exact ⟨rfl, (Option.some.inj h).symm⟩
  · split at h
    · rename_i e; exact ⟨e, (Option.some.inj h).symm⟩
    · cases h

section
variable {w : World} {Pr : Addr → Prop} {B : Nat → Option BX} {β : Nat → Option Nat}

theorem RowV.nil (ty : Ty) : RowV w Pr ty [] none 0 0 := ⟨rfl, Nat.le_refl _, fun i x h => by simp at h⟩

theorem ZeroR.cells {z : List Cell} {vs : List Value} (h : ZeroR z vs) : All2 (CellR w Pr B β) z vs :=
  All2.imp (fun c v hc => by
    rcases hc with ⟨rfl, ho⟩ | ⟨ty, rfl, rfl⟩
    · exact ⟨rfl, ho⟩
    · exact ⟨none, 0, 0, rfl, RowV.nil ty⟩) h

theorem toCells_sound : ∀ (ty : Ty) (x : ty.den) (cs : List Value), EncE w Pr ty x cs → All2 (CellR w Pr B β) (toCells ty x) cs := by
  intro ty
  induction ty with
  | int k => intro x cs h; simp only [EncE] at h; subst h; exact .cons ⟨rfl, rfl⟩ .nil
  | bool => intro x cs h; simp only [EncE] at h; subst h; exact .cons ⟨rfl, rfl⟩ .nil
  | str => intro x cs h; simp only [EncE] at h; subst h; exact .cons ⟨rfl, rfl⟩ .nil
  | pair a b iha ihb => rintro x cs ⟨c1, c2, rfl, h1, h2⟩; exact (iha _ _ h1).append (ihb _ _ h2)
  | row a ih =>
    intro xs cs h
    obtain ⟨A, n, c, rfl, hr⟩ := (EncE_row _ _ _ _ _).1 h
    exact .cons ⟨A, n, c, rfl, hr⟩ .nil

theorem first_sound {α : Type} {f : Cell → Option α} {Q : α → Value → Prop} (hf : ∀ c y x, CellR w Pr B β c y → f c = some x → Q x y) {cs : List Cell} {ys : List Value} {x : α} {r : List Cell}
    (h : All2 (CellR w Pr B β) cs ys) (e : first f cs = some (x, r)) : ∃ y y2, ys = y :: y2 ∧ Q x y ∧ All2 (CellR w Pr B β) r y2 := by
  cases h with
  | nil => cases e
  | cons hc t =>
    simp only [first, Option.map_eq_some_iff, Prod.mk.injEq] at e
    obtain ⟨a, ha, rfl, rfl⟩ := e
    exact ⟨_, _, rfl, hf _ _ _ hc ha, t⟩

theorem cellI_sound {k : IntKind} {c : Cell} {y : Value} {x : Int} (h : CellR w Pr B β c y) (e : cellI k c = some x) : y = .int k x := by
  unfold cellI at e
  split at e
  · rename_i j n
    cases hk : kindEq k j with
    | false => rw [hk] at e; cases e
    | true =>
      rw [hk] at e
      obtain rfl := kindEq_eq hk
      obtain rfl := Option.some.inj e
      exact h.1
  · cases e

theorem cellB_sound {c : Cell} {y : Value} {x : Bool} (h : CellR w Pr B β c y) (e : cellB c = some x) : y = .bool x := by
  unfold cellB at e
  split at e
  · obtain rfl := Option.some.inj e; exact h.1
  · cases e

theorem cellS_sound {c : Cell} {y : Value} {x : ByteArray} (h : CellR w Pr B β c y) (e : cellS c = some x) : y = .string x := by
  unfold cellS at e
  split at e
  · obtain rfl := Option.some.inj e; exact h.1
  · cases e

theorem cellRow_sound {a : Ty} {c : Cell} {y : Value} {x : List a.den} (h : CellR w Pr B β c y) (e : cellRow a c = some x) : ∃ A n c, y = .slice A n c ∧ RowV w Pr a x A n c := by
  unfold cellRow at e
  split at e
  · rename_i c' xs
    obtain ⟨rfl, rfl⟩ := castRow_eq e
    exact h
  · obtain rfl := Option.some.inj e
    obtain ⟨rfl, _⟩ := h
    exact ⟨none, 0, 0, rfl, RowV.nil a⟩
  · cases e

theorem ofCells_sound : ∀ (ty : Ty) (cs : List Cell) (ys : List Value) (x : ty.den) (r : List Cell), All2 (CellR w Pr B β) cs ys → ofCells ty cs = some (x, r) →
    ∃ y1 y2, ys = y1 ++ y2 ∧ EncE w Pr ty x y1 ∧ All2 (CellR w Pr B β) r y2 := by
  intro ty
  induction ty with
  | int k =>
    intro cs ys x r h e
    obtain ⟨y, y2, rfl, hq, t⟩ := first_sound (Q := fun x y => y = .int k x) (fun _ _ _ => cellI_sound) h e
    exact ⟨[y], y2, rfl, by rw [hq]; rfl, t⟩
  | bool =>
    intro cs ys x r h e
    obtain ⟨y, y2, rfl, hq, t⟩ := first_sound (Q := fun x y => y = .bool x) (fun _ _ _ => cellB_sound) h e
    exact ⟨[y], y2, rfl, by rw [hq]; rfl, t⟩
  | str =>
    intro cs ys x r h e
    obtain ⟨y, y2, rfl, hq, t⟩ := first_sound (Q := fun x y => y = .string x) (fun _ _ _ => cellS_sound) h e
    exact ⟨[y], y2, rfl, by rw [hq]; rfl, t⟩
  | pair a b iha ihb =>
    intro cs ys x r h e
    simp only [ofCells, Option.bind_eq_some_iff, Option.some.injEq, Prod.mk.injEq] at e
    obtain ⟨p, hp, q, hq, rfl, rfl⟩ := e
    obtain ⟨y1, y2, rfl, h1, t1⟩ := iha _ _ p.1 p.2 h hp
    obtain ⟨y3, y4, rfl, h2, t2⟩ := ihb _ _ q.1 q.2 t1 hq
    exact ⟨y1 ++ y3, y4, by simp, ⟨y1, y3, rfl, h1, h2⟩, t2⟩
  | row a ih =>
    intro cs ys x r h e
    obtain ⟨y, y2, rfl, hq, t⟩ := first_sound (Q := fun x y => ∃ A n c, y = .slice A n c ∧ RowV w Pr a x A n c) (fun _ _ _ => cellRow_sound) h e
    obtain ⟨A, n, c, rfl, hr⟩ := hq
    exact ⟨[_], y2, rfl, (EncE_row _ _ _ _ _).2 ⟨A, n, c, rfl, hr⟩, t⟩

theorem ofCells1_sound {ty : Ty} {cs : List Cell} {ys : List Value} {x : ty.den} (h : All2 (CellR w Pr B β) cs ys) (e : ofCells1 ty cs = some x) : EncE w Pr ty x ys := by
  simp only [ofCells1, Option.bind_eq_some_iff] at e
  obtain ⟨p, hp, e⟩ := e
  obtain ⟨y1, y2, rfl, h1, t⟩ := ofCells_sound ty cs ys p.1 p.2 h hp
  cases hr : p.2 with
  | nil =>
    rw [hr] at e t
    obtain rfl := Option.some.inj e
    cases t
    simpa using h1
  | cons c r => rw [hr] at e; cases e
end
end Go.Proofs.YtfgkcnoiplojkaaDoor.VI
