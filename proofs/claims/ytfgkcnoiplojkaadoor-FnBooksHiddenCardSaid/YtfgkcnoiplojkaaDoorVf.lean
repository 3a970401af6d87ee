/- The value interpreter: what the machine's own words do where its values are told. -/
import Derived.Test.YtfgkcnoiplojkaaDoorVe
import Derived.Laws.Sem
import Derived.Laws.StructEq
namespace Go.Proofs.YtfgkcnoiplojkaaDoor.VI
open Go

section
variable {P : Program} {w : World}

theorem run_underlying {t : TypeId} {d : TypeDesc} (h : P.underlying t = some d) : (underlying t).run P w = .ok d w := by
  simp [underlying, Result.andThen, h]

theorem run_typeInfo {t : TypeId} {i : TypeInfo} (h : P.info? t = some i) : (typeInfo t).run P w = .ok i w := by
  simp only [typeInfo, Sem.run_bind, run_program, Result.andThen]
  have : P.toTables.info? t = some i := h
  rw [this]; rfl

theorem run_sizeOf {t : TypeId} {i : TypeInfo} (h : P.info? t = some i) : (sizeOf t).run P w = .ok i.size w := by
  simp only [sizeOf, Sem.run_bind, run_typeInfo h, Result.andThen]; rfl

theorem run_zeroValue {t : TypeId} {i : TypeInfo} {z : Value} (h : P.info? t = some i) (hz : i.zero = some z) : (zeroValue t).run P w = .ok z w := by
  simp only [zeroValue, Sem.run_bind, run_typeInfo h, Result.andThen, hz]; rfl

def isAggD : TypeDesc → Bool
  | .struct _ => true
  | .array _ _ => true
  | _ => false

theorem run_isAgg {t : TypeId} {d : TypeDesc} (h : P.underlying t = some d) : (isAgg t).run P w = .ok (isAggD d) w := by
  simp only [isAgg, Sem.run_bind, run_underlying h, Result.andThen]
  cases d <;> rfl

theorem run_loadCell {a : Addr} {v : Value} (h : w.cell? a = some v) : (load a).run P w = .ok v w := by
  rw [run_load, h]

theorem run_loadCellsFrom (a : Addr) (vs : List Value) : ∀ (i : Nat) (acc : Array Value), (∀ j v, vs[j]? = some v → w.cell? (a.add (i + j)) = some v) →
    (loadCellsFrom a i vs.length acc).run P w = .ok (acc ++ vs.toArray) w := by
  induction vs with
  | nil => intro i acc _; simp [loadCellsFrom]
  | cons v r ih =>
    intro i acc h
    simp only [List.length_cons, loadCellsFrom, Sem.run_bind]
    have h0 : w.cell? (a.add i) = some v := h 0 v rfl
    rw [run_loadCell h0]
    simp only [Result.andThen]
    rw [ih (i + 1) (acc.push v) (fun j u hj => by rw [show i + 1 + j = i + (j + 1) from by omega]; exact h (j + 1) u (by simpa using hj))]
    simp

theorem run_loadCells (a : Addr) (vs : List Value) (n : Nat) (hn : n = vs.length) (h : ∀ j v, vs[j]? = some v → w.cell? (a.add j) = some v) :
    (loadCells a n).run P w = .ok vs.toArray w := by
  subst hn
  have := run_loadCellsFrom (P := P) a vs 0 #[] (fun j v hj => by rw [Nat.zero_add]; exact h j v hj)
  simpa [loadCells] using this

theorem run_loadVar_agg {t : TypeId} {d : TypeDesc} {i : TypeInfo} {a : Addr} {vs : List Value} (hd : P.underlying t = some d) (hi : P.info? t = some i) (ha : isAggD d = true) (hn : i.size = vs.length)
    (h : ∀ j v, vs[j]? = some v → w.cell? (a.add j) = some v) : (loadVar t a).run P w = .ok (.agg vs.toArray) w := by
  simp only [loadVar, Sem.run_bind, run_isAgg hd, Result.andThen, ha, if_true, run_sizeOf hi]
  rw [run_loadCells a vs i.size hn h]
  simp [Result.andThen]

theorem add_zero (a : Addr) : a.add 0 = a := by simp [Addr.add]

theorem run_loadVar_one {t : TypeId} {d : TypeDesc} {a : Addr} {v : Value} (hd : P.underlying t = some d) (ha : isAggD d = false)
    (h : w.cell? a = some v) : (loadVar t a).run P w = .ok v w := by
  simp only [loadVar, Sem.run_bind, run_isAgg hd, Result.andThen, ha, Bool.false_eq_true, if_false]
  exact run_loadCell h

/-- Cells stored into a block of which all may be written. -/
def setCells (vs : Array Value) (off : Nat) : List Value → Array Value
  | [] => vs
  | v :: r => setCells (vs.setIfInBounds off v) (off + 1) r

theorem setCells_size (l : List Value) : ∀ (vs : Array Value) (off : Nat), (setCells vs off l).size = vs.size := by
  induction l with
  | nil => intros; rfl
  | cons v r ih => intro vs off; rw [setCells, ih]; simp

theorem setCells_get (l : List Value) : ∀ (vs : Array Value) (off i : Nat), off + l.length ≤ vs.size →
    (setCells vs off l)[i]? = if off ≤ i ∧ i < off + l.length then l[i - off]? else vs[i]? := by
  induction l with
  | nil => intro vs off i _; simp [setCells]; intro h h'; omega
  | cons v r ih =>
    intro vs off i h
    simp only [List.length_cons] at h
    rw [setCells, ih _ _ _ (by simp; omega)]
    by_cases h1 : i = off
    · subst h1
      rw [if_neg (by omega), if_pos (by simp)]
      rw [Array.getElem?_setIfInBounds]
      simp; omega
    · by_cases h2 : off + 1 ≤ i ∧ i < off + 1 + r.length
      · rw [if_pos h2, if_pos (by simp; omega)]
        rw [show i - off = (i - (off + 1)) + 1 from by omega]; simp
      · rw [if_neg h2, if_neg (by simp; omega)]
        rw [Array.getElem?_setIfInBounds]
        simp [Ne.symm h1]

/-- The world in which block g holds vs. -/
def World.setBlock (w : World) (g : Nat) (vs : Array Value) (T : TypeId) : World := { w with heap := w.heap.setIfInBounds g (.cells vs T (0, 0)) }

theorem setBlock_get (g : Nat) (vs : Array Value) (T : TypeId) (i : Nat) : (World.setBlock w g vs T).heap[i]? = if i = g then (if g < w.heap.size then some (.cells vs T (0, 0)) else none) else w.heap[i]? := by
  unfold World.setBlock
  simp only [Array.getElem?_setIfInBounds]
  by_cases h : g = i
  · subst h; simp
  · simp [h, Ne.symm h]

theorem setBlock_size (g : Nat) (vs : Array Value) (T : TypeId) : (World.setBlock w g vs T).heap.size = w.heap.size := by
  simp [World.setBlock]

theorem setCell_block {g : Nat} {vs : Array Value} {T : TypeId} (h : w.heap[g]? = some (.cells vs T (0, 0))) (off : Nat) (v : Value) :
    w.setCell ⟨g, off, none⟩ v = World.setBlock w g (vs.setIfInBounds off v) T := by
  unfold World.setCell World.setBlock
  congr 1
  obtain ⟨hlt, hg⟩ := Array.getElem?_eq_some_iff.1 h
  apply Array.ext_getElem?
  intro i
  rw [Array.getElem?_modify, Array.getElem?_setIfInBounds]
  by_cases e : g = i
  · subst e; simp [hlt, hg]
  · simp [e]

theorem setBlock_set (g : Nat) (vs vs' : Array Value) (T T' : TypeId) : World.setBlock (World.setBlock w g vs T) g vs' T' = World.setBlock w g vs' T' := by
  unfold World.setBlock
  congr 1
  simp

theorem setBlock_same {g : Nat} {vs : Array Value} {T : TypeId} (h : w.heap[g]? = some (.cells vs T (0, 0))) : World.setBlock w g vs T = w := by
  unfold World.setBlock
  obtain ⟨hlt, hg⟩ := Array.getElem?_eq_some_iff.1 h
  have : w.heap.setIfInBounds g (.cells vs T (0, 0)) = w.heap := by
    apply Array.ext_getElem?
    intro i
    rw [Array.getElem?_setIfInBounds]
    by_cases e : g = i
    · subst e; simp [hlt, hg]
    · simp [e]
  rw [this]

theorem oneCell_eq {v : Value} (h : oneCell v = true) : v.oneCell' = true := by cases v <;> simp_all [oneCell, Value.oneCell']

theorem run_storeCells (g : Nat) (T : TypeId) (l : List Value) : ∀ (w : World) (vs : Array Value) (base i : Nat), w.heap[g]? = some (.cells vs T (0, 0)) → base + i + l.length ≤ vs.size → (∀ v ∈ l, oneCell v = true) →
    (storeCells ⟨g, base, none⟩ l i).run P w = .ok () (World.setBlock w g (setCells vs (base + i) l) T) := by
  induction l with
  | nil => intro w vs base i h _ _; simp [storeCells, setCells, setBlock_same h]
  | cons v r ih =>
    intro w vs base i h hl ho
    simp only [List.length_cons] at hl
    simp only [storeCells, Sem.run_bind]
    rw [run_store P w _ v .plain (oneCell_eq (ho v (by simp))), add_plain]
    have hc : w.cell? ⟨g, base + i, none⟩ = some vs[base + i] := by
      unfold World.cell?; rw [h]; simp
    have hf : w.frozen? ⟨g, base + i, none⟩ = false := by
      unfold World.frozen?; rw [h]; simp
    rw [hc, hf]
    simp only [Bool.false_eq_true, if_false, Result.andThen]
    rw [setCell_block h]
    have hlt := heap_some_lt h
    have h' : (World.setBlock w g (vs.setIfInBounds (base + i) v) T).heap[g]? = some (.cells (vs.setIfInBounds (base + i) v) T (0, 0)) := by rw [setBlock_get]; simp [hlt]
    rw [ih _ _ base (i + 1) h' (by simp; omega) (fun u hu => ho u (by simp [hu])), setBlock_set]
    rfl

theorem run_storeVar {t : TypeId} {i : TypeInfo} {g off : Nat} {T : TypeId} {vs : Array Value} {y : Value} {l : List Value} (hi : P.info? t = some i) (hy : y.cells = l.toArray) (hn : i.size = l.length)
    (hg : w.heap[g]? = some (.cells vs T (0, 0))) (hl : off + l.length ≤ vs.size) (ho : ∀ v ∈ l, oneCell v = true) :
    (storeVar t ⟨g, off, none⟩ y).run P w = .ok () (World.setBlock w g (setCells vs off l) T) := by
  simp only [storeVar, Sem.run_bind, run_sizeOf hi, Result.andThen]
  have : y.cells.size = i.size := by rw [hy, hn]; simp
  simp only [this, ne_eq, not_true_eq_false, if_false]
  rw [hy]
  simp only [List.toList_toArray]
  have := run_storeCells (P := P) g T l w vs off 0 hg (by omega) ho
  simpa [Result.andThen] using this

theorem run_newRow (T : TypeId) (cs : Array Value) : (newRow T cs).run P w = .ok ⟨w.heap.size, 0, none⟩ (World.add w (.cells cs T)) := by
  simp only [newRow, Sem.run_bind, run_newObj, Result.andThen]; rfl

end

section
variable {P : Program} {w : World}
theorem run_part_agg {t : TypeId} {d : TypeDesc} {i : TypeInfo} {cs : Array Value} {off : Nat} (hd : P.underlying t = some d) (hi : P.info? t = some i) (ha : isAggD d = true) :
    (part t cs off).run P w = .ok (.agg (cs.extract off (off + i.size))) w := by
  simp only [part, Sem.run_bind, run_isAgg hd, Result.andThen, ha, if_true, run_sizeOf hi]; rfl

theorem run_part_one {t : TypeId} {d : TypeDesc} {cs : Array Value} {off : Nat} {v : Value} (hd : P.underlying t = some d) (ha : isAggD d = false) (hv : cs[off]? = some v) :
    (part t cs off).run P w = .ok v w := by
  simp only [part, Sem.run_bind, run_isAgg hd, Result.andThen, ha, Bool.false_eq_true, if_false, hv]; rfl
end

/-- A struct of numbers. -/
def intVals : List IntKind → List Int → List Value
  | k :: ks, x :: xs => .int k x :: intVals ks xs
  | _, _ => []

/-- A struct's fields are numbers, one behind the other. -/
inductive IntFields (P : Program) : Nat → List Field → List IntKind → Prop where
  | nil (i : Nat) : IntFields P i [] []
  | cons {i : Nat} {f : Field} {fs : List Field} {k : IntKind} {ks : List IntKind} (h1 : f.offset = i) (h2 : f.name ≠ "_") (h3 : P.underlying f.type = some (.int k)) (h4 : IntFields P (i + 1) fs ks) : IntFields P i (f :: fs) (k :: ks)

/-- == at a struct of numbers. -/
def EqOK (P : Program) (t : TypeId) (ks : List IntKind) : Prop :=
  P.underlying t = some (.struct (P.fieldsOf t)) ∧ P.stoodInHeld t = false ∧ P.eqGuardType P.depth t = false ∧ IntFields P 0 (P.fieldsOf t).toList ks

theorem intVals_get : ∀ {ks : List IntKind} {xs : List Int} {i : Nat} {k : IntKind} {x : Int}, ks[i]? = some k → xs[i]? = some x → (intVals ks xs)[i]? = some (.int k x)
  | k :: ks, x :: xs, 0, _, _, h1, h2 => by simp at h1 h2; simp [intVals, h1, h2]
  | k :: ks, x :: xs, i + 1, _, _, h1, h2 => by simp only [intVals, List.getElem?_cons_succ] at h1 h2 ⊢; exact intVals_get h1 h2
  | [], _, _, _, _, h, _ => by simp at h
  | _ :: _, [], _, _, _, _, h => by simp at h

theorem eqFields_run {P : Program} (d : Nat) (w : World) (xs ys : Array Value) : ∀ {i : Nat} {fs : List Field} {ks : List IntKind} {as bs : List Int}, IntFields P i fs ks → as.length = ks.length → bs.length = ks.length →
    (∀ j v, (intVals ks as)[j]? = some v → xs[i + j]? = some v) → (∀ j v, (intVals ks bs)[j]? = some v → ys[i + j]? = some v) →
    (Op.eqFields (d + 1) xs ys fs).run P w = .ok (eqInts as bs) w := by
  intro i fs ks as bs h
  induction h generalizing as bs with
  | nil i =>
    intro ha hb _ _
    obtain rfl := List.length_eq_zero_iff.1 ha
    obtain rfl := List.length_eq_zero_iff.1 hb
    simp [Op.eqFields, eqInts]
  | cons h1 h2 h3 h4 ih =>
    intro ha hb hx hy
    cases as with
    | nil => simp at ha
    | cons a as =>
      cases bs with
      | nil => simp at hb
      | cons b bs =>
        have ea := hx 0 _ rfl
        have eb := hy 0 _ rfl
        rw [Nat.add_zero] at ea eb
        unfold Op.eqFields
        rw [if_pos h2]
        simp only [Sem.run_bind, h1]
        rw [run_part_one h3 rfl ea]
        simp only [Result.andThen]
        rw [run_part_one h3 rfl eb]
        simp only
        rw [run_equalIn_int w d _ _ _ a b h3]
        simp only
        have ih := ih (as := as) (bs := bs) (by simpa using ha) (by simpa using hb) (fun j v hj => by have := hx (j + 1) v (by simpa [intVals] using hj); rw [← this]; congr 1; omega) (fun j v hj => by have := hy (j + 1) v (by simpa [intVals] using hj); rw [← this]; congr 1; omega)
        cases hab : a == b with
        | true => simp [eqInts, hab, ih]
        | false => simp [eqInts, hab]

theorem EqOK.run {P : Program} {t : TypeId} {ks : List IntKind} (h : EqOK P t ks) {as bs : List Int} (ha : as.length = ks.length) (hb : bs.length = ks.length) (w : World) :
    (Op.equalIn 10000 t (.agg (intVals ks as).toArray) (.agg (intVals ks bs).toArray)).run P w = .ok (eqInts as bs) w := by
  rw [show (10000 : Nat) = 9999 + 1 from rfl, run_equalIn_struct w 9999 t _ _ h.1 h.2.1]
  exact eqFields_run 9998 w _ _ h.2.2.2 ha hb (fun j v hj => by simpa using hj) (fun j v hj => by simpa using hj)

end Go.Proofs.YtfgkcnoiplojkaaDoor.VI
