/- The value interpreter: variables, structs and slices that are written out. -/
import Derived.Test.YtfgkcnoiplojkaaDoorVk
namespace Go.Proofs.YtfgkcnoiplojkaaDoor.VI
open Go

theorem flatten_get {α : Type} (zc : List α) : ∀ (n i j : Nat), i < n → j < zc.length → ((List.replicate n zc).flatten)[i * zc.length + j]? = zc[j]? := by
  intro n
  induction n with
  | zero => intro i j h; omega
  | succ n ih =>
    intro i j hi hj
    rw [List.replicate_succ, List.flatten_cons]
    cases i with
    | zero => rw [Nat.zero_mul, Nat.zero_add, List.getElem?_append_left hj]
    | succ i =>
      rw [List.getElem?_append_right (by rw [Nat.add_mul]; omega)]
      rw [show (i + 1) * zc.length + j - zc.length = i * zc.length + j from by rw [Nat.add_mul]; omega]
      exact ih i j (by omega) hj

theorem foldl_setCells (l : List Value) : ∀ (cells : Array Value) (off k : Nat), (l.zipIdx k).foldl (fun cs (p : Value × Nat) => cs.setIfInBounds (off + p.2) p.1) cells = setCells cells (off + k) l := by
  induction l with
  | nil => intros; rfl
  | cons v r ih =>
    intro cells off k
    simp only [List.zipIdx_cons, List.foldl_cons, setCells]
    rw [ih]
    rfl

theorem fold_cells (v : Array Value) (cells : Array Value) (off : Nat) : v.zipIdx.foldl (fun cs (x : Value × Nat) => match x with | (c, j) => cs.setIfInBounds (off + j) c) cells = setCells cells off v.toList := by
  have h := foldl_setCells v.toList cells off 0
  rw [← Array.foldl_toList]
  have : v.zipIdx.toList = v.toList.zipIdx := by simp
  rw [this]
  exact h

section
variable {P : Program} {E : Env} {w : World} {Pr : Addr → Prop} {B : Nat → Option BX} {β : Nat → Option Nat} {T : Nat → Option CV} {ρ : Operand → Value}

theorem cellsOf_sound {v : CV} {y : Value} {cs : List Cell} (hv : CVR w Pr B β v y) (e : cellsOf v = some cs) : ∃ ys : List Value, y.cells = ys.toArray ∧ All2 (CellR w Pr B β) cs ys := by
  unfold cellsOf at e
  split at e
  · rename_i c
    obtain rfl := Option.some.inj e
    exact ⟨[y], oneCell_cells (CellR.one hv), .cons hv .nil⟩
  · rename_i cs'
    obtain rfl := Option.some.inj e
    obtain ⟨vs, rfl, h⟩ := hv
    exact ⟨vs, rfl, h⟩
  · cases e

theorem box_sound (hM : Mem w Pr B β) {k : Nat} (hk : B k = none) {t : TypeId} {v : CV} {y : Value} {cs : List Cell} (hv : CVR w Pr B β v y) (e : cellsOf v = some cs) :
    Ends P w Pr B β (Instr.box t y) ⟨.s (.c (.ptr k 0)), [(k, .cells cs)], []⟩ := by
  obtain ⟨ys, hy, ha⟩ := cellsOf_sound hv e
  refine ⟨.pointer (some ⟨w.heap.size, 0, none⟩), World.add w (.cells y.cells t), Pr, putβ β k (some w.heap.size), ?_, var_step hM hk t (by rw [hy]; exact ha), ptr_new⟩
  simp only [Instr.box, newVar, Sem.run_bind, run_newRow, Result.andThen]; rfl

theorem alloc_var_sound (hM : Mem w Pr B β) {k : Nat} {t : TypeId} {i : TypeInfo} {v : Value} {z : List Cell} (hi : P.info? t = some i) (hv : i.zero = some v) (hz : ZeroR z v.cells.toList)
    (hf : FreshB B ((fresh (k + 1) z).2 ++ [(k, .cells (fresh (k + 1) z).1)])) :
    Ends P w Pr B β (Instr.alloc t true (.tuple #[])) ⟨.s (.c (.ptr k 0)), (fresh (k + 1) z).2 ++ [(k, .cells (fresh (k + 1) z).1)], []⟩ := by
  rw [FreshB_append] at hf
  obtain ⟨β1, hs, ha⟩ := fresh_sound z v.cells.toList (k + 1) hM hz hf.1
  have h2 := var_step hs.mem hf.2.1 t ha
  refine ⟨.pointer (some ⟨w.heap.size, 0, none⟩), World.add w (.cells v.cells t), Pr, putβ β1 k (some w.heap.size), ?_, ?_, ?_⟩
  · simp only [Instr.alloc, Sem.run_bind, run_zeroValue hi hv, Result.andThen, newVar, run_newRow]; rfl
  · show Step w Pr B β _ Pr (updB B (_ ++ _)) _
    rw [updB_append]
    exact hs.trans h2
  · show CVR _ Pr (updB B (_ ++ _)) _ _ _
    rw [updB_append]
    exact ptr_new

theorem alloc_arr_sound (hM : Mem w Pr B β) {k : Nat} (hk : B k = none) {t : TypeId} {i : TypeInfo} {v : Value} {ez : List Cell} {zc : List Value} {ty : Ty} {z : ty.den} {n : Nat} (hi : P.info? t = some i) (hv : i.zero = some v)
    (hc : v.cells.toList = (List.replicate n zc).flatten) (hz : ZeroR ez zc) (e : ofCells1 ty ez = some z) :
    Ends P w Pr B β (Instr.alloc t true (.tuple #[])) ⟨.s (.c (.ptr k 0)), [(k, .arr false ty (List.replicate n z))], []⟩ := by
  have henc : EncE w Pr ty z zc := ofCells1_sound (B := B) (β := β) hz.cells e
  have hlen := EncE_len ty z zc henc
  refine ⟨.pointer (some ⟨w.heap.size, 0, none⟩), World.add w (.cells v.cells t), Pr, putβ β k (some w.heap.size), ?_, row_step hM hk t (fun j x hj => ?_), ptr_new⟩
  · simp only [Instr.alloc, Sem.run_bind, run_zeroValue hi hv, Result.andThen, newVar, run_newRow]; rfl
  · obtain ⟨hlt, he⟩ := List.getElem?_eq_some_iff.1 hj
    simp only [List.length_replicate] at hlt
    simp only [List.getElem_replicate] at he
    subst he
    refine ⟨zc, henc, fun jj u hu => ?_⟩
    rw [← Array.getElem?_toList, hc, ← hlen, flatten_get zc n j jj hlt (List.getElem?_eq_some_iff.1 hu).1]
    exact hu

def PartR (w : World) (Pr : Addr → Prop) (B : Nat → Option BX) (β : Nat → Option Nat) (a : Nat × List Cell) (b : Nat × Value) : Prop := a.1 = b.1 ∧ ∃ ys : List Value, b.2.cells = ys.toArray ∧ All2 (CellR w Pr B β) a.2 ys

theorem Step.parts {w w' : World} {Pr Pr' : Addr → Prop} {B B' : Nat → Option BX} {β β' : Nat → Option Nat} (h : Step w Pr B β w' Pr' B' β') {q : List (Nat × List Cell)} {ps : List (Nat × Value)} (k : All2 (PartR w Pr B β) q ps) : All2 (PartR w' Pr' B' β') q ps :=
  k.imp fun _ _ hx => ⟨hx.1, hx.2.elim fun ys hy => ⟨ys, hy.1, CellsR.ext h.since.keep h.since.grows h.since.shape h.since.ext hy.2⟩⟩

theorem partCells_sound (C : Ctx P E w Pr B β T ρ) : ∀ (ps : List (Nat × Operand)) (q : List (Nat × List Cell)), partCells T ps = some q →
    All2 (PartR w Pr B β) q (ps.map fun p => (p.1, ρ p.2))
  | [], q, h => by cases h; exact .nil
  | p :: r, q, h => by
    simp only [partCells, Option.bind_eq_some_iff, Option.map_eq_some_iff] at h
    obtain ⟨v, hv, cs, hcs, q', hq, rfl⟩ := h
    exact .cons ⟨rfl, cellsOf_sound (opv_sound C hv) hcs⟩ (partCells_sound C r q' hq)

/-- A struct's parts. -/
theorem fill_sound {fs : List (Nat × Nat × Bool)} {place : Nat → Option (Nat × Nat)} (hp : ∀ k f, fs[k]? = some f → place k = some (f.1, f.2.1)) :
    ∀ (q : List (Nat × List Cell)) (ps : List (Nat × Value)) (cs cs' : List Cell) (vs : Array Value),
      All2 (PartR w Pr B β) q ps → All2 (CellR w Pr B β) cs vs.toList → fillC fs cs q = some cs' →
      ∃ vs', Instr.fill place vs ps = some vs' ∧ All2 (CellR w Pr B β) cs' vs'.toList := by
  intro q
  induction q with
  | nil =>
    intro ps cs cs' vs h hc e
    cases h
    obtain rfl := Option.some.inj e
    exact ⟨vs, rfl, hc⟩
  | cons a q ih =>
    intro ps cs cs' vs h hc e
    cases h with
    | cons ha ht =>
      rename_i b ps
      obtain ⟨hab, ys, hys, hal⟩ := ha
      simp only [fillC, Option.bind_eq_some_iff] at e
      obtain ⟨f, hf, e⟩ := e
      cases hb : Nat.beq a.2.length f.2.1 && Nat.ble (f.1 + a.2.length) cs.length with
      | false => rw [hb] at e; cases e
      | true =>
        rw [hb] at e
        simp only [Bool.and_eq_true] at hb
        have h1 := Nat.eq_of_beq_eq_true hb.1
        have h2 := Nat.le_of_ble_eq_true hb.2
        have hyl := hal.length
        have hcl := hc.length
        simp only [Array.length_toList] at hcl
        have hroom : f.1 + ys.length ≤ vs.size := by omega
        obtain ⟨vs', hv', hc'⟩ := ih ps (putCells cs f.1 a.2) cs' (setCells vs f.1 ys) ht (by rw [setCells_list hroom]; exact putCells_all hc hal) e
        refine ⟨vs', ?_, hc'⟩
        obtain ⟨b1, b2⟩ := b
        simp only at hab hys
        subst hab
        simp only [Instr.fill, hp _ _ hf]
        have hsz : b2.cells.size = ys.length := by rw [hys]; simp
        rw [if_neg (by simp [hsz]; omega)]
        have := fold_cells b2.cells vs f.1
        rw [hys] at this
        simp only [List.toList_toArray] at this
        rw [hys]
        rw [this]
        exact hv'

theorem run_mapM_places (fields : Array Field) (g : Field → Nat × Nat) (h : ∀ f ∈ fields.toList, (do pure (f.offset, ← sizeOf f.type) : Sem (Nat × Nat)).run P w = .ok (g f) w) :
    (fields.mapM fun f => do pure (f.offset, ← sizeOf f.type) : Sem (Array (Nat × Nat))).run P w = .ok (fields.map g) w := by
  rw [Array.mapM_eq_mapM_toList]
  have key : ∀ l : List Field, (∀ f ∈ l, (do pure (f.offset, ← sizeOf f.type) : Sem (Nat × Nat)).run P w = .ok (g f) w) →
      (l.mapM fun f => (do pure (f.offset, ← sizeOf f.type) : Sem (Nat × Nat))).run P w = .ok (l.map g) w := by
    intro l
    induction l with
    | nil => intro _; simp
    | cons f r ih =>
      intro hl
      rw [List.mapM_cons, Sem.run_bind, hl f (by simp)]
      simp only [Result.andThen, Sem.run_bind]
      rw [ih fun f hf => hl f (by simp [hf])]
      simp
  rw [Sem.run_map, key _ h]
  simp only [Result.andThen]
  congr 1
  apply Array.toList_inj.1
  simp

theorem build_sound (C : Ctx P E w Pr B β T ρ) {k : Nat} {t : TypeId} {td : TD} (ht : E.tt t = some td) {fs : List (Nat × Nat × Bool)} (hk : td.kind = .struct fs) {ps : Array (Nat × Operand)} {q : List (Nat × List Cell)} {z cs : List Cell}
    (hq : partCells T ps.toList = some q) (hz : td.zero = some z) (e : fillC fs (fresh k z).1 q = some cs) (hf : FreshB B (fresh k z).2) :
    Ends P w Pr B β (Instr.build t (ps.map fun p => (p.1, ρ p.2))) ⟨.s (.agg cs), (fresh k z).2, []⟩ := by
  obtain ⟨i, d, hi, hd, hs, ha, hzero, hkind⟩ := (C.tt t td ht).out
  rw [hk] at hkind
  obtain ⟨fields, rfl, hfl, hfs⟩ := hkind
  obtain ⟨v, hv, hzr, _⟩ := hzero z hz
  obtain ⟨β1, hst, hall⟩ := fresh_sound z v.cells.toList k C.mem hzr hf
  have hparts := hst.parts (partCells_sound C ps.toList q hq)
  let g : Field → Nat × Nat := fun f => (f.offset, ((P.info? f.type).map (·.size)).getD 0)
  have hget : ∀ (k : Nat) (fd : Field), fields[k]? = some fd → ∃ f, fs[k]? = some f ∧ ∃ i, P.info? fd.type = some i ∧ i.size = f.2.1 ∧ fd.offset = f.1 := by
    intro k fd hfd
    have hlt := (Array.getElem?_eq_some_iff.1 hfd).1
    have hf' : fs[k]? = some (fs[k]'(by omega)) := List.getElem?_eq_getElem _
    obtain ⟨fd', i', dd, h1, h2, h3, h4, _⟩ := hfs k _ hf'
    rw [hfd] at h1; obtain rfl := Option.some.inj h1
    exact ⟨_, hf', i', h3, h4, h2⟩
  have hplaces : (fields.mapM fun f => do pure (f.offset, ← sizeOf f.type) : Sem (Array (Nat × Nat))).run P w = .ok (fields.map g) w := by
    refine run_mapM_places fields g fun f hmem => ?_
    obtain ⟨j, hj, hfj⟩ := List.getElem_of_mem hmem
    obtain ⟨f', _, i', h3, h4, h2⟩ := hget j f (by rw [← Array.getElem?_toList, List.getElem?_eq_getElem hj, hfj])
    simp only [Sem.run_bind, run_sizeOf h3, Result.andThen, Sem.run_pure, g, h3]
    rfl
  obtain ⟨vs', hfill, hall'⟩ := fill_sound (fs := fs) (place := ((fields.map g)[·]?)) (fun k f hf' => by
    obtain ⟨fd', i', dd, h1, h2, h3, h4, _⟩ := hfs k f hf'
    simp only [Array.getElem?_map, h1, Option.map_some, g, h3, h2, h4, Option.getD_some]) q _ _ cs v.cells hparts hall e
  refine ⟨.agg vs', w, Pr, β1, ?_, hst, vs'.toList, by simp, hall'⟩
  simp only [Instr.build, Sem.run_bind, run_zeroValue hi hv, Result.andThen, run_underlying hd]
  rw [hplaces]
  simp only [Array.toList_map]
  rw [hfill]
  rfl

/-- A slice that is written out. -/
theorem elems_sound {ty : Ty} {size : Nat} (hs : size = ty.size) : ∀ (q : List (Nat × List Cell)) (i : Nat) (ps : List (Nat × Value)) (xs : List ty.den) (u : List (Nat × BX)) (vs : Array Value) {B1 : Nat → Option BX} {P1 : Addr → Prop}, Mem w P1 B1 β → Frz B B1 →
    All2 (PartR w P1 B1 β) q ps → elemsC B ty i q = some (xs, u) → (i + q.length) * size ≤ vs.size →
    ∃ P2 vs', Step w P1 B1 β w P2 (updB B1 u) β ∧ Instr.fill (fun i => some (i * size, size)) vs ps = some vs' ∧ vs'.size = vs.size ∧ (∀ j, j < i * size → vs'[j]? = vs[j]?) ∧ xs.length = q.length ∧
      (∀ j x, xs[j]? = some x → ∃ es, EncE w P2 ty x es ∧ ∀ jj v, es[jj]? = some v → vs'[(i + j) * size + jj]? = some v) := by
  intro q
  induction q with
  | nil =>
    intro i ps xs u vs B1 P1 hM hz h e hr
    cases h
    simp only [elemsC, Option.some.injEq, Prod.mk.injEq] at e
    obtain ⟨rfl, rfl⟩ := e
    exact ⟨P1, vs, Step.refl hM, rfl, rfl, fun _ _ => rfl, rfl, fun j x hj => by simp at hj⟩
  | cons a q ih =>
    intro i ps xs u vs B1 P1 hM hz h e hr
    cases h with
    | cons ha ht =>
      rename_i b ps
      obtain ⟨hab, ys, hys, hal⟩ := ha
      simp only [elemsC] at e
      cases hb : Nat.beq a.1 i with
      | false => rw [hb] at e; cases e
      | true =>
        rw [hb] at e
        simp only [cond_true, Option.bind_eq_some_iff, Option.map_eq_some_iff, Prod.mk.injEq] at e
        obtain ⟨s, hs1, x, hx, r, hr1, rfl, rfl⟩ := e
        have hai := Nat.eq_of_beq_eq_true hb
        obtain ⟨P2, hst, hz2, hal2⟩ := stills_sound a.2 ys s.1 s.2 hM hz hal hs1
        have henc : EncE w P2 ty x ys := ofCells1_sound hal2 hx
        have hlen := EncE_len ty x ys henc
        simp only [List.length_cons] at hr
        have e1 : (i + 1) * size = i * size + size := by rw [Nat.add_mul, Nat.one_mul]
        have e2 : (i + (q.length + 1)) * size = (i + 1 + q.length) * size := by congr 1; omega
        have e3 : (i + 1) * size ≤ (i + 1 + q.length) * size := Nat.mul_le_mul_right _ (by omega)
        have hroom : i * size + ys.length ≤ vs.size := by omega
        have ht' := hst.parts ht
        obtain ⟨P3, vs', hst3, hfill, hsz, hlow, hxl, hel⟩ := ih (i + 1) ps r.1 r.2 (setCells vs (i * size) ys) hst.mem hz2 ht' hr1 (by rw [setCells_size]; omega)
        rw [updB_append]
        refine ⟨P3, vs', hst.trans hst3, ?_, by rw [hsz, setCells_size], ?_, by simp [hxl], ?_⟩
        · obtain ⟨b1, b2⟩ := b
          simp only at hab hys
          rw [← hab, hai]
          simp only [Instr.fill]
          have hsz2 : b2.cells.size = ys.length := by rw [hys]; simp
          rw [if_neg (by simp [hsz2]; omega)]
          have hfc := fold_cells b2.cells vs (i * size)
          rw [hys] at hfc
          simp only [List.toList_toArray] at hfc
          rw [hys, hfc]
          exact hfill
        · intro j hj
          rw [hlow j (by omega), setCells_get _ _ _ _ hroom, if_neg (by omega)]
        · intro j y hj
          cases j with
          | zero =>
            simp only [List.getElem?_cons_zero, Option.some.injEq] at hj
            subst hj
            refine ⟨ys, EncE_mono hst3.since.keep hst3.since.grows _ _ _ henc, fun jj v hv => ?_⟩
            have hjj := (List.getElem?_eq_some_iff.1 hv).1
            rw [Nat.add_zero, hlow _ (by omega), setCells_get _ _ _ _ hroom, if_pos (by omega)]
            rw [← hv]; congr 1; omega
          | succ j =>
            obtain ⟨es, h1, h2⟩ := hel j y (by simpa using hj)
            exact ⟨es, h1, fun jj v hv => by rw [show i + (j + 1) = i + 1 + j from by omega]; exact h2 jj v hv⟩

theorem buildSlice_sound (C : Ctx P E w Pr B β T ρ) {k : Nat} {t : TypeId} {td : TD} (ht : E.tt t = some td) {eb : Nat} {ez : List Cell} {ty : Ty} (hk : td.kind = .slice eb ez ty) {n : Nat} {ps : Array (Nat × Operand)} {q : List (Nat × List Cell)} {xs : List ty.den} {u : List (Nat × BX)}
    (hn : ps.size = n) (hle : n * ty.size ≤ 16777216) (hq : partCells T ps.toList = some q) (e : elemsC B ty 0 q = some (xs, u)) (hf : updB B u k = none) :
    Ends P w Pr B β (Instr.buildSlice t n (ps.map fun p => (p.1, ρ p.2))) ⟨.s (.c (.own k)), [(k, .arr false ty xs)], u⟩ := by
  obtain ⟨i, d, hi, hd, hs, ha, hzero, hkind⟩ := (C.tt t td ht).out
  rw [hk] at hkind
  obtain ⟨el, ie, ze, rfl, hie, hsz, _, _, hze, hzr, hzs, _⟩ := hkind
  have hparts := partCells_sound C ps.toList q hq
  have hql : q.length = n := by rw [hparts.length]; simp [hn]
  let cells0 : Array Value := if n * ie.size = 0 then #[] else ze.cells
  let start : Array Value := (Array.range (n * ie.size)).map (cells0[· % cells0.size]!)
  have hstart : start.size = n * ie.size := by simp [start]
  obtain ⟨P2, vs', hst, hfill, hvs, _, hxl, hel⟩ := elems_sound hsz q 0 _ xs u start C.mem (Frz.refl B) hparts e (by rw [hstart, hql]; simp)
  have harr : ArrR w P2 ty xs vs' := by
    intro j x hj
    obtain ⟨es, h1, h2⟩ := hel j x hj
    exact ⟨es, h1, fun jj v hv => by have := h2 jj v hv; rw [Nat.zero_add, hsz] at this; exact this⟩
  have h2 := row_step hst.mem hf el harr
  refine ⟨.slice (some ⟨w.heap.size, 0, none⟩) n n, World.add w (.cells vs' el), P2, putβ β k (some w.heap.size), ?_, hst.trans h2, ?_⟩
  · simp only [Instr.buildSlice, Sem.run_bind, run_underlying hd, Result.andThen, run_sizeOf hie]
    rw [if_neg (by rw [hsz]; omega)]
    by_cases h0 : n * ie.size = 0
    · simp only [h0, if_true, Sem.run_bind, Sem.run_pure, Result.andThen]
      have : start = (Array.range 0).map ((#[] : Array Value)[· % (#[] : Array Value).size]!) := by simp [start, cells0, h0]
      rw [this] at hfill
      simp only [Array.toList_map]
      rw [hfill]
      simp only [Sem.run_bind, run_newRow, Result.andThen, Sem.run_pure]
    · simp only [h0, if_false, Sem.run_bind, run_zeroValue hie hze, Result.andThen, Sem.run_pure]
      have : start = (Array.range (n * ie.size)).map (ze.cells[· % ze.cells.size]!) := by simp [start, cells0, h0]
      rw [this] at hfill
      simp only [Array.toList_map]
      rw [hfill]
      simp only [Sem.run_bind, run_newRow, Result.andThen, Sem.run_pure]
  · have hxn : xs.length = n := hxl.trans hql
    have := own_new (w := w) (Pr := P2) (B := updB B u) (β := β) (k := k) (ty := ty) (xs := xs) (vs := vs') (T' := el) (c := n) (by omega) (by rw [hvs, hstart, hsz]; omega)
    rw [hxn] at this
    exact this
end
end Go.Proofs.YtfgkcnoiplojkaaDoor.VI
