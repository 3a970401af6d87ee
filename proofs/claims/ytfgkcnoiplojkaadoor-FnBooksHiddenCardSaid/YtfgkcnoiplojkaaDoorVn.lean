/- The value interpreter: appends, in place and moved. -/
import Derived.Test.YtfgkcnoiplojkaaDoorVm
namespace Go.Proofs.YtfgkcnoiplojkaaDoor.VI
open Go

section
variable {P : Program} {E : Env} {w : World} {Pr : Addr → Prop} {B : Nat → Option BX} {β : Nat → Option Nat} {T : Nat → Option CV} {ρ : Operand → Value}

/-- What append does, but for where. -/
theorem run_append {t u e : TypeId} {ie : TypeInfo} {ze : Value} {ty : Ty} {xs ys : List ty.den} {base : Option Addr} {c : Nat} {sy : Value} {type : TypeId} {L0 L : List Value}
    (ht : P.underlying t = some (.slice e)) (hu : P.underlying u = some .string ∨ ∃ e2, P.underlying u = some (.slice e2)) (hi : P.info? e = some ie) (hs : ie.size = ty.size) (hb : ie.bytes ≠ 0) (hz : ie.zero = some ze) (hzs : ze.cells.size = ty.size)
    (hroom : (xs.length + ys.length) * ie.bytes ≤ 140737488355328) (hc : xs.length ≤ c)
    (hx : ∀ w1 : World, w1.heap = w.heap → (Builtin.firstCells ty.size xs.length (.slice base xs.length c)).run P w1 = .ok L0.toArray w1)
    (hy : ∀ w1 : World, w1.heap = w.heap → (Builtin.lenOf sy).run P w1 = .ok ys.length w1 ∧ (Builtin.firstCells ty.size ys.length sy).run P w1 = .ok L.toArray w1) :
    (xs.length + ys.length ≤ c ∧ (Builtin.append_ #[t, u] type #[.slice base xs.length c, sy]).run P w =
        (match base with
          | some a => ((storeCells (a.add (xs.length * ty.size)) L).run P w).andThen fun _ w' => .ok (.slice base (xs.length + ys.length) c) w'
          | none => .ok (.slice none (xs.length + ys.length) c) w)) ∨
    (c < xs.length + ys.length ∧ ∃ (m n : Nat) (rest : Array Value), xs.length + ys.length ≤ m ∧ rest.size = (m - (xs.length + ys.length)) * ty.size ∧
      (Builtin.append_ #[t, u] type #[.slice base xs.length c, sy]).run P w = .ok (.slice (some ⟨w.heap.size, 0, none⟩) (xs.length + ys.length) m) (World.add { w with drawn := n } (.cells (L0.toArray ++ L.toArray ++ rest) e))) := by
  by_cases hle : xs.length + ys.length ≤ c
  · left
    refine ⟨hle, ?_⟩
    rcases hu with hu | ⟨e2, hu⟩
    all_goals
      unfold Builtin.append_
      simp only [List.getElem?_toArray, List.getElem?_cons_zero, List.getElem?_cons_succ, Sem.run_bind, run_underlying ht, run_underlying hu, Result.andThen, run_sizeOf hi, Sem.run_pure, Bool.false_eq_true, if_false, Bool.not_false, if_true, (hy w rfl).1, hle, hs, (hy w rfl).2, List.toList_toArray]
      cases base with
      | none => simp
      | some a => simp [Result.andThen]
  · right
    refine ⟨by omega, ?_⟩
    have hn : ¬ (Builtin.nextslicecap (xs.length + ys.length) c * ie.bytes > 2 ^ 48) := by
      have := nextslicecap_le (n := xs.length + ys.length) (c := c) (by omega)
      have h2 := Nat.mul_le_mul_right ie.bytes this
      rw [Nat.mul_assoc] at h2
      omega
    have hm := Nat.zero_le
    let m := xs.length + ys.length + (w.tape w.drawn (.appendCap (xs.length + ys.length) c e)) % (2 ^ 63 - (xs.length + ys.length))
    refine ⟨m, w.drawn + 1, Builtin.zeroCells ze.cells (m - (xs.length + ys.length)), by omega, by simp [Builtin.zeroCells, hzs], ?_⟩
    have hx1 := hx { w with drawn := w.drawn + 1 } rfl
    have hy1 := (hy { w with drawn := w.drawn + 1 } rfl).2
    rcases hu with hu | ⟨e2, hu⟩
    all_goals
      unfold Builtin.append_
      simp only [List.getElem?_toArray, List.getElem?_cons_zero, List.getElem?_cons_succ, Sem.run_bind, run_underlying ht, run_underlying hu, Result.andThen, run_sizeOf hi, Sem.run_pure, Bool.false_eq_true, if_false, Bool.not_false, if_true, (hy w rfl).1, hle, hs, run_typeInfo hi, hb, false_or, and_false, or_self, hn, run_choose, Question.forced, Question.cut, run_askRoom, hx1, hy1, run_zeroValue hi hz, run_newRow]
      rfl

theorem ListR.one {ty : Ty} {xs : List ty.den} {L : List Value} (h : ListR w Pr ty xs L) : ∀ v ∈ L, oneCell v = true := by
  intro v hv
  obtain ⟨j, hj, rfl⟩ := List.getElem_of_mem hv
  have hp := size_pos ty
  have hlt : j / ty.size < xs.length := by
    rw [Nat.div_lt_iff_lt_mul hp, ← h.1]; exact hj
  obtain ⟨es, h1, h2⟩ := h.2 (j / ty.size) _ (List.getElem?_eq_getElem hlt)
  have hl := EncE_len ty _ es h1
  have hmod : j % ty.size < es.length := by rw [hl]; exact Nat.mod_lt _ hp
  have := h2 (j % ty.size) _ (List.getElem?_eq_getElem hmod)
  rw [show j / ty.size * ty.size + j % ty.size = j from by rw [Nat.mul_comm]; exact Nat.div_add_mod j ty.size, List.getElem?_eq_getElem hj] at this
  rw [Option.some.inj this]
  exact EncE_one ty _ es h1 _ (List.getElem_mem hmod)

theorem ListR.arr {ty : Ty} {xs : List ty.den} {L : List Value} (h : ListR w Pr ty xs L) (rest : Array Value) : ArrR w Pr ty xs (L.toArray ++ rest) := by
  intro i x hi
  obtain ⟨es, h1, h2⟩ := h.2 i x hi
  refine ⟨es, h1, fun j v hv => ?_⟩
  have := h2 j v hv
  rw [Array.getElem?_append_left (by simpa using (List.getElem?_eq_some_iff.1 this).1)]
  simpa using this

/-- A row in a new block, behind a draw. -/
theorem moved_row (hM : Mem w Pr B β) {k : Nat} (hk : B k = none) {ty : Ty} {zs : List ty.den} {L : List Value} (hL : ListR w Pr ty zs L) {m n : Nat} {rest : Array Value} {e : TypeId} (hm : zs.length ≤ m) (hr : rest.size = (m - zs.length) * ty.size) :
    Step w Pr B β (World.add { w with drawn := n } (.cells (L.toArray ++ rest) e)) Pr (putB B k (.arr false ty zs)) (putβ β k (some w.heap.size)) ∧
    CVR (World.add { w with drawn := n } (.cells (L.toArray ++ rest) e)) Pr (putB B k (.arr false ty zs)) (putβ β k (some w.heap.size)) (.s (.c (.own k))) (.slice (some ⟨w.heap.size, 0, none⟩) zs.length m) := by
  have h0 : Step w Pr B β { w with drawn := n } Pr B β := Step.same hM rfl ⟨rfl, rfl, rfl⟩
  have hL' : ListR { w with drawn := n } Pr ty zs L := ⟨hL.1, fun i x hi => by
    obtain ⟨es, h1, h2⟩ := hL.2 i x hi
    exact ⟨es, EncE_mono h0.since.keep (fun _ h => h) _ _ _ h1, h2⟩⟩
  refine ⟨h0.trans (row_step h0.mem hk e (hL'.arr rest)), own_new hm ?_⟩
  simp only [Array.size_append, List.size_toArray, hL.1, hr, ← Nat.add_mul]
  rw [show zs.length + (m - zs.length) = m from by omega]
  exact Nat.le_refl _

theorem append_nil_sound (hM : Mem w Pr B β) {k : Nat} (hk : B k = none) {t u e type : TypeId} {ie : TypeInfo} {ze : Value} {ty : Ty} {ys : List ty.den} {sy : Value}
    (ht : P.underlying t = some (.slice e)) (hu : P.underlying u = some .string ∨ ∃ e2, P.underlying u = some (.slice e2)) (hi : P.info? e = some ie) (hs : ie.size = ty.size) (hb : ie.bytes ≠ 0) (hz : ie.zero = some ze) (hzs : ze.cells.size = ty.size)
    (hroom : ys.length * ie.bytes ≤ 140737488355328) (hy : SrcR P w Pr ty ys sy) :
    Ends P w Pr B β (Builtin.append_ #[t, u] type #[.slice none 0 0, sy]) ⟨.s (.c (.own k)), [(k, .arr false ty ys)], []⟩ := by
  obtain ⟨L, hL, hrun⟩ := hy
  have h := run_append (P := P) (w := w) (ty := ty) (xs := []) (ys := ys) (base := none) (c := 0) (sy := sy) (type := type) (L0 := []) (L := L) ht hu hi hs hb hz hzs (by simpa using hroom) (Nat.le_refl _) (fun _ _ => rfl) hrun
  simp only [List.length_nil, Nat.zero_add, List.nil_append] at h
  rcases h with ⟨hle, h⟩ | ⟨hlt, m, n, rest, hm, hr, h⟩
  · have hnil : ys = [] := List.length_eq_zero_iff.1 (by omega)
    subst hnil
    exact ⟨_, w, Pr, putβ β k none, h, Step.nil hM hk ty, own_nil (w := w) (Pr := Pr)⟩
  · obtain ⟨h1, h2⟩ := moved_row (n := n) (e := e) hM hk hL hm hr
    refine ⟨_, _, Pr, _, ?_, h1, h2⟩
    rw [h]
    simp

theorem append_own_sound (hM : Mem w Pr B β) {b k : Nat} (hk : B k = none) {t u e type : TypeId} {ie : TypeInfo} {ze : Value} {ty : Ty} {xs ys : List ty.den} {s sy : Value}
    (ht : P.underlying t = some (.slice e)) (hu : P.underlying u = some .string ∨ ∃ e2, P.underlying u = some (.slice e2)) (hi : P.info? e = some ie) (hs : ie.size = ty.size) (hbz : ie.bytes ≠ 0) (hz : ie.zero = some ze) (hzs : ze.cells.size = ty.size)
    (hroom : (xs.length + ys.length) * ie.bytes ≤ 140737488355328) (hb : B b = some (.arr false ty xs)) (ho : OwnV w (β b) ty.size xs.length s) (hy : SrcR P w Pr ty ys sy) :
    Ends P w Pr B β (Builtin.append_ #[t, u] type #[s, sy]) ⟨.s (.c (.own k)), [(k, .arr false ty (xs ++ ys))], [(b, .gone)]⟩ := by
  have hne : k ≠ b := by rintro rfl; rw [hk] at hb; cases hb
  have hgone := Step.gone hM hb (by simp)
  have hk1 : putB B b .gone k = none := by simp [putB, hne, hk]
  obtain ⟨L0, hL0, hrun0⟩ := own_src (P := P) hM hb ho
  obtain ⟨L, hL, hrun⟩ := hy
  have happ := hL0.append hL
  unfold OwnV at ho
  cases hg : β b with
  | none =>
    rw [hg] at ho
    obtain ⟨rfl, hlen⟩ := ho
    have hxs : xs = [] := List.length_eq_zero_iff.1 hlen
    subst hxs
    have hL0' : L0 = [] := List.length_eq_zero_iff.1 (by rw [hL0.1]; simp)
    subst hL0'
    have h := run_append (P := P) (w := w) (ty := ty) (xs := []) (ys := ys) (base := none) (c := 0) (sy := sy) (type := type) (L0 := []) (L := L) ht hu hi hs hbz hz hzs hroom (Nat.le_refl _) (fun _ _ => rfl) hrun
    simp only [List.length_nil, Nat.zero_add, List.nil_append] at h happ ⊢
    rcases h with ⟨hle, h⟩ | ⟨hlt, m, n, rest, hm, hr, h⟩
    · have hnil : ys = [] := List.length_eq_zero_iff.1 (by omega)
      subst hnil
      exact ⟨_, w, Pr, putβ β k none, h, hgone.trans (Step.nil hgone.mem hk1 ty), own_nil (w := w) (Pr := Pr)⟩
    · obtain ⟨h1, h2⟩ := moved_row (n := n) (e := e) hgone.mem hk1 hL hm hr
      refine ⟨_, _, Pr, _, ?_, hgone.trans h1, h2⟩
      rw [h]
      simp
  | some g =>
    rw [hg] at ho
    obtain ⟨c, vs, T', rfl, hcap, hh, hsz⟩ := ho
    have h := run_append (P := P) (w := w) (ty := ty) (xs := xs) (ys := ys) (base := some ⟨g, 0, none⟩) (c := c) (sy := sy) (type := type) (L0 := L0) (L := L) ht hu hi hs hbz hz hzs hroom hcap (fun w1 hw => (hrun0 w1 hw).2) hrun
    rcases h with ⟨hle, h⟩ | ⟨hlt, m, n, rest, hm, hr, h⟩
    · have hbox := hM.box b _ hb
      unfold BXR at hbox
      rw [hg] at hbox
      obtain ⟨vs', T'', hh', harr, hnp, _⟩ := hbox
      rw [hh] at hh'; cases hh'
      have hnp := hnp rfl
      have hfit : xs.length * ty.size + L.length ≤ vs.size := by
        rw [hL.1, ← Nat.add_mul]
        exact Nat.le_trans (Nat.mul_le_mul_right _ hle) hsz
      have hst := run_storeCells (P := P) g T' L w vs (xs.length * ty.size) 0 hh (by simpa using hfit) hL.one
      have hshape := setBlock_shape (vs' := setCells vs (xs.length * ty.size) L) hh (setCells_size _ _ _)
      have hkeep := setBlock_keep (w := w) (vs' := setCells vs (xs.length * ty.size) L) (T' := T') hnp
      refine ⟨.slice (some ⟨g, 0, none⟩) (xs ++ ys).length c, World.setBlock w g (setCells vs (xs.length * ty.size) L) T', Pr, putβ β k (some g), ?_, ?_, ?_⟩
      · rw [h]
        simp only [add_plain, Nat.zero_add, Nat.add_zero] at hst ⊢
        rw [hst]
        simp [Result.andThen]
      · refine Step.move hM hb (by simp) hg hk ⟨rfl, rfl, rfl⟩ (fun i hi => by rw [setBlock_get, if_neg hi]) (setBlock_size _ _ _) hshape hkeep (fun _ => ?_)
        unfold BXR
        simp only [putβ, if_true]
        refine ⟨setCells vs (xs.length * ty.size) L, T', by rw [setBlock_get]; simp [heap_some_lt hh], fun i x hi => ?_, fun _ => hnp, fun h => by cases h⟩
        by_cases hix : i < xs.length
        · rw [List.getElem?_append_left hix] at hi
          obtain ⟨es, h1, h2⟩ := harr i x hi
          have hel := EncE_len ty x es h1
          refine ⟨es, EncE_mono hkeep (fun _ h => h) _ _ _ h1, fun j v hv => ?_⟩
          have hj := (List.getElem?_eq_some_iff.1 hv).1
          have : (i + 1) * ty.size ≤ xs.length * ty.size := Nat.mul_le_mul_right _ hix
          rw [Nat.add_mul, Nat.one_mul] at this
          rw [setCells_get _ _ _ _ hfit, if_neg (by omega)]
          exact h2 j v hv
        · rw [List.getElem?_append_right (by omega)] at hi
          obtain ⟨es, h1, h2⟩ := hL.2 _ x hi
          refine ⟨es, EncE_mono hkeep (fun _ h => h) _ _ _ h1, fun j v hv => ?_⟩
          have h3 := h2 j v hv
          have h4 := (List.getElem?_eq_some_iff.1 h3).1
          have e1 : i * ty.size = xs.length * ty.size + (i - xs.length) * ty.size := by rw [← Nat.add_mul]; congr 1; omega
          rw [setCells_get _ _ _ _ hfit, if_pos (by omega)]
          rw [← h3]; congr 1; omega
      · refine ⟨⟨_, _, _, rfl⟩, .arr false ty (xs ++ ys), by simp [updB, putB], fun ro ty' xs' he => ?_⟩
        cases he
        simp only [putβ, if_true]
        exact ⟨c, setCells vs (xs.length * ty.size) L, T', rfl, by simpa using hle, by rw [setBlock_get]; simp [heap_some_lt hh], by rw [setCells_size]; exact hsz⟩
    · obtain ⟨h1, h2⟩ := moved_row (n := n) (e := e) (m := m) (rest := rest) hgone.mem hk1 happ (by simpa using hm) (by simpa using hr)
      refine ⟨_, _, Pr, _, ?_, hgone.trans h1, h2⟩
      rw [h]
      simp

/-- Cells are put into a box's row. -/
theorem splice_sound (hM : Mem w Pr B β) {b : Nat} {ty : Ty} {xs ys : List ty.den} {L : List Value} {p : Nat} (hb : B b = some (.arr false ty xs)) (hL : ListR w Pr ty ys L) (hp : p + ys.length ≤ xs.length)
    {g : Nat} (hg : β b = some g) {vs : Array Value} {T' : TypeId} (hh : w.heap[g]? = some (.cells vs T' (0, 0))) (hsz : xs.length * ty.size ≤ vs.size) :
    ∃ w', (storeCells ⟨g, p * ty.size, none⟩ L).run P w = .ok () w' ∧ Step w Pr B β w' Pr (putB B b (.arr false ty (splice xs p ys))) β := by
  have hbox := hM.box b _ hb
  unfold BXR at hbox
  rw [hg] at hbox
  obtain ⟨vs', T'', hh', harr, hnp, _⟩ := hbox
  rw [hh] at hh'; cases hh'
  have hnp := hnp rfl
  have hfit : p * ty.size + L.length ≤ vs.size := by
    rw [hL.1, ← Nat.add_mul]
    exact Nat.le_trans (Nat.mul_le_mul_right _ hp) hsz
  have hst := run_storeCells (P := P) g T' L w vs (p * ty.size) 0 hh (by simpa using hfit) hL.one
  have hshape := setBlock_shape (vs' := setCells vs (p * ty.size) L) hh (setCells_size _ _ _)
  have hkeep := setBlock_keep (w := w) (vs' := setCells vs (p * ty.size) L) (T' := T') hnp
  have hlen : (splice xs p ys).length = xs.length := by simp [splice]; omega
  refine ⟨_, hst, ?_⟩
  rw [Nat.add_zero]
  refine Step.put hM hb (by simp) ⟨rfl, hlen.symm, fun h => by cases h⟩ ⟨rfl, rfl, rfl⟩ (fun i hi => ?_) (setBlock_size _ _ _) hshape hkeep (fun _ h => h) (fun _ h => .inl h) (fun _ he => ?_) (fun _ _ h => h)
  · rw [setBlock_get, if_neg]
    rintro rfl
    exact hi hg
  · unfold BXR
    rw [hg]
    refine ⟨setCells vs (p * ty.size) L, T', by rw [setBlock_get]; simp [heap_some_lt hh], fun i x hi => ?_, fun _ => hnp, fun h => by cases h⟩
    unfold splice at hi
    by_cases h1 : i < p
    · rw [List.getElem?_append_left (by simp; omega), List.getElem?_take, if_pos h1] at hi
      obtain ⟨es, h2, h3⟩ := harr i x hi
      have hel := EncE_len ty x es h2
      refine ⟨es, EncE_mono hkeep (fun _ h => h) _ _ _ h2, fun j v hv => ?_⟩
      have hj := (List.getElem?_eq_some_iff.1 hv).1
      have : (i + 1) * ty.size ≤ p * ty.size := Nat.mul_le_mul_right _ h1
      rw [Nat.add_mul, Nat.one_mul] at this
      rw [setCells_get _ _ _ _ hfit, if_neg (by omega)]
      exact h3 j v hv
    · have htl : (xs.take p).length = p := by simp; omega
      rw [List.getElem?_append_right (by omega), htl] at hi
      by_cases h2 : i - p < ys.length
      · rw [List.getElem?_append_left h2] at hi
        obtain ⟨es, h3, h4⟩ := hL.2 _ x hi
        refine ⟨es, EncE_mono hkeep (fun _ h => h) _ _ _ h3, fun j v hv => ?_⟩
        have h5 := h4 j v hv
        have h6 := (List.getElem?_eq_some_iff.1 h5).1
        have e1 : i * ty.size = p * ty.size + (i - p) * ty.size := by rw [← Nat.add_mul]; congr 1; omega
        rw [setCells_get _ _ _ _ hfit, if_pos (by omega)]
        rw [← h5]; congr 1; omega
      · rw [List.getElem?_append_right (by omega), List.getElem?_drop, show p + ys.length + (i - p - ys.length) = i from by omega] at hi
        obtain ⟨es, h3, h4⟩ := harr i x hi
        have hel := EncE_len ty x es h3
        refine ⟨es, EncE_mono hkeep (fun _ h => h) _ _ _ h3, fun j v hv => ?_⟩
        have : (p + ys.length) * ty.size ≤ i * ty.size := Nat.mul_le_mul_right _ (by omega)
        rw [Nat.add_mul, ← hL.1] at this
        rw [setCells_get _ _ _ _ hfit, if_neg (by omega)]
        exact h4 j v hv

theorem append_view_sound (hM : Mem w Pr B β) {b off n k : Nat} {t u e type : TypeId} {ie : TypeInfo} {ze : Value} {ty : Ty} {xs ys : List ty.den} {s sy : Value}
    (ht : P.underlying t = some (.slice e)) (hu : P.underlying u = some .string ∨ ∃ e2, P.underlying u = some (.slice e2)) (hi : P.info? e = some ie) (hs : ie.size = ty.size) (hbz : ie.bytes ≠ 0) (hz : ie.zero = some ze) (hzs : ze.cells.size = ty.size)
    (hroom : (n + ys.length) * ie.bytes ≤ 140737488355328) (hb : B b = some (.arr false ty xs)) (hx : CellR w Pr B β (.view b off n) s) (hlt : off < xs.length) (hfit : off + n + ys.length ≤ xs.length) (hy : SrcR P w Pr ty ys sy) :
    Ends P w Pr B β (Builtin.append_ #[t, u] type #[s, sy]) ⟨.s (.c (.view b off (n + ys.length))), [], [(b, .arr false ty (splice xs (off + n) ys))]⟩ := by
  have hsrc : SrcR P w Pr ty ((xs.drop off).take n) s := rowOf_src (want := none) (p := (⟨ty, (xs.drop off).take n⟩, some b)) hM hx (by simp [rowOf, hb])
  obtain ⟨L0, hL0, hrun0⟩ := hsrc
  obtain ⟨L, hL, hrun⟩ := hy
  obtain ⟨A, c, rfl, hcap, bx, hb', ho⟩ := hx
  rw [hb] at hb'; obtain rfl := Option.some.inj hb'
  have hv := ho _ _ _ rfl
  have hv1 := hv.1
  obtain ⟨g, hg, rfl, hc2, vs, T', hh, hsz⟩ := hv.2 hlt
  have hn : ((xs.drop off).take n).length = n := by simp; omega
  generalize (xs.drop off).take n = zs at hn hL0 hrun0
  subst hn
  have h := run_append (P := P) (w := w) (ty := ty) (xs := zs) (ys := ys) (base := some ⟨g, off * ty.size, none⟩) (c := c) (sy := sy) (type := type) (L0 := L0) (L := L) ht hu hi hs hbz hz hzs hroom hcap (fun w1 hw => (hrun0 w1 hw).2) hrun
  rcases h with ⟨hle, h⟩ | ⟨hlt2, _⟩
  · obtain ⟨w', hst, hstep⟩ := splice_sound (P := P) (p := off + zs.length) hM hb hL hfit hg hh (Nat.le_trans (Nat.mul_le_mul_right _ hc2) hsz)
    refine ⟨.slice (some ⟨g, off * ty.size, none⟩) (zs.length + ys.length) c, w', Pr, β, ?_, hstep, ?_⟩
    · rw [h]
      simp only [add_plain, ← Nat.add_mul]
      rw [hst]
      simp [Result.andThen]
    · refine ⟨_, c, rfl, by omega, .arr false ty (splice xs (off + zs.length) ys), by simp [updB, putB], fun ro ty' xs' he => ?_⟩
      cases he
      have hlen : (splice xs (off + zs.length) ys).length = xs.length := by simp [splice]; omega
      have := hv.ext hstep.since.shape
      rw [hlen]
      exact ⟨by omega, this.2⟩
  · omega

theorem ListR.zeros {ty : Ty} {z : ty.den} {cs : Array Value} (h : EncE w Pr ty z cs.toList) (n : Nat) : ListR w Pr ty (List.replicate n z) (Builtin.zeroCells cs n).toList := by
  have hl : cs.size = ty.size := by have := EncE_len ty z _ h; simpa using this
  refine ⟨by simp [Builtin.zeroCells, hl], fun i x hi => ?_⟩
  obtain ⟨hlt, hx⟩ := List.getElem?_eq_some_iff.1 hi
  simp only [List.length_replicate] at hlt
  simp only [List.getElem_replicate] at hx
  subst hx
  refine ⟨cs.toList, h, fun j v hv => ?_⟩
  have hj := (List.getElem?_eq_some_iff.1 hv).1
  simp only [Array.length_toList, hl] at hj
  have h1 : (i + 1) * ty.size ≤ n * ty.size := Nat.mul_le_mul_right _ hlt
  rw [Nat.add_mul, Nat.one_mul] at h1
  rw [Array.getElem?_toList]
  simp only [Builtin.zeroCells, hl, Array.getElem?_map, Array.getElem?_range]
  rw [if_pos (by omega)]
  have hmod : (i * ty.size + j) % ty.size = j := by rw [Nat.mul_comm, Nat.mul_add_mod]; exact Nat.mod_eq_of_lt hj
  simp only [Option.map_some, hmod]
  rw [Array.getElem?_toList] at hv
  rw [getElem!_def, hv]

theorem clear_view_sound (hM : Mem w Pr B β) {b off n : Nat} {t e type : TypeId} {ie : TypeInfo} {ze : Value} {ty : Ty} {xs : List ty.den} {z : ty.den} {s : Value}
    (ht : P.underlying t = some (.slice e)) (hi : P.info? e = some ie) (hz : ie.zero = some ze) (hze : EncE w Pr ty z ze.cells.toList)
    (hb : B b = some (.arr false ty xs)) (hx : CellR w Pr B β (.view b off n) s) (hn : 0 < n) :
    Ends P w Pr B β (Builtin.clear_ #[t] type #[s]) ⟨.tup [], [], [(b, .arr false ty (splice xs off (List.replicate n z)))]⟩ := by
  obtain ⟨A, c, rfl, hcap, bx, hb', ho⟩ := hx
  rw [hb] at hb'; obtain rfl := Option.some.inj hb'
  have hv := ho _ _ _ rfl
  have hv1 := hv.1
  obtain ⟨g, hg, rfl, hc2, vs, T', hh, hsz⟩ := hv.2 (by omega)
  obtain ⟨w', hst, hstep⟩ := splice_sound (P := P) (p := off) hM hb (ListR.zeros hze n) (by simpa using hv1) hg hh (Nat.le_trans (Nat.mul_le_mul_right _ hc2) hsz)
  refine ⟨.tuple #[], w', Pr, β, ?_, hstep, [], rfl, .nil⟩
  obtain ⟨m, rfl⟩ : ∃ m, n = m + 1 := ⟨n - 1, by omega⟩
  unfold Builtin.clear_
  simp only [List.getElem?_toArray, List.getElem?_cons_zero, Sem.run_bind, run_underlying ht, Result.andThen, run_zeroValue hi hz, Sem.run_pure, hst]
end
end Go.Proofs.YtfgkcnoiplojkaaDoor.VI
