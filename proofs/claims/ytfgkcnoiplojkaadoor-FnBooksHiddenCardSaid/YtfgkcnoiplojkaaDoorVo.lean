/- The value interpreter: all operations but calls of functions. -/
import Derived.Test.YtfgkcnoiplojkaaDoorVn
import Derived.Laws.BytesArg
import Derived.IntWalk
namespace Go.Proofs.YtfgkcnoiplojkaaDoor.VI
open Go

section
variable {P : Program} {E : Env} {w : World} {Pr : Addr → Prop} {B : Nat → Option BX} {β : Nat → Option Nat} {T : Nat → Option CV} {ρ : Operand → Value}

/-- The operation ends so. -/
def Done (P : Program) (w : World) (Pr : Addr → Prop) (B : Nat → Option BX) (β : Nat → Option Nat) (s : Sem Next) (e : Eff) : Prop :=
  ∃ nx v w' Pr' β', s.run P w = .ok nx w' ∧ (nx = .value v ∨ nx = .skip ∧ v = undef) ∧ Step w Pr B β w' Pr' (updB (updB B e.upd) e.new) β' ∧ CVR w' Pr' (updB (updB B e.upd) e.new) β' e.val v

theorem Ends.done {s : Sem Value} {e : Eff} (h : Ends P w Pr B β s e) : Done P w Pr B β (do pure (.value (← s))) e := by
  obtain ⟨v, w', Pr', β', h1, h2, h3⟩ := h
  exact ⟨.value v, v, w', Pr', β', by simp only [Sem.run_bind, h1, Result.andThen]; rfl, .inl rfl, h2, h3⟩

theorem Done.value {v : Value} {cv : CV} (h : Mem w Pr B β) (hv : CVR w Pr B β cv v) : Done P w Pr B β (pure (.value v)) ⟨cv, [], []⟩ :=
  ⟨.value v, v, w, Pr, β, rfl, .inl rfl, Step.refl h, hv⟩

theorem plain_c {v : Value} (h : oneCell v = true) : CVR w Pr B β (.s (.c (.v v))) v := ⟨rfl, h⟩

theorem giveM_eq {v : CV} {e : Eff} (h : (giveM v).opt = some e) : e = ⟨v, [], []⟩ := (Option.some.inj h).symm
theorem pureM_eq {v : Value} {e : Eff} (h : (pureM v).opt = some e) : e = ⟨.s (.c (.v v)), [], []⟩ := (Option.some.inj h).symm

theorem bind_ofO {α β : Type} {o : Option α} {f : α → M β} {e : β} (h : (M.bind (.ofO o) f).opt = some e) : ∃ a, o = some a ∧ (f a).opt = some e := by
  rw [M.opt_bind, M.opt_ofO] at h
  exact Option.bind_eq_some_iff.1 h
theorem bind_m {α β : Type} {m : M α} {f : α → M β} {e : β} (h : (M.bind m f).opt = some e) : ∃ a, m.opt = some a ∧ (f a).opt = some e := by
  rw [M.opt_bind] at h
  exact Option.bind_eq_some_iff.1 h

theorem isBool_sound (C : Ctx P E w Pr B β T ρ) {t : TypeId} (h : isBoolT E t = true) : P.underlying t = some .bool := by
  unfold isBoolT at h
  split at h
  · rename_i d hd
    obtain ⟨i, du, _, hu, _, _, _, hk⟩ := (C.tt t d hd).out
    cases hkind : d.kind <;> rw [hkind] at h <;> simp_all [KindOK]
  · cases h

theorem run_min (ts : Array TypeId) (t : TypeId) (k k' : IntKind) (x y : Int) : (Builtin.min_ ts t #[.int k x, .int k' y]).run P w = .ok (.int k (min x y)) w := by
  simp only [Builtin.min_, List.foldlM, Builtin.min2]
  have : (if y < x then y else x) = min x y := by split <;> omega
  rw [this]; rfl

theorem run_max (ts : Array TypeId) (t : TypeId) (k k' : IntKind) (x y : Int) : (Builtin.max_ ts t #[.int k x, .int k' y]).run P w = .ok (.int k (max x y)) w := by
  simp only [Builtin.max_, List.foldlM, Builtin.max2]
  have : (if y > x then y else x) = max x y := by split <;> omega
  rw [this]; rfl

theorem len_sound (C : Ctx P E w Pr B β T ρ) {t type : TypeId} {x : Operand} {n : Int} (h : lenC E T B t x = some n) : (Builtin.len_ #[t] type #[ρ x]).run P w = .ok (.int .i64 n) w := by
  simp only [lenC, Option.bind_eq_some_iff] at h
  obtain ⟨td, ht, h⟩ := h
  obtain ⟨i, d, hi, hd, _, _, _, hk⟩ := (C.tt t td ht).out
  have hrun : ∀ y m, ρ x = y → (match d, y with | .string, .string s => (m : Int) = s.size | .slice _, .slice _ n _ => m = n | _, _ => False) → (Builtin.len_ #[t] type #[ρ x]).run P w = .ok (.int .i64 m) w := by
    intro y m hy hm
    rw [hy]
    simp only [Builtin.len_, List.getElem?_toArray, List.getElem?_cons_zero, Sem.run_bind, run_underlying hd, Result.andThen]
    split at hm
    · subst hm; rfl
    · subst hm; rfl
    · exact hm.elim
  split at h
  · rename_i hkind
    rw [hkind] at hk
    obtain rfl : d = .string := hk
    simp only [Option.bind_eq_some_iff] at h
    obtain ⟨c, hc, h⟩ := h
    split at h
    · obtain rfl := Option.some.inj h
      exact hrun _ _ (opc_sound C hc).1 rfl
    · cases h
  · rename_i eb ez ty hkind
    rw [hkind] at hk
    obtain ⟨el, ie, ze, rfl, _⟩ := hk
    simp only [Option.bind_eq_some_iff] at h
    obtain ⟨c, hc, h⟩ := h
    have hcell := opc_sound C hc
    split at h
    · obtain rfl := Option.some.inj h
      obtain ⟨A, n, cc, hy, hr⟩ := hcell
      exact hrun _ _ hy (by rw [hr.1])
    · rename_i b
      simp only [Option.bind_eq_some_iff] at h
      obtain ⟨bx, hb, h⟩ := h
      split at h
      · obtain rfl := Option.some.inj h
        obtain ⟨_, bx, hb', ho⟩ := hcell
        rw [hb] at hb'; obtain rfl := Option.some.inj hb'
        have ho := ho _ _ _ rfl
        unfold OwnV at ho
        cases hg : β b with
        | none => rw [hg] at ho; exact hrun _ _ ho.1 (by simp [ho.2])
        | some g => rw [hg] at ho; obtain ⟨cc, vs, T', hy, _⟩ := ho; exact hrun _ _ hy rfl
      · cases h
    · rename_i b off n
      simp only [Option.bind_eq_some_iff] at h
      obtain ⟨bx, hb, h⟩ := h
      split at h
      · obtain rfl := Option.some.inj h
        obtain ⟨A, cc, hy, _⟩ := hcell
        exact hrun _ _ hy rfl
      · cases h
    · obtain rfl := Option.some.inj h
      exact hrun _ _ hcell.1 rfl
    · cases h
  · cases h

theorem src_bytes {xs : List Int} {y : Value} (h : SrcR P w Pr (.int .u8) xs y) {src dst e : TypeId} (hs : P.underlying src = some (.slice e)) (he : P.underlying e = some (.int .u8)) (hd : P.underlying dst = some .string) (hy : ∃ A n c, y = .slice A n c) :
    (convert src dst y).run P w = .ok (.string (strOf xs)) w := by
  obtain ⟨L, ⟨hl, hL⟩, hrun⟩ := h
  obtain ⟨h1, h2⟩ := hrun w rfl
  obtain ⟨A, n, c, rfl⟩ := hy
  have hLe : L = xs.map (Value.int .u8) := by
    apply List.ext_getElem?
    intro i
    rw [List.getElem?_map]
    cases hx : xs[i]? with
    | none =>
      have := List.getElem?_eq_none_iff.1 hx
      rw [List.getElem?_eq_none (by rw [hl]; simp [Ty.size]; omega)]; rfl
    | some x =>
      obtain ⟨es, h3, h4⟩ := hL i x hx
      simp only [EncE] at h3
      subst h3
      have := h4 0 _ rfl
      simp only [Ty.size, Nat.mul_one, Nat.add_zero] at this
      rw [this]; rfl
  subst hLe
  have hn : n = xs.length := by
    have : (Builtin.lenOf (.slice A n c)).run P w = .ok n w := rfl
    rw [this] at h1
    injection h1
  subst hn
  rw [run_convert_bytes_string w src dst e A xs.length c hs he hd]
  cases A with
  | none =>
    have hnil : xs = [] := by
      simp only [Builtin.firstCells, Sem.run_pure] at h2
      injection h2 with h2
      have := congrArg Array.size h2
      simp at this
      exact List.length_eq_zero_iff.1 this.symm
    subst hnil
    simp [Conv.bytesToString, strOf]
    rfl
  | some a =>
    simp only [Builtin.firstCells, Ty.size, Nat.mul_one] at h2
    rw [run_bytesToString w a xs.length c xs h2, foldl_push_bytes]
    simp [strOf, ByteArray.empty, ByteArray.emptyWithCapacity]
    rfl

theorem castRow_src {a b : Ty} {xs : List a.den} {ys : List b.den} {y : Value} (h : SrcR P w Pr a xs y) (e : castRow a b xs = some ys) : SrcR P w Pr b ys y := by
  obtain ⟨rfl, rfl⟩ := castRow_eq e
  exact h

theorem appended_sound (C : Ctx P E w Pr B β T ρ) {ty : Ty} {u : TypeId} {y : Operand} {ys : List ty.den} (h : (opc T y).bind (appended E B ty u) = some ys) :
    (P.underlying u = some .string ∨ ∃ e2, P.underlying u = some (.slice e2)) ∧ SrcR P w Pr ty ys (ρ y) := by
  simp only [Option.bind_eq_some_iff] at h
  obtain ⟨c, hc, h⟩ := h
  have hcell := opc_sound C hc
  simp only [appended, Option.bind_eq_some_iff] at h
  obtain ⟨td, ht, h⟩ := h
  obtain ⟨i, d, hi, hd, _, _, _, hk⟩ := (C.tt u td ht).out
  split at h
  · rename_i hkind
    rw [hkind] at hk
    obtain rfl : d = .string := hk
    split at h
    · obtain ⟨hy, _⟩ := hcell
      rw [hy]
      exact ⟨.inl hd, castRow_src (bytes_src _) h⟩
    · cases h
  · rename_i eb ez uy hkind
    rw [hkind] at hk
    obtain ⟨el, ie, ze, rfl, _⟩ := hk
    simp only [Option.bind_eq_some_iff] at h
    obtain ⟨p, hp, h⟩ := h
    exact ⟨.inr ⟨el, hd⟩, castRow_src (rowOf_src C.mem hcell hp) h⟩
  · cases h

theorem append_sound (C : Ctx P E w Pr B β T ρ) {k : Nat} {x y : Operand} {t u type : TypeId} {e : Eff} (h : (appendC E T B k [(x, t), (y, u)]).opt = some e) (hf : FreshB (updB B e.upd) e.new) :
    Ends P w Pr B β (Builtin.append_ #[t, u] type #[ρ x, ρ y]) e := by
  unfold appendC at h
  replace h := bind_ofO h
  obtain ⟨td, ht, h⟩ := h
  obtain ⟨i, d, hi, hd, _, _, _, hk⟩ := (C.tt t td ht).out
  split at h
  · rename_i eb ez ty hkind
    rw [hkind] at hk
    obtain ⟨el, ie, ze, rfl, hie, hsz, hbz, hb0, hze, _, hzs, _⟩ := hk
    replace h := bind_ofO h
    obtain ⟨cx, hcx, h⟩ := h
    replace h := bind_ofO h
    obtain ⟨ys, hys, h⟩ := h
    obtain ⟨hu, hsrc⟩ := appended_sound C hys
    have hcell := opc_sound C hcx
    split at h
    · obtain ⟨hroom, h⟩ := ite_some h
      obtain rfl := Option.some.inj h
      rw [hcell.1]
      have hroom := of_decide_eq_true hroom
      exact append_nil_sound C.mem hf.1 hd hu hie hsz (by rw [hbz]; exact hb0) hze hzs (by rw [hbz]; exact hroom) hsrc
    · rename_i b
      split at h
      · rename_i ty' xs' hb
        replace h := bind_ofO h
        obtain ⟨xs, hxs, h⟩ := h
        obtain ⟨rfl, rfl⟩ := castRow_eq hxs
        replace h := ite_some h
        obtain ⟨hroom, h⟩ := h
        obtain rfl := Option.some.inj h
        have hroom := of_decide_eq_true hroom
        have hk : B k = none := by
          have := hf.1
          by_cases e : k = b
          · subst e; simp [updB, putB] at this
          · simpa [updB, putB, e] using this
        obtain ⟨_, bx, hb', ho⟩ := hcell
        rw [hb] at hb'; obtain rfl := Option.some.inj hb'
        exact append_own_sound C.mem hk hd hu hie hsz (by rw [hbz]; exact hb0) hze hzs (by rw [hbz]; exact hroom) hb (ho _ _ _ rfl) hsrc
      · cases h
    · rename_i b off n
      split at h
      · rename_i ty' xs' hb
        replace h := bind_ofO h
        obtain ⟨xs, hxs, h⟩ := h
        obtain ⟨rfl, rfl⟩ := castRow_eq hxs
        replace h := ite_some h
        obtain ⟨hq, h⟩ := h
        obtain rfl := Option.some.inj h
        simp only [Bool.and_eq_true, decide_eq_true_eq] at hq
        have hroom := of_decide_eq_true hq.2.2
        exact append_view_sound C.mem (k := k) hd hu hie hsz (by rw [hbz]; exact hb0) hze hzs (by rw [hbz]; exact hroom) hb hcell hq.1 hq.2.1 hsrc
      · cases h
    · cases h
  · cases h

theorem clear_sound (C : Ctx P E w Pr B β T ρ) {x : Operand} {t type : TypeId} {e : Eff} (h : (clearC E T B [(x, t)]).opt = some e) : Ends P w Pr B β (Builtin.clear_ #[t] type #[ρ x]) e := by
  unfold clearC at h
  replace h := bind_ofO h
  obtain ⟨td, ht, h⟩ := h
  obtain ⟨i, d, hi, hd, _, _, _, hk⟩ := (C.tt t td ht).out
  split at h
  · rename_i eb ez ty hkind
    rw [hkind] at hk
    obtain ⟨el, ie, ze, rfl, hie, hsz, hbz, hb0, hze, hzr, hzs, _⟩ := hk
    replace h := bind_ofO h
    obtain ⟨cx, hcx, h⟩ := h
    have hcell := opc_sound C hcx
    split at h
    · rename_i b off n
      split at h
      · rename_i ty' xs' hb
        replace h := bind_ofO h
        obtain ⟨xs, hxs, h⟩ := h
        obtain ⟨rfl, rfl⟩ := castRow_eq hxs
        replace h := bind_ofO h
        obtain ⟨z, hz, h⟩ := h
        replace h := ite_some h
        obtain ⟨hn, h⟩ := h
        obtain rfl := Option.some.inj h
        exact clear_view_sound C.mem hd hie hze (ofCells1_sound (B := B) (β := β) hzr.cells hz) hb hcell (of_decide_eq_true hn)
      · cases h
    · cases h
  · cases h

theorem opI_eta (C : Ctx P E w Pr B β T ρ) {x : Operand} {r : IntKind × Int} (h : opI T x = some r) : ∃ k n, r = (k, n) ∧ ρ x = .int k n := ⟨r.1, r.2, rfl, opI_sound C h⟩

theorem makeSlice_sound (C : Ctx P E w Pr B β T ρ) {k : Nat} (hk : B k = none) {t : TypeId} {td : TD} (ht : E.tt t = some td) {eb : Nat} {ez : List Cell} {ty : Ty} (hkind : td.kind = .slice eb ez ty) {x : ty.den} {k1 k2 : IntKind} {n : Int}
    (h0 : 0 ≤ n) (hroom : n.toNat * eb ≤ 140737488355328) (e : ofCells1 ty ez = some x) :
    Ends P w Pr B β (Instr.makeSlice t (.int k1 n) (.int k2 n)) ⟨.s (.c (.own k)), [(k, .arr false ty (List.replicate n.toNat x))], []⟩ := by
  obtain ⟨i, d, hi, hd, _, _, _, hk⟩ := (C.tt t td ht).out
  rw [hkind] at hk
  obtain ⟨el, ie, ze, rfl, hie, hsz, hbz, hb0, hze, hzr, hzs, _⟩ := hk
  have henc : EncE w Pr ty x ze.cells.toList := ofCells1_sound (B := B) (β := β) hzr.cells e
  have hpos := size_pos ty
  obtain ⟨m, rfl⟩ : ∃ m : Nat, n = m := ⟨n.toNat, by omega⟩
  simp only [Int.toNat_natCast] at hroom ⊢
  have hm : m ≤ 140737488355328 := by
    have : m * 1 ≤ m * eb := Nat.mul_le_mul_left _ (by omega)
    omega
  have hw : IntKind.i64.wrap (m : Int) = m := IntWalk.i64_in _ (by omega)
  have hbm : ¬ ((ie.bytes : Int) * (m : Int) > 2 ^ 48) := by
    rw [hbz]
    have : (eb : Int) * (m : Int) = ((m * eb : Nat) : Int) := by rw [Int.natCast_mul, Int.mul_comm]
    omega
  let zero : Array Value := if m * ie.size = 0 then #[] else ze.cells
  have hrun : (Instr.makeSlice t (.int k1 m) (.int k2 m)).run P w = .ok (.slice (some ⟨w.heap.size, 0, none⟩) m m) (World.add w (.cells ((Array.range (m * ie.size)).map (zero[· % zero.size]!)) el)) := by
    unfold Instr.makeSlice
    simp only [Sem.run_bind, run_underlying hd, Result.andThen, asInt, asIntOf, Sem.run_pure, run_typeInfo hie, hw]
    have hn0 : ¬ ((m : Int) < 0) := by omega
    simp only [hn0, hbm, decide_false, Bool.or_self, Bool.false_eq_true, if_false, Int.lt_irrefl, gt_iff_lt, run_askRoom, run_sizeOf hie, Int.toNat_natCast, Sem.run_bind, Result.andThen]
    by_cases h0 : m * ie.size = 0
    · simp only [h0, if_true, Sem.run_pure, Sem.run_bind, Result.andThen, run_newRow, zero]
    · simp only [h0, if_false, Sem.run_bind, run_zeroValue hie hze, Result.andThen, Sem.run_pure, run_newRow, zero]
  have harr : ArrR w Pr ty (List.replicate m x) ((Array.range (m * ie.size)).map (zero[· % zero.size]!)) := by
    intro i y hy
    obtain ⟨hlt, hy'⟩ := List.getElem?_eq_some_iff.1 hy
    simp only [List.length_replicate] at hlt
    simp only [List.getElem_replicate] at hy'
    subst hy'
    refine ⟨ze.cells.toList, henc, fun j v hv => ?_⟩
    have hj := (List.getElem?_eq_some_iff.1 hv).1
    simp only [Array.length_toList, hzs] at hj
    have h1 : (i + 1) * ty.size ≤ m * ty.size := Nat.mul_le_mul_right _ hlt
    rw [Nat.add_mul, Nat.one_mul] at h1
    have hne : ¬ m * ie.size = 0 := by rw [hsz]; omega
    have hin : i * ty.size + j < m * ie.size := by rw [hsz]; omega
    simp only [zero, hne, if_false, Array.getElem?_map, Array.getElem?_range, hin, if_true, Option.map_some, hzs]
    have hmod : (i * ty.size + j) % ty.size = j := by rw [Nat.mul_comm, Nat.mul_add_mod]; exact Nat.mod_eq_of_lt hj
    rw [hmod]
    rw [Array.getElem?_toList] at hv
    rw [getElem!_def, hv]
  refine ⟨_, _, Pr, _, hrun, row_step C.mem hk el harr, ?_⟩
  have := own_new (w := w) (Pr := Pr) (B := B) (β := β) (k := k) (ty := ty) (xs := List.replicate m x) (vs := (Array.range (m * ie.size)).map (zero[· % zero.size]!)) (T' := el) (c := m) (by simp) (by simp [hsz])
  rw [List.length_replicate] at this
  exact this
end
end Go.Proofs.YtfgkcnoiplojkaaDoor.VI
