/- The value interpreter: an operation that calls no function of the program. -/
import Derived.Test.YtfgkcnoiplojkaaDoorVo
namespace Go.Proofs.YtfgkcnoiplojkaaDoor.VI
open Go

section
variable {P : Program} {E : Env} {w : World} {Pr : Addr → Prop} {B : Nat → Option BX} {β : Nat → Option Nat} {T : Nat → Option CV} {ρ : Operand → Value}

theorem capsOf_sound (C : Ctx P E w Pr B β T ρ) : ∀ (l : List Operand) (r : List Nat), capsOf T l = some r → All2 (fun b v => PtrR B β b 0 v) r (l.map ρ)
  | [], r, h => by cases h; exact .nil
  | x :: l, r, h => by
    simp only [capsOf, Option.bind_eq_some_iff] at h
    obtain ⟨c, hc, h⟩ := h
    split at h
    · simp only [Option.map_eq_some_iff] at h
      obtain ⟨q, hq, rfl⟩ := h
      exact .cons (opc_sound C hc) (capsOf_sound C l q hq)
    · cases h

theorem Ends.exec {s : Sem Value} {s' : Sem Next} {e : Eff} (h : Ends P w Pr B β s e) (hs : s' = (do pure (.value (← s)))) : Done P w Pr B β s' e := by
  rw [hs]; exact h.done

theorem quiet_done (C : Ctx P E w Pr B β T ρ) {s : Sem Value} {v : Value} {cv : CV} (hr : s.run P w = .ok v w) (hv : CVR w Pr B β cv v) : Done P w Pr B β (do pure (.value (← s))) ⟨cv, [], []⟩ :=
  (Ends.quiet C.mem hr hv).done

theorem zip2 {a : Array Operand} {b : Array TypeId} {x y : Operand} {t u : TypeId} (hs : a.size = b.size) (h : a.toList.zip b.toList = [(x, t), (y, u)]) : a = #[x, y] ∧ b = #[t, u] := by
  have h1 : a.toList = [x, y] := by
    have := congrArg (List.map Prod.fst) h
    rw [List.map_fst_zip (by simp [hs])] at this
    simpa using this
  have h2 : b.toList = [t, u] := by
    have := congrArg (List.map Prod.snd) h
    rw [List.map_snd_zip (by simp [hs])] at this
    simpa using this
  exact ⟨Array.toList_inj.1 h1, Array.toList_inj.1 h2⟩

theorem zip1 {a : Array Operand} {b : Array TypeId} {x : Operand} {t : TypeId} (hs : a.size = b.size) (h : a.toList.zip b.toList = [(x, t)]) : a = #[x] ∧ b = #[t] := by
  have h1 : a.toList = [x] := by
    have := congrArg (List.map Prod.fst) h
    rw [List.map_fst_zip (by simp [hs])] at this
    simpa using this
  have h2 : b.toList = [t] := by
    have := congrArg (List.map Prod.snd) h
    rw [List.map_snd_zip (by simp [hs])] at this
    simpa using this
  exact ⟨Array.toList_inj.1 h1, Array.toList_inj.1 h2⟩

theorem map1 (x : Operand) : (#[x] : Array Operand).map ρ = #[ρ x] := by simp
theorem map2 (x y : Operand) : (#[x, y] : Array Operand).map ρ = #[ρ x, ρ y] := by simp

theorem builtin_sound (C : Ctx P E w Pr B β T ρ) {k : Nat} {b : Builtin} {type : TypeId} {consts : Array Bool} {args : Array Operand} {ts : Array TypeId} (hs : args.size = ts.size) {e : Eff}
    (h : (builtinC E T B k b (args.toList.zip ts.toList)).opt = some e) (hf : FreshB (updB B e.upd) e.new) : Done P w Pr B β (builtin b ts type consts (args.map ρ)) e := by
  unfold builtinC at h
  split at h
  · have h0 := h
    unfold appendC at h
    split at h
    · rename_i x t y u heq
      obtain ⟨rfl, rfl⟩ := zip2 hs heq
      rw [heq] at h0
      rw [map2]
      exact (append_sound (type := type) C h0 hf).exec rfl
    · cases h
  · have h0 := h
    unfold clearC at h
    split at h
    · rename_i x t heq
      obtain ⟨rfl, rfl⟩ := zip1 hs heq
      rw [heq] at h0
      rw [map1]
      exact (clear_sound (type := type) C h0).exec rfl
    · cases h
  · split at h
    · rename_i x t heq
      obtain ⟨rfl, rfl⟩ := zip1 hs heq
      replace h := bind_ofO h
      obtain ⟨n, hn, h⟩ := h
      obtain rfl := pureM_eq h
      rw [map1]
      exact quiet_done C (len_sound (type := type) C hn) (plain_c rfl)
    · cases h
  · split at h
    · rename_i x t y u heq
      obtain ⟨rfl, rfl⟩ := zip2 hs heq
      replace h := bind_ofO h
      obtain ⟨a, ha, h⟩ := h
      replace h := bind_ofO h
      obtain ⟨c, hc, h⟩ := h
      replace h := bif_some h
      obtain ⟨_, h⟩ := h
      obtain rfl := pureM_eq h
      obtain ⟨k1, n1, rfl, h1⟩ := opI_eta C ha
      obtain ⟨k2, n2, rfl, h2⟩ := opI_eta C hc
      rw [map2]
      refine (Ends.quiet C.mem (s := Builtin.min_ #[t, u] type #[ρ x, ρ y]) ?_ (plain_c rfl)).exec rfl
      rw [h1, h2]; exact run_min _ _ _ _ _ _
    · cases h
  · split at h
    · rename_i x t y u heq
      obtain ⟨rfl, rfl⟩ := zip2 hs heq
      replace h := bind_ofO h
      obtain ⟨a, ha, h⟩ := h
      replace h := bind_ofO h
      obtain ⟨c, hc, h⟩ := h
      replace h := bif_some h
      obtain ⟨_, h⟩ := h
      obtain rfl := pureM_eq h
      obtain ⟨k1, n1, rfl, h1⟩ := opI_eta C ha
      obtain ⟨k2, n2, rfl, h2⟩ := opI_eta C hc
      rw [map2]
      refine (Ends.quiet C.mem (s := Builtin.max_ #[t, u] type #[ρ x, ρ y]) ?_ (plain_c rfl)).exec rfl
      rw [h1, h2]; exact run_max _ _ _ _ _ _
    · cases h
  · cases h

theorem conv_sound (C : Ctx P E w Pr B β T ρ) {k : Nat} {src dst : TypeId} {x : Operand} {e : Eff} (h : (convC E T B k src dst x).opt = some e) : Ends P w Pr B β (convert src dst (ρ x)) e := by
  unfold convC at h
  replace h := bind_ofO h
  obtain ⟨ds, hds, h⟩ := h
  replace h := bind_ofO h
  obtain ⟨dd, hdd, h⟩ := h
  obtain ⟨i1, d1, hi1, hu1, _, _, _, hk1⟩ := (C.tt src ds hds).out
  obtain ⟨i2, d2, hi2, hu2, _, _, _, hk2⟩ := (C.tt dst dd hdd).out
  split at h
  · rename_i j1 j2 hk1' hk2'
    rw [hk1'] at hk1; rw [hk2'] at hk2
    obtain rfl : d1 = .int j1 := hk1
    obtain rfl : d2 = .int j2 := hk2
    replace h := bind_ofO h
    obtain ⟨a, ha, h⟩ := h
    obtain rfl := pureM_eq h
    refine Ends.quiet C.mem ?_ (plain_c rfl)
    rw [opI_sound C ha]
    simp only [convert, Sem.run_bind, run_underlying hu1, run_underlying hu2, Result.andThen, Conv.intToInt]
    rfl
  · rename_i hk1' hk2'
    rw [hk1'] at hk1; rw [hk2'] at hk2
    obtain rfl : d1 = .string := hk1
    obtain rfl : d2 = .string := hk2
    replace h := bind_ofO h
    obtain ⟨c, hc, h⟩ := h
    split at h
    · rename_i s
      obtain rfl := pureM_eq h
      refine Ends.quiet C.mem ?_ (plain_c rfl)
      rw [(opc_sound C hc).1]
      simp only [convert, Sem.run_bind, run_underlying hu1, run_underlying hu2, Result.andThen]
      rfl
    · cases h
  · rename_i eb ez hk1' hk2'
    rw [hk1'] at hk1; rw [hk2'] at hk2
    obtain ⟨el, ie, ze, rfl, _, _, _, _, _, _, _, hel⟩ := hk1
    obtain rfl : d2 = .string := hk2
    replace h := bind_ofO h
    obtain ⟨xs, hxs, h⟩ := h
    obtain rfl := pureM_eq h
    simp only [Option.bind_eq_some_iff] at hxs
    obtain ⟨c, hc, p, hp, hxs⟩ := hxs
    have hcell := opc_sound C hc
    have hsrc := castRow_src (rowOf_src (P := P) C.mem hcell hp) hxs
    refine Ends.quiet C.mem (src_bytes hsrc hu1 (hel _ rfl) hu2 ?_) (plain_c rfl)
    cases c with
    | v x =>
      unfold rowOf at hp
      split at hp
      all_goals try (rename_i hh; cases hh)
      all_goals first | exact ⟨_, _, _, hcell.1⟩ | cases hp
    | row ty ys => obtain ⟨A, n, c, hy, _⟩ := hcell; exact ⟨A, n, c, hy⟩
    | own b => exact hcell.1
    | view b off n => obtain ⟨A, c, hy, _⟩ := hcell; exact ⟨A, n, c, hy⟩
    | ptr b off => cases hp
    | fn f caps => cases hp
  · cases h

theorem comp_sound (C : Ctx P E w Pr B β T ρ) {k : Nat} {o : Oper} {e : Eff} (hnc : ∀ c f, o.op = .call c → c.callee ≠ .value f) (h : (comp E T B k o).opt = some e) (hf : FreshB (updB B e.upd) e.new) :
    Done P w Pr B β (execOp ρ o) e := by
  unfold comp at h
  split at h
  · rename_i x ho
    replace h := bind_ofO h
    obtain ⟨v, hv, h⟩ := h
    obtain rfl := giveM_eq h
    simp only [execOp, ho]
    exact Done.value C.mem (opv_sound C hv)
  · rename_i x ho
    replace h := bind_ofO h
    obtain ⟨v, hv, h⟩ := h
    obtain rfl := Option.some.inj h
    simp only [execOp, ho]
    obtain ⟨β', hs, hc⟩ := settle_sound C.mem (opv_sound C hv) hf
    exact ⟨_, _, w, Pr, β', rfl, .inl rfl, hs, hc⟩
  · rename_i c a b ho
    replace h := bind_ofO h
    obtain ⟨t, ht, h⟩ := h
    simp only [execOp, ho]
    have hc := opB_sound C ht
    rw [M.opt_ite] at h
    cases t with
    | true =>
      replace h := bind_ofO h
      obtain ⟨v, hv, h⟩ := h
      obtain rfl := giveM_eq h
      have : (do pure (.value (if ← asBool (ρ c) then ρ a else ρ b)) : Sem Next) = pure (.value (ρ a)) := by rw [hc]; rfl
      rw [this]
      exact Done.value C.mem (opv_sound C hv)
    | false =>
      replace h := bind_ofO h
      obtain ⟨v, hv, h⟩ := h
      obtain rfl := giveM_eq h
      have : (do pure (.value (if ← asBool (ρ c) then ρ a else ρ b)) : Sem Next) = pure (.value (ρ b)) := by rw [hc]; rfl
      rw [this]
      exact Done.value C.mem (opv_sound C hv)
  · rename_i t ho
    replace h := bind_ofO h
    obtain ⟨d, hd, h⟩ := h
    obtain ⟨i, du, hi, hu, _, _, hzero, hk⟩ := (C.tt t d hd).out
    have hexec : execOp ρ o = (do pure (.value (← Instr.alloc t true (.tuple #[])))) := by simp only [execOp, ho]
    split at h
    · rename_i n ez ty hkind
      rw [hkind] at hk
      obtain ⟨el, ie, v, zc, rfl, hie, hsz, hv, hvc, hzc⟩ := hk
      replace h := bind_ofO h
      obtain ⟨z, hz, h⟩ := h
      obtain rfl := Option.some.inj h
      exact (alloc_arr_sound C.mem hf.1 hi hv hvc hzc hz).exec hexec
    · replace h := bind_ofO h
      obtain ⟨z, hz, h⟩ := h
      obtain rfl := Option.some.inj h
      obtain ⟨v, hv, hzr, _⟩ := hzero z hz
      exact (alloc_var_sound C.mem hi hv hzr hf).exec hexec
  · rename_i t x ho
    replace h := bind_ofO h
    obtain ⟨v, hv, h⟩ := h
    replace h := bind_ofO h
    obtain ⟨cs, hcs, h⟩ := h
    obtain rfl := Option.some.inj h
    refine (box_sound C.mem hf.1 (opv_sound C hv) hcs).exec (s := Instr.box t (ρ x)) ?_
    simp only [execOp, ho]
  · rename_i t ps ho
    replace h := bind_ofO h
    obtain ⟨d, hd, h⟩ := h
    split at h
    · rename_i fs hkind
      replace h := bind_ofO h
      obtain ⟨q, hq, h⟩ := h
      replace h := bind_ofO h
      obtain ⟨z, hz, h⟩ := h
      replace h := bind_ofO h
      obtain ⟨cs, hcs, h⟩ := h
      obtain rfl := Option.some.inj h
      refine (build_sound C hd hkind hq hz hcs hf).exec ?_
      simp only [execOp, ho]
    · cases h
  · rename_i t n ps ho
    replace h := bind_ofO h
    obtain ⟨d, hd, h⟩ := h
    split at h
    · rename_i eb ez ty hkind
      replace h := bif_some h
      obtain ⟨hb, h⟩ := h
      simp only [Bool.and_eq_true] at hb
      replace h := bind_ofO h
      obtain ⟨q, hq, h⟩ := h
      replace h := bind_ofO h
      obtain ⟨s, hs, h⟩ := h
      obtain rfl := Option.some.inj h
      refine (buildSlice_sound C hd hkind (Nat.eq_of_beq_eq_true hb.1) (Nat.le_of_ble_eq_true hb.2) hq hs hf.1).exec ?_
      simp only [execOp, ho]
    · cases h
  · rename_i t x ho
    replace h := bind_ofO h
    obtain ⟨d, hd, h⟩ := h
    replace h := bind_ofO h
    obtain ⟨p, hp, h⟩ := h
    replace h := bind_m h
    obtain ⟨cv, hcv, h⟩ := h
    obtain rfl := giveM_eq h
    obtain ⟨v, hr, hv⟩ := load_sound C hd (opv_sound C hp) hcv
    simp only [execOp, ho]
    exact quiet_done C hr hv
  · rename_i t x y ho
    replace h := bind_ofO h
    obtain ⟨d, hd, h⟩ := h
    replace h := bind_ofO h
    obtain ⟨p, hp, h⟩ := h
    replace h := bind_ofO h
    obtain ⟨v, hv, h⟩ := h
    replace h := bind_ofO h
    obtain ⟨cs, hcs, h⟩ := h
    replace h := bind_m h
    obtain ⟨u, hu, h⟩ := h
    obtain rfl := Option.some.inj h
    obtain ⟨ys, hys, hall⟩ := cellsOf_sound (opv_sound C hv) hcs
    obtain ⟨w', Pr', hr, hst⟩ := store_sound C hd (opv_sound C hp) hys hall hu
    refine ⟨.skip, undef, w', Pr', β, ?_, .inr ⟨rfl, rfl⟩, hst, rfl⟩
    simp only [execOp, ho, Sem.run_bind, hr, Result.andThen]
    rfl
  · rename_i x ho
    replace h := bind_ofO h
    obtain ⟨p, hp, h⟩ := h
    have hcv := opv_sound C hp
    simp only [execOp, ho]
    split at h
    · obtain rfl := giveM_eq h
      obtain ⟨g, bx, hy, hb⟩ := hcv
      rw [hy]
      exact Done.value C.mem ⟨g, bx, rfl, hb⟩
    · obtain rfl := giveM_eq h
      obtain ⟨a, hy, hc⟩ := hcv
      rw [hy]
      exact Done.value C.mem ⟨a, rfl, hc⟩
    · obtain rfl := giveM_eq h
      obtain ⟨a, bx, hy, hb⟩ := hcv
      rw [hy]
      exact Done.value C.mem ⟨a, bx, rfl, hb⟩
    · cases h
  · rename_i op t x y yt ho
    replace h := bind_ofO h
    obtain ⟨a, ha, h⟩ := h
    replace h := bind_ofO h
    obtain ⟨b, hb, h⟩ := h
    replace h := bind_m h
    obtain ⟨v, hv, h⟩ := h
    obtain rfl := pureM_eq h
    obtain ⟨hr, h1⟩ := bin_sound (P := P) (t := t) (o1 := x) (o2 := y) (isBool_sound C) (C.eqs t) (opv_sound C ha) (opv_sound C hb) hv
    simp only [execOp, ho]
    exact quiet_done C hr (plain_c h1)
  · rename_i op t x ho
    simp only [execOp, ho]
    split at h
    · replace h := bind_ofO h
      obtain ⟨b, hb, h⟩ := h
      obtain rfl := pureM_eq h
      refine quiet_done C ?_ (plain_c rfl)
      rw [opB_sound C hb]; rfl
    · replace h := bind_ofO h
      obtain ⟨a, ha, h⟩ := h
      obtain rfl := pureM_eq h
      refine quiet_done C ?_ (plain_c rfl)
      rw [opI_sound C ha]; rfl
    · cases h
  · rename_i s d x ho
    refine (conv_sound C h).exec ?_
    simp only [execOp, ho]
  · rename_i fn fst caps ho
    split at h
    · rename_i f
      replace h := bif_some h
      obtain ⟨hz, h⟩ := h
      obtain rfl : fst = #[] := Array.eq_empty_of_size_eq_zero (Nat.eq_of_beq_eq_true hz)
      replace h := bind_ofO h
      obtain ⟨l, hl, h⟩ := h
      obtain rfl := giveM_eq h
      refine (Ends.quiet C.mem (s := Instr.makeFunc (.func f) (Array.map ρ #[]) (caps.map ρ)) (v := .func (.func f) #[] (caps.map ρ)) (by simp [Instr.makeFunc]) ?_).exec (by simp only [execOp, ho])
      exact ⟨caps.toList.map ρ, by rw [← Array.toList_map], capsOf_sound C _ _ hl⟩
    · cases h
  · rename_i t n c ho
    replace h := bind_ofO h
    obtain ⟨d, hd, h⟩ := h
    split at h
    · rename_i eb ez ty hkind
      replace h := bind_ofO h
      obtain ⟨a, ha, h⟩ := h
      replace h := bind_ofO h
      obtain ⟨b, hb, h⟩ := h
      replace h := bind_ofO h
      obtain ⟨x, hx, h⟩ := h
      replace h := ite_some h
      obtain ⟨hc, h⟩ := h
      obtain rfl := Option.some.inj h
      simp only [Bool.and_eq_true, decide_eq_true_eq] at hc
      obtain ⟨k1, n1, rfl, h1⟩ := opI_eta C ha
      obtain ⟨k2, n2, rfl, h2⟩ := opI_eta C hb
      obtain ⟨h0, rfl, hroom⟩ := hc
      refine (makeSlice_sound C (k1 := k1) (k2 := k2) hf.1 hd hkind h0 (of_decide_eq_true hroom) hx).exec ?_
      simp only [execOp, ho, h1, h2]
    · cases h
  · rename_i t x lo hi ho
    replace h := bind_ofO h
    obtain ⟨d, hd, h⟩ := h
    split at h
    · rename_i hkind
      replace h := bind_ofO h
      obtain ⟨c, hc, h⟩ := h
      replace h := bind_m h
      obtain ⟨cv, hcv, h⟩ := h
      obtain rfl := giveM_eq h
      obtain ⟨v, hr, hv⟩ := slice_sound C hd (opc_sound C hc) (.inl ⟨rfl, hkind⟩) hcv
      refine (Ends.quiet C.mem hr hv).exec ?_
      simp only [execOp, ho]; rfl
    · rename_i eb ez ty hkind
      replace h := bind_ofO h
      obtain ⟨c, hc, h⟩ := h
      replace h := bind_m h
      obtain ⟨cv, hcv, h⟩ := h
      obtain rfl := giveM_eq h
      obtain ⟨v, hr, hv⟩ := slice_sound C hd (opc_sound C hc) (.inr ⟨eb, ez, ty, rfl, hkind⟩) hcv
      refine (Ends.quiet C.mem hr hv).exec ?_
      simp only [execOp, ho]; rfl
    · cases h
  · rename_i t x lo hi y ho
    replace h := bind_ofO h
    obtain ⟨d, hd, h⟩ := h
    split at h
    · rename_i eb ez ty hkind
      replace h := bind_ofO h
      obtain ⟨c, hc, h⟩ := h
      replace h := bind_ofO h
      obtain ⟨a, ha, h⟩ := h
      replace h := bind_m h
      obtain ⟨cv, hcv, h⟩ := h
      obtain rfl := giveM_eq h
      obtain ⟨k1, n1, rfl, h1⟩ := opI_eta C ha
      obtain ⟨v, hr, hv⟩ := slice3_sound (k := k1) C hd (opc_sound C hc) hkind hcv
      refine (Ends.quiet C.mem hr hv).exec ?_
      simp only [execOp, ho, Option.map_some, h1]
    · cases h
  · rename_i t x f ho
    replace h := bind_ofO h
    obtain ⟨p, hp, h⟩ := h
    replace h := bind_ofO h
    obtain ⟨cv, hcv, h⟩ := h
    obtain rfl := giveM_eq h
    obtain ⟨v, hr, hv⟩ := fieldAddr_sound C (opv_sound C hp) hcv
    simp only [execOp, ho]
    exact quiet_done C hr hv
  · rename_i t x f ho
    replace h := bind_ofO h
    obtain ⟨p, hp, h⟩ := h
    replace h := bind_ofO h
    obtain ⟨cv, hcv, h⟩ := h
    obtain rfl := giveM_eq h
    obtain ⟨v, hr, hv⟩ := field_sound C (opv_sound C hp) hcv
    simp only [execOp, ho]
    exact quiet_done C hr hv
  · rename_i t x i ho
    replace h := bind_ofO h
    obtain ⟨n, hn, h⟩ := h
    replace h := bind_m h
    obtain ⟨cv, hcv, h⟩ := h
    obtain rfl := giveM_eq h
    obtain ⟨k1, n1, rfl, h1⟩ := opI_eta C hn
    obtain ⟨v, hr, hv⟩ := indexAddr_sound (k := k1) C hcv
    simp only [execOp, ho]
    rw [h1]
    exact quiet_done C hr hv
  · rename_i t x i ho
    replace h := bind_ofO h
    obtain ⟨d, hd, h⟩ := h
    obtain ⟨inf, du, hi, hu, _, _, _, hk⟩ := (C.tt t d hd).out
    split at h
    · rename_i hkind
      rw [hkind] at hk
      obtain rfl : du = .string := hk
      replace h := bind_ofO h
      obtain ⟨n, hn, h⟩ := h
      replace h := bind_ofO h
      obtain ⟨c, hc, h⟩ := h
      have hcell := opc_sound C hc
      split at h
      · replace h := ite_some h
        obtain ⟨h0, h⟩ := h
        replace h := bind_ofO h
        obtain ⟨b, hb, h⟩ := h
        obtain rfl := pureM_eq h
        obtain ⟨k1, n1, rfl, h1⟩ := opI_eta C hn
        simp only [execOp, ho]
        rw [hcell.1, h1]
        exact quiet_done C (index_sound hu (of_decide_eq_true h0) hb) (plain_c rfl)
      · cases h
    · cases h
  · rename_i x i ho
    replace h := bind_ofO h
    obtain ⟨cv, hcv, h⟩ := h
    have hx := opv_sound C hcv
    split at h
    · replace h := bind_ofO h
      obtain ⟨s, hs, h⟩ := h
      obtain rfl := giveM_eq h
      obtain ⟨ys, hy, hall⟩ := hx
      obtain ⟨y, hy', hr⟩ := hall.get _ _ hs
      simp only [execOp, ho]
      rw [hy]
      refine quiet_done C (v := y) ?_ hr
      simp only [Instr.extract, List.getElem?_toArray, hy']
      rfl
    · cases h
  · rename_i c ho
    split at h
    · rename_i b hcal
      have hexec : execOp ρ o = builtin b c.argTypes o.type (c.args.map fun | .const _ => true | _ => false) (c.args.map ρ) := by
        simp only [execOp, ho, resolve, hcal]; rfl
      rw [hexec]
      replace h := bif_some h
      obtain ⟨hs, h⟩ := h
      exact builtin_sound C (Nat.eq_of_beq_eq_true hs) h hf
    · rename_i f hcal
      exact absurd hcal (hnc c f ho)
    · cases h
  · cases h
end
end Go.Proofs.YtfgkcnoiplojkaaDoor.VI
