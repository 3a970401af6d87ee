/- The value interpreter: one operation, in the machine's proof rules. -/
import Derived.Test.YtfgkcnoiplojkaaDoorVr
namespace Go.Proofs.YtfgkcnoiplojkaaDoor.VI
open Go

def EnvOK (P : Program) (E : Env) : Prop := (∀ t td, E.tt t = some td → TDok P t td) ∧ (∀ f, Fulfils P f (E.call f)) ∧ ∀ t ks, E.eqs t = some ks → EqOK P t ks

/-- A state, its tables told as functions. -/
@[ext] structure AS where
  nt : Nat
  lent : Nat
  next : Nat
  T : Nat → Option CV
  B : Nat → Option BX

def St.abs (st : St) : AS := ⟨st.nt, st.lent, st.next, st.tmps.get, st.boxes.get⟩

def putT (T : Nat → Option CV) (dst : Option Nat) (v : CV) : Nat → Option CV :=
  match dst with
  | none => T
  | some d => fun s => if s = d then some v else T s

def AS.set (s : AS) (dst : Option Nat) (v : CV) (B : Nat → Option BX) : AS := { s with T := putT s.T dst v, B := B }

/-- How a function's state stands for the machine's. -/
structure RelX (w0 : World) (Pr0 : Addr → Prop) (B0 : Nat → Option BX) (β0 : Nat → Option Nat) (s : AS) (a : Act) (w : World) (Pr : Addr → Prop) (β : Nat → Option Nat) : Prop where
  defers : a.defers = []
  size : a.tmps.size = s.nt
  lent : ∀ b x, B0 b = some x → b < s.lent
  vals : ∀ t cv, s.T t = some cv → CVR w Pr s.B β cv (a.eval (.tmp t))
  step : Step w0 Pr0 B0 β0 w Pr s.B β

def Rel (w0 : World) (Pr0 : Addr → Prop) (B0 : Nat → Option BX) (β0 : Nat → Option Nat) (s : AS) (a : Act) (w : World) : Prop :=
  ∃ Pr β, RelX w0 Pr0 B0 β0 s a w Pr β

theorem putAll_get : ∀ (u : List (Nat × BX)) (t : Tab BX), (putAll t u).get = updB t.get u
  | [], _ => rfl
  | p :: r, t => by
    simp only [putAll, updB]
    rw [putAll_get r]
    congr 1
    funext b
    rw [Tab.get_put]; rfl

theorem putNew_get : ∀ (u : List (Nat × BX)) (t t' : Tab BX), putNew t u = some t' → t'.get = updB t.get u ∧ FreshB t.get u
  | [], t, t', h => by cases h; exact ⟨rfl, trivial⟩
  | p :: r, t, t', h => by
    unfold putNew at h
    split at h
    · rename_i hn
      obtain ⟨h1, h2⟩ := putNew_get r _ t' h
      have e : (t.put p.1 p.2).get = putB t.get p.1 p.2 := by funext b; rw [Tab.get_put]; rfl
      rw [e] at h1 h2
      exact ⟨h1, hn, h2⟩
    · cases h

/-- Is the operation done? -/
def want (ops : Array Oper) (T : Nat → Option CV) (o : Oper) : Option Bool :=
  match o.guard with
  | none => some true
  | some (j, b) => match (ops[j]?).bind (·.dst) with
    | some d => match T d with
      | some (.s (.c (.v (.bool t)))) => some (t == b)
      | some .und => some false
      | _ => none
    | none => none

/-- Operation i leads from s to s'. -/
def Acts (E : Env) (ops : Array Oper) (i : Nat) (s s' : AS) (f : FP) : Prop :=
  ∃ o, ops[i]? = some o ∧ (∀ d, o.dst = some d → d < s.nt) ∧
    ((want ops s.T o = some true ∧ ∃ e, (comp E s.T s.B (s.next + 64 * o.dst.getD s.nt) o).opt = some e ∧ FreshB (updB s.B e.upd) e.new ∧
        s' = s.set o.dst e.val (updB (updB s.B e.upd) e.new) ∧ f = (touch E s.T s.B o, keys e.upd ++ keys e.new)) ∨
      (want ops s.T o = some false ∧ s' = s.set o.dst .und s.B ∧ f = ([], [])))

theorem know_get {st : St} {d : Nat} {cv : CV} (h : st.tmps.get d = some cv) : ({ st with tmps := st.tmps.put d cv } : St).abs = st.abs := by
  simp only [St.abs]
  congr 1
  funext s
  rw [Tab.get_put]
  by_cases e : s = d
  · subst e; rw [if_pos rfl, h]
  · rw [if_neg e]

theorem put_get (t : Tab CV) (d : Nat) (v : CV) : (t.put d v).get = putT t.get (some d) v := by
  funext s
  rw [Tab.get_put]; rfl

theorem evOp_out {E : Env} {o : Oper} {st st' : St} {f : FP} (h : (evOp E o st).opt = some (st', f)) :
    (∀ d, o.dst = some d → d < st.nt) ∧ ∃ e, (comp E st.abs.T st.abs.B (st.next + 64 * o.dst.getD st.nt) o).opt = some e ∧ FreshB (updB st.abs.B e.upd) e.new ∧
      st'.abs = st.abs.set o.dst e.val (updB (updB st.abs.B e.upd) e.new) ∧ f = (touch E st.abs.T st.abs.B o, keys e.upd ++ keys e.new) := by
  unfold evOp at h
  replace h := bind_m h
  obtain ⟨e, hc, h⟩ := h
  replace h := bind_ofO h
  obtain ⟨t, ht, h⟩ := h
  obtain ⟨hget, hfresh⟩ := putNew_get _ _ _ ht
  rw [putAll_get] at hget hfresh
  dsimp only at h
  split at h
  · rename_i d hd
    replace h := bif_some h
    obtain ⟨hlt, h⟩ := h
    obtain ⟨rfl, rfl⟩ := Prod.mk.inj (Option.some.inj h)
    refine ⟨fun d' hd' => ?_, e, hc, hfresh, ?_, rfl⟩
    · rw [hd] at hd'
      obtain rfl := Option.some.inj hd'
      simpa [Nat.blt_eq] using hlt
    · simp only [St.abs, AS.set, hd]
      rw [hget, put_get]
  · rename_i hd
    obtain ⟨rfl, rfl⟩ := Prod.mk.inj (Option.some.inj h)
    refine ⟨fun d' hd' => (by rw [hd] at hd'; cases hd'), e, hc, hfresh, ?_, rfl⟩
    simp only [St.abs, AS.set, hd, putT]
    rw [hget]

theorem skipOp_out {o : Oper} {st st' : St} {f : FP} (h : (skipOp o st).opt = some (st', f)) : (∀ d, o.dst = some d → d < st.nt) ∧ st'.abs = st.abs.set o.dst .und st.abs.B ∧ f = ([], []) := by
  unfold skipOp at h
  split at h
  · rename_i d hd
    replace h := bif_some h
    obtain ⟨hlt, h⟩ := h
    obtain ⟨rfl, rfl⟩ := Prod.mk.inj (Option.some.inj h)
    refine ⟨fun d' hd' => ?_, ?_, rfl⟩
    · rw [hd] at hd'
      obtain rfl := Option.some.inj hd'
      simpa [Nat.blt_eq] using hlt
    · simp only [St.abs, AS.set, hd]
      rw [put_get]
  · rename_i hd
    obtain ⟨rfl, rfl⟩ := Prod.mk.inj (Option.some.inj h)
    exact ⟨fun d' hd' => (by rw [hd] at hd'; cases hd'), (by simp [AS.set, hd, putT]), rfl⟩

theorem idx_acts {E : Env} {ops : Array Oper} {i : Nat} {st st' : St} {f : FP} (h : (evIdx E ops i st).opt = some (st', f)) : Acts E ops i st.abs st'.abs f := by
  unfold evIdx at h
  split at h
  · cases h
  · rename_i o ho
    refine ⟨o, ho, ?_⟩
    split at h
    · rename_i hg
      obtain ⟨h1, h2⟩ := evOp_out h
      exact ⟨h1, .inl ⟨by simp [want, hg], h2⟩⟩
    · rename_i j b hg
      split at h
      · rename_i d hd
        unfold guarded at h
        split at h
        · rename_i t ht
          have hw : want ops st.abs.T o = some (t == b) := by
            have : st.abs.T d = some (.s (.c (.v (.bool t)))) := ht
            simp only [want, hg, hd, this]
          have hk := know_get ht
          have hnt : ∀ cv, ({ st with tmps := st.tmps.put d cv } : St).nt = st.nt := fun _ => rfl
          have hnx : ∀ cv, ({ st with tmps := st.tmps.put d cv } : St).next = st.next := fun _ => rfl
          cases b <;> cases t <;> simp only [cond_true, cond_false, M.opt_ite] at h
          · obtain ⟨h1, h2⟩ := evOp_out h
            rw [hk] at h2
            exact ⟨h1, .inl ⟨hw, h2⟩⟩
          · obtain ⟨h1, h2⟩ := skipOp_out h
            rw [hk] at h2
            exact ⟨h1, .inr ⟨hw, h2⟩⟩
          · obtain ⟨h1, h2⟩ := skipOp_out h
            rw [hk] at h2
            exact ⟨h1, .inr ⟨hw, h2⟩⟩
          · obtain ⟨h1, h2⟩ := evOp_out h
            rw [hk] at h2
            exact ⟨h1, .inl ⟨hw, h2⟩⟩
        · rename_i ht
          have hw : want ops st.abs.T o = some false := by
            have : st.abs.T d = some .und := ht
            simp only [want, hg, hd, this]
          obtain ⟨h1, h2⟩ := skipOp_out h
          exact ⟨h1, .inr ⟨hw, h2⟩⟩
        · cases h
      · cases h

section
variable {P : Program} {E : Env} {w0 : World} {Pr0 : Addr → Prop} {B0 : Nat → Option BX} {β0 : Nat → Option Nat}

theorem RelX.ctx {s : AS} {a : Act} {w : World} {Pr : Addr → Prop} {β : Nat → Option Nat} (hE : EnvOK P E) (h : RelX w0 Pr0 B0 β0 s a w Pr β) : Ctx P E w Pr s.B β s.T a.eval where
  mem := h.step.mem
  vals := h.vals
  const := fun _ => rfl
  fn := fun _ => rfl
  tt := hE.1
  eqs := hE.2.2

theorem eval_put_tmp {a : Act} {d : Nat} {v : Value} (hd : d < a.tmps.size) (s : Nat) : (a.put (some d) v).eval (.tmp s) = if s = d then v else a.eval (.tmp s) := by
  simp only [Act.put, Act.eval]
  by_cases h : s = d
  · subst h; simp [hd]
  · rw [if_neg h]
    simp [Array.getElem?_setIfInBounds_ne (Ne.symm h)]

/-- A temporary is set, and memory goes a step on. -/
theorem RelX.set {s : AS} {a : Act} {w w' : World} {Pr Pr' : Addr → Prop} {β β' : Nat → Option Nat} {B' : Nat → Option BX} (h : RelX w0 Pr0 B0 β0 s a w Pr β) (hs : Step w Pr s.B β w' Pr' B' β') {dst : Option Nat} (hd : ∀ d, dst = some d → d < s.nt) {cv : CV} {v : Value}
    (hv : CVR w' Pr' B' β' cv v) : RelX w0 Pr0 B0 β0 (s.set dst cv B') (a.put dst v) w' Pr' β' where
  defers := by cases dst <;> exact h.defers
  size := by
    cases dst with
    | none => exact h.size
    | some d => simp only [Act.put, Array.size_setIfInBounds]; exact h.size
  lent := h.lent
  step := h.step.trans hs
  vals := by
    intro t c hc
    have hold : ∀ c, s.T t = some c → CVR w' Pr' B' β' c (a.eval (.tmp t)) := fun c hc => CVR.ext hs.since.keep hs.since.grows hs.since.shape hs.since.ext (h.vals t c hc)
    cases dst with
    | none => exact hold c hc
    | some d =>
      simp only [AS.set, putT] at hc ⊢
      rw [eval_put_tmp (by rw [h.size]; exact hd d rfl)]
      by_cases e : t = d
      · rw [if_pos e] at hc ⊢
        obtain rfl := Option.some.inj hc
        exact hv
      · rw [if_neg e] at hc ⊢
        exact hold c hc

theorem run_invoke {f : FuncId} {fn : Func} {args : Array Value} {w : World} (h1 : P.funcs[f]? = some fn) (h2 : fn.body.isNone = false) (h3 : (fn.name == "runtime.NumGoroutine") = false) :
    (callFunc f args).run P w = .ok (.enter f args) w := by
  simp only [callFunc, Sem.run_bind, run_program, Result.andThen, h1, h3, h2]
  rfl

theorem zip_map {a : Array Operand} {b : Array TypeId} (hs : a.size = b.size) (ρ : Operand → Value) : (a.toList.zip b.toList).map (fun x => ρ x.1) = a.toList.map ρ := by
  have : (fun x : Operand × TypeId => ρ x.1) = ρ ∘ Prod.fst := rfl
  rw [this, ← List.map_map, List.map_fst_zip (by simp [hs])]

theorem op_sound (hE : EnvOK P E) {s : AS} {a : Act} {w : World} (h : Rel w0 Pr0 B0 β0 s a w) {o : Oper} {k : Nat} {e : Eff} (hc : (comp E s.T s.B k o).opt = some e) (hfresh : FreshB (updB s.B e.upd) e.new) (hd : ∀ d, o.dst = some d → d < s.nt)
    {next : Act → World → Prop} {Q : Exit → Act → World → Prop} (hn : ∀ a' w', Rel w0 Pr0 B0 β0 (s.set o.dst e.val (updB (updB s.B e.upd) e.new)) a' w' → next a' w') : o.wp P a w next Q := by
  obtain ⟨Pr, β, hX⟩ := h
  have C := hX.ctx hE
  -- what follows, whatever the value
  have hend : ∀ v w' Pr' β', Step w Pr s.B β w' Pr' (updB (updB s.B e.upd) e.new) β' → CVR w' Pr' (updB (updB s.B e.upd) e.new) β' e.val v → next (a.put o.dst v) w' :=
    fun v w' Pr' β' hs hv => hn _ _ ⟨Pr', β', hX.set hs hd hv⟩
  have hdone : Done P w Pr s.B β (execOp a.eval o) e → o.wp P a w next Q := by
    rintro ⟨nx, v, w', Pr', β', hr, hnx, hs, hv⟩
    unfold Oper.wp
    rw [hr]
    rcases hnx with rfl | ⟨rfl, rfl⟩
    · exact hend v w' Pr' β' hs hv
    · exact hend undef w' Pr' β' hs hv
  by_cases hcall : ∃ c f, o.op = .call c ∧ c.callee = .value f
  · obtain ⟨c, f, ho, hcal⟩ := hcall
    have h0 := hc
    unfold comp at h0
    rw [ho] at h0
    dsimp only at h0
    rw [hcal] at h0
    dsimp only at h0
    replace h0 := bind_ofO h0
    obtain ⟨cl, hcl, h0⟩ := h0
    have hcell := opc_sound C hcl
    split at h0
    · rename_i g caps
      replace h0 := bif_some h0
      obtain ⟨hsz, h0⟩ := h0
      replace hsz := Nat.eq_of_beq_eq_true hsz
      obtain ⟨vs, hy, hcaps⟩ := hcell
      obtain ⟨⟨fn, h1, h2, h3⟩, hcalls⟩ := callC_sound C (hE.2.1 g) h0 hfresh hcaps
      rw [zip_map hsz] at hcalls
      have hrun : (execOp a.eval o).run P w = .ok (.enter g (c.args.map a.eval ++ vs.toArray)) w := by
        simp only [execOp, ho, resolve, hcal, hy, Sem.run_bind, Deferred.ofValue]
        simp only [Sem.run_pure, Result.andThen, Array.empty_append, invoke]
        exact run_invoke h1 h2 h3
      unfold Oper.wp
      rw [hrun]
      have harr : ((c.args.toList.map a.eval) ++ vs).toArray = c.args.map a.eval ++ vs.toArray := by
        apply Array.toList_inj.1
        simp
      rw [harr] at hcalls
      refine hcalls.mono ?_
      rintro x w' ⟨v, Pr', β', rfl, hs, hv⟩
      exact hend v w' Pr' β' hs hv
    · cases h0
  · exact hdone (comp_sound C (fun c f ho hcal => hcall ⟨c, f, ho, hcal⟩) hc hfresh)

theorem idx_sound (hE : EnvOK P E) {ops : Array Oper} {i : Nat} {s s' : AS} {f : FP} {a : Act} {w : World} (h : Rel w0 Pr0 B0 β0 s a w) (he : Acts E ops i s s' f) {next : Act → World → Prop} {Q : Exit → Act → World → Prop}
    (hn : ∀ a' w', Rel w0 Pr0 B0 β0 s' a' w' → next a' w') : wpOp P ops Q i next a w := by
  obtain ⟨o, ho, hd, he⟩ := he
  unfold wpOp
  simp only [ho]
  have hw : ∀ t, want ops s.T o = some t → Region.wanted o (yielded ops a.tmps) = t := by
    intro t ht
    obtain ⟨Pr, β, hX⟩ := h
    unfold want at ht
    unfold Region.wanted
    split at ht
    · rename_i hg
      obtain rfl := Option.some.inj ht
      rw [hg]
    · rename_i j b hg
      rw [hg]
      dsimp only
      split at ht
      · rename_i d hd
        have hy : yielded ops a.tmps j = match a.eval (.tmp d) with | .bool b => some b | _ => none := by
          unfold yielded
          rw [hd]
          simp only [Option.bind_some, Act.eval]
          by_cases hlt : d < a.tmps.size
          · have e1 : a.tmps[d]? = some a.tmps[d] := Array.getElem?_eq_getElem hlt
            have e2 : a.tmps.getD d undef = a.tmps[d] := by simp [hlt]
            rw [e1, e2]
            generalize a.tmps[d] = v
            cases v <;> rfl
          · simp [hlt, undef]
        split at ht
        · rename_i t' ht'
          obtain rfl := Option.some.inj ht
          have hval : a.eval (.tmp d) = .bool t' := (hX.vals d _ ht').1
          rw [hy, hval]
          cases t' <;> cases b <;> rfl
        · rename_i ht'
          obtain rfl := Option.some.inj ht
          have hval : a.eval (.tmp d) = undef := hX.vals d _ ht'
          rw [hy, hval]
          rfl
        · cases ht
      · cases ht
  rcases he with ⟨h1, e, hc, hf, rfl, rfl⟩ | ⟨h1, rfl, rfl⟩
  · rw [hw true h1, if_pos rfl]
    exact .inl (op_sound hE h hc hf hd hn)
  · rw [hw false h1, if_neg (by decide)]
    obtain ⟨Pr, β, hX⟩ := h
    exact hn _ _ ⟨Pr, β, hX.set (Step.refl hX.step.mem) hd rfl⟩

theorem list_sound (hE : EnvOK P E) {ops : Array Oper} : ∀ (l : List Nat) {st st' : St} {a : Act} {w : World}, Rel w0 Pr0 B0 β0 st.abs a w → (evList E ops l st).opt = some st' → ∀ {Q : Exit → Act → World → Prop},
    (∀ a' w', Rel w0 Pr0 B0 β0 st'.abs a' w' → Q .normal a' w') → wpOps P ops Q l a w
  | [], st, st', a, w, h, he, Q, hn => by
    obtain rfl := Option.some.inj he
    exact hn a w h
  | i :: r, st, st', a, w, h, he, Q, hn => by
    unfold evList at he
    replace he := bind_m he
    obtain ⟨⟨q, f⟩, hq, he⟩ := he
    rw [wpOps_cons]
    exact idx_sound hE h (idx_acts hq) fun a' w' h' => list_sound hE r h' he hn
end
end Go.Proofs.YtfgkcnoiplojkaaDoor.VI
