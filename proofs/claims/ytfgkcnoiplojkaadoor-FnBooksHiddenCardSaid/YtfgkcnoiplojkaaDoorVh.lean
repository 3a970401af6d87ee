/- The value interpreter: the operations that only compute, and those that read. -/
import Derived.Test.YtfgkcnoiplojkaaDoorVg
namespace Go.Proofs.YtfgkcnoiplojkaaDoor.VI
open Go

def updB : (Nat → Option BX) → List (Nat × BX) → Nat → Option BX
  | B, [] => B
  | B, p :: r => updB (putB B p.1 p.2) r

def FreshB : (Nat → Option BX) → List (Nat × BX) → Prop
  | _, [] => True
  | B, p :: r => B p.1 = none ∧ FreshB (putB B p.1 p.2) r

/-- What is known where an operation begins. -/
structure Ctx (P : Program) (E : Env) (w : World) (Pr : Addr → Prop) (B : Nat → Option BX) (β : Nat → Option Nat) (T : Nat → Option CV) (ρ : Operand → Value) : Prop where
  mem : Mem w Pr B β
  vals : ∀ s cv, T s = some cv → CVR w Pr B β cv (ρ (.tmp s))
  const : ∀ v, ρ (.const v) = v
  fn : ∀ f, ρ (.func f) = .func (.func f) #[] #[]
  tt : ∀ t td, E.tt t = some td → TDok P t td
  eqs : ∀ t ks, E.eqs t = some ks → EqOK P t ks

/-- The operation's word ends so. -/
def Ends (P : Program) (w : World) (Pr : Addr → Prop) (B : Nat → Option BX) (β : Nat → Option Nat) (s : Sem Value) (e : Eff) : Prop :=
  ∃ v w' Pr' β', s.run P w = .ok v w' ∧ Step w Pr B β w' Pr' (updB (updB B e.upd) e.new) β' ∧ CVR w' Pr' (updB (updB B e.upd) e.new) β' e.val v

section
variable {P : Program} {E : Env} {w : World} {Pr : Addr → Prop} {B : Nat → Option BX} {β : Nat → Option Nat} {T : Nat → Option CV} {ρ : Operand → Value}

theorem Ends.quiet {s : Sem Value} {v : Value} {cv : CV} (h : Mem w Pr B β) (hr : s.run P w = .ok v w) (hv : CVR w Pr B β cv v) : Ends P w Pr B β s ⟨cv, [], []⟩ :=
  ⟨v, w, Pr, β, hr, Step.refl h, hv⟩

theorem opv_sound (C : Ctx P E w Pr B β T ρ) {x : Operand} {cv : CV} (h : opv T x = some cv) : CVR w Pr B β cv (ρ x) := by
  cases x with
  | tmp t => exact C.vals t cv h
  | const v =>
    simp only [opv] at h
    cases ho : oneCell v with
    | false => rw [ho] at h; cases h
    | true =>
      rw [ho] at h
      obtain rfl := Option.some.inj h
      rw [C.const]
      exact ⟨rfl, ho⟩
  | func f =>
    obtain rfl := Option.some.inj h
    rw [C.fn]
    exact ⟨[], rfl, .nil⟩
  | global g => cases h

theorem opc_sound (C : Ctx P E w Pr B β T ρ) {x : Operand} {c : Cell} (h : opc T x = some c) : CellR w Pr B β c (ρ x) := by
  simp only [opc, Option.bind_eq_some_iff] at h
  obtain ⟨cv, hv, h⟩ := h
  split at h
  · obtain rfl := Option.some.inj h; exact opv_sound C hv
  · cases h

theorem opI_sound (C : Ctx P E w Pr B β T ρ) {x : Operand} {r : IntKind × Int} (h : opI T x = some r) : ρ x = .int r.1 r.2 := by
  simp only [opI, Option.bind_eq_some_iff] at h
  obtain ⟨c, hc, h⟩ := h
  split at h
  · obtain rfl := Option.some.inj h; exact (opc_sound C hc).1
  · cases h

theorem opB_sound (C : Ctx P E w Pr B β T ρ) {x : Operand} {b : Bool} (h : opB T x = some b) : ρ x = .bool b := by
  simp only [opB, Option.bind_eq_some_iff] at h
  obtain ⟨c, hc, h⟩ := h
  split at h
  · obtain rfl := Option.some.inj h; exact (opc_sound C hc).1
  · cases h

/-- Arithmetic and comparisons. -/
theorem intBin_sound {op : BinOp} {k : IntKind} {x y : Int} {v : Value} {t : TypeId} (hs : op ≠ .shl) (hs' : op ≠ .shr) (h : (intBin op k x y).opt = some v) :
    (binOp op t (.int k x) (.int k y)).run P w = .ok v w ∧ oneCell v = true := by
  unfold intBin at h
  cases op <;> simp only [M.opt_ret, M.opt_fail, M.opt_ite, Option.some.injEq, reduceCtorEq] at h
  case quo =>
    by_cases hy : y = 0
    · rw [show decide (y = 0) = true from decide_eq_true hy] at h; cases h
    · rw [show decide (y = 0) = false from decide_eq_false hy] at h
      obtain rfl := Option.some.inj h
      exact ⟨by simp [binOp, Op.intDiv, hy], rfl⟩
  case rem =>
    by_cases hy : y = 0
    · rw [show decide (y = 0) = true from decide_eq_true hy] at h; cases h
    · rw [show decide (y = 0) = false from decide_eq_false hy] at h
      obtain rfl := Option.some.inj h
      exact ⟨by simp [binOp, Op.intDiv, hy], rfl⟩
  all_goals
    subst h
    exact ⟨by simp [binOp, Op.intArith, Op.intBits, Op.intCmp], rfl⟩

theorem strBin_sound {op : BinOp} {x y : ByteArray} {v : Value} {t : TypeId} (h : (strBin op x y).opt = some v) :
    (binOp op t (.string x) (.string y)).run P w = .ok v w ∧ oneCell v = true := by
  unfold strBin at h
  cases op <;> simp only [M.opt_ret, M.opt_fail, M.opt_ite, Option.some.injEq, reduceCtorEq] at h
  case add =>
    by_cases hy : ((x.size + y.size : Nat) : Int) > IntKind.i64.max
    · rw [show decide (((x.size + y.size : Nat) : Int) > IntKind.i64.max) = true from decide_eq_true hy] at h; cases h
    · rw [show decide (((x.size + y.size : Nat) : Int) > IntKind.i64.max) = false from decide_eq_false hy] at h
      obtain rfl := Option.some.inj h
      refine ⟨?_, rfl⟩
      simp only [binOp, Op.stringOp]
      rw [if_neg hy]
      rfl
  all_goals
    subst h
    exact ⟨by simp [binOp, Op.stringOp], rfl⟩

theorem run_equal_bool {t : TypeId} (ht : P.underlying t = some .bool) (p q : Bool) : (Op.equal t (.bool p) (.bool q)).run P w = .ok (p == q) w := by
  obtain ⟨d, hd⟩ : ∃ d, Op.maxDepth = d + 1 := ⟨9999, rfl⟩
  unfold Op.equal
  rw [hd]
  unfold Op.equalIn
  simp only [Sem.run_bind, run_underlying ht, Result.andThen]
  rfl

theorem aggInts_sound : ∀ {ks : List IntKind} {cs : List Cell} {as : List Int} {vs : List Value}, All2 (CellR w Pr B β) cs vs → aggInts ks cs = some as → as.length = ks.length ∧ vs = intVals ks as
  | [], [], as, vs, h, e => by cases h; cases e; exact ⟨rfl, rfl⟩
  | k :: ks, .v (.int j x) :: cs, as, vs, h, e => by
    cases h with
    | cons hc ht =>
      simp only [aggInts] at e
      cases hk : kindEq j k with
      | false => rw [hk] at e; cases e
      | true =>
      rw [hk, cond_true] at e
      obtain rfl := kindEq_eq hk
      split at e
      · rename_i xs hxs
        obtain rfl := Option.some.inj e
        obtain ⟨rfl, _⟩ := hc
        obtain ⟨h1, rfl⟩ := aggInts_sound ht hxs
        exact ⟨by simp [h1], rfl⟩
      · cases e
  | [], _ :: _, _, _, _, e => by cases e
  | _ :: _, [], _, _, _, e => by cases e
  | _ :: _, .v (.bool _) :: _, _, _, _, e => by cases e
  | _ :: _, .row _ _ :: _, _, _, _, e => by cases e

theorem bin_sound {tb : Bool} {te : Option (List IntKind)} {op : BinOp} {x y : CV} {a b : Value} {v : Value} {t : TypeId} {o1 o2 : Operand} (hb : tb = true → P.underlying t = some .bool) (hq : ∀ ks, te = some ks → EqOK P t ks)
    (hx : CVR w Pr B β x a) (hy : CVR w Pr B β y b) (h : (bin tb te op x y).opt = some v) :
    ((do eqGuard op t o1 o2 a b; binOp op t a b : Sem Value)).run P w = .ok v w ∧ oneCell v = true := by
  unfold bin at h
  split at h
  · rename_i j p k q
    obtain ⟨rfl, _⟩ := hx
    obtain ⟨rfl, _⟩ := hy
    have hg : eqGuard op t o1 o2 (.int j p) (.int k q) = pure () := by cases op <;> rfl
    rw [hg]
    simp only [Sem.run_bind, Sem.run_pure, Result.andThen]
    split at h
    · simp only [M.opt_ite, M.opt_fail, M.opt_ret] at h
      by_cases hy : q < 0
      · rw [show decide (q < 0) = true from decide_eq_true hy] at h; cases h
      · rw [show decide (q < 0) = false from decide_eq_false hy] at h
        obtain rfl := Option.some.inj h
        exact ⟨by simp [binOp, Op.shift, hy], rfl⟩
    · simp only [M.opt_ite, M.opt_fail, M.opt_ret] at h
      by_cases hy : q < 0
      · rw [show decide (q < 0) = true from decide_eq_true hy] at h; cases h
      · rw [show decide (q < 0) = false from decide_eq_false hy] at h
        obtain rfl := Option.some.inj h
        exact ⟨by simp [binOp, Op.shift, hy], rfl⟩
    · rename_i h1 h2
      cases hk : kindEq j k with
      | false => rw [hk] at h; cases h
      | true =>
        rw [hk] at h
        obtain rfl := kindEq_eq hk
        exact intBin_sound (fun e => h1 e) (fun e => h2 e) h
  · rename_i p q
    obtain ⟨rfl, _⟩ := hx
    obtain ⟨rfl, _⟩ := hy
    have hg : eqGuard op t o1 o2 (.bool p) (.bool q) = pure () := by cases op <;> rfl
    rw [hg]
    simp only [Sem.run_bind, Sem.run_pure, Result.andThen]
    cases tb with
    | false => cases h
    | true =>
      have hu := hb rfl
      have he := run_equal_bool (w := w) hu p q
      simp only [cond_true] at h
      cases op <;> simp only [M.opt_ret, M.opt_fail, Option.some.injEq, reduceCtorEq] at h
      · subst h
        refine ⟨?_, rfl⟩
        show (do pure (.bool (← Op.equal t (.bool p) (.bool q))) : Sem Value).run P w = _
        rw [Sem.run_bind, he]; rfl
      · subst h
        refine ⟨?_, rfl⟩
        show (do pure (.bool (!(← Op.equal t (.bool p) (.bool q)))) : Sem Value).run P w = _
        rw [Sem.run_bind, he]; rfl
  · rename_i p q
    obtain ⟨rfl, _⟩ := hx
    obtain ⟨rfl, _⟩ := hy
    have hg : eqGuard op t o1 o2 (.string p) (.string q) = pure () := by cases op <;> rfl
    rw [hg]
    simp only [Sem.run_bind, Sem.run_pure, Result.andThen]
    exact strBin_sound h
  · rename_i xs ys
    obtain ⟨vs, rfl, hvs⟩ := hx
    obtain ⟨us, rfl, hus⟩ := hy
    split at h
    · rename_i ks
      split at h
      · rename_i p q hp hq2
        obtain ⟨h1, rfl⟩ := aggInts_sound hvs hp
        obtain ⟨h2, rfl⟩ := aggInts_sound hus hq2
        have hE := hq _ rfl
        have hg : (eqGuard op t o1 o2 (.agg (intVals ks p).toArray) (.agg (intVals ks q).toArray)).run P w = .ok () w := run_eqGuard_agg w op t o1 o2 _ _ hE.2.2.1
        have hr := hE.run h1 h2 w
        simp only [Sem.run_bind, hg, Result.andThen]
        split at h
        · obtain rfl := Option.some.inj h
          exact ⟨by rw [run_eql_struct, hr]; rfl, rfl⟩
        · obtain rfl := Option.some.inj h
          exact ⟨by rw [run_neq_struct, hr]; rfl, rfl⟩
        · cases h
      · cases h
    · cases h
  · cases h
end
end Go.Proofs.YtfgkcnoiplojkaaDoor.VI
