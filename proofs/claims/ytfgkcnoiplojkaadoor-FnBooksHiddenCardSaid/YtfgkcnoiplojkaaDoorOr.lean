/- The value interpreter: functions whose contract is proved otherwise. -/
import Derived.Test.YtfgkcnoiplojkaaDoorVy
namespace Go.Proofs.YtfgkcnoiplojkaaDoor.VI
open Go

def HasFn (P : Program) (f : FuncId) : Prop := ∃ fn, P.funcs[f]? = some fn ∧ fn.body.isNone = false ∧ (fn.name == "runtime.NumGoroutine") = false

theorem hasFn {P : Program} {f : FuncId} {fn : Func} (h : P.funcs[f]? = some fn) (hb : fn.body.isNone = false) (hn : (fn.name == "runtime.NumGoroutine") = false) : HasFn P f := ⟨fn, h, hb, hn⟩

theorem Entry.ok_of {P : Program} {e : Entry} (hf : HasFn P e.f) (h : ∀ v r vs bs, e.pa.mat vs bs = some v → e.g v = some r → ∀ vs' bs', (res e.al r).opt = some (vs', bs') → ∀ w Pr β ys, Mem w Pr (bs[·]?) β → All2 (SVR w Pr (bs[·]?) β) vs ys →
    Calls P e.f ys.toArray w fun x w' => ∃ ys' Pr' β', x = .returned (oneV ys') ∧ Step w Pr (bs[·]?) β w' Pr' (bs'[·]?) β' ∧ All2 (SVR w' Pr' (bs'[·]?) β') vs' ys') : e.ok P := by
  intro vs bs vs' bs' hr
  refine ⟨hf, fun w Pr β ys hM hvs => ?_⟩
  unfold Entry.run at hr
  replace hr := bind_ofO hr
  obtain ⟨v, hv, hr⟩ := hr
  replace hr := bind_ofO hr
  obtain ⟨r, hg, hr⟩ := hr
  exact h v r vs bs hv hg vs' bs' hr w Pr β ys hM hvs

/-- A number to a text, nothing written. -/
theorem quiet_int_str {P : Program} {f : FuncId} {g : Int × Unit → Option (ByteArray × Unit)} (hf : HasFn P f) (h : ∀ n r w, g (n, ()) = some (r, ()) → Calls P f #[.int .i64 n] w fun e w' => e = .returned (.string r) ∧ w' = w) :
    Entry.ok P ⟨f, ⟨[.c (.int .i64)], []⟩, [⟨[.c .str], []⟩], g⟩ := by
  refine Entry.ok_of hf ?_
  rintro ⟨n, ⟨⟩⟩ ⟨r, ⟨⟩⟩ vs bs hm hg vs' bs' hr w Pr β ys hM hvs
  have e1 := PFn.mat_bld hm (fun vs bs => (vs, bs))
  obtain ⟨rfl, rfl⟩ := Prod.mk.inj e1
  obtain ⟨rfl, rfl⟩ := Prod.mk.inj (Option.some.inj hr)
  cases hvs with
  | cons hx ht =>
    cases ht
    obtain ⟨rfl, _⟩ := hx
    refine (h n r w hg).mono ?_
    rintro e w' ⟨rfl, rfl⟩
    exact ⟨[.string r], Pr, β, rfl, Step.refl hM, .cons ⟨rfl, rfl⟩ .nil⟩

/-- Two texts to a number, nothing written. -/
theorem quiet_str2_int {P : Program} {f : FuncId} {g : ByteArray × ByteArray × Unit → Option (Int × Unit)} (hf : HasFn P f) (h : ∀ a b r w, g (a, b, ()) = some (r, ()) → Calls P f #[.string a, .string b] w fun e w' => e = .returned (.int .i64 r) ∧ w' = w) :
    Entry.ok P ⟨f, ⟨[.c .str, .c .str], []⟩, [⟨[.c (.int .i64)], []⟩], g⟩ := by
  refine Entry.ok_of hf ?_
  rintro ⟨a, b, ⟨⟩⟩ ⟨r, ⟨⟩⟩ vs bs hm hg vs' bs' hr w Pr β ys hM hvs
  have e1 := PFn.mat_bld hm (fun vs bs => (vs, bs))
  obtain ⟨rfl, rfl⟩ := Prod.mk.inj e1
  obtain ⟨rfl, rfl⟩ := Prod.mk.inj (Option.some.inj hr)
  cases hvs with
  | cons hx ht =>
    cases ht with
    | cons hy ht =>
      cases ht
      obtain ⟨rfl, _⟩ := hx
      obtain ⟨rfl, _⟩ := hy
      refine (h a b r w hg).mono ?_
      rintro e w' ⟨rfl, rfl⟩
      exact ⟨[.int .i64 r], Pr, β, rfl, Step.refl hM, .cons ⟨rfl, rfl⟩ .nil⟩

end Go.Proofs.YtfgkcnoiplojkaaDoor.VI
