/- The value interpreter: functions. -/
import Derived.Test.YtfgkcnoiplojkaaDoorVw
namespace Go.Proofs.YtfgkcnoiplojkaaDoor.VI
open Go

theorem slots_get : ∀ (l : List SV) (k i : Nat), (slots k l).get i = if k ≤ i then (l[i - k]?).map CV.s else none
  | [], k, i => by simp [slots, Tab.get]
  | x :: r, k, i => by
    simp only [slots, Tab.get]
    rw [slots_get r (k + 1) i]
    by_cases h : i = k
    · subst h; simp [Nat.beq_refl]
    · rw [nbeq_ne h, cond_false]
      by_cases h2 : k + 1 ≤ i
      · rw [if_pos h2, if_pos (by omega), show i - k = i - (k + 1) + 1 from by omega]; rfl
      · rw [if_neg h2, if_neg (by omega)]

theorem run_mapM_list {α β : Type} {P : Program} {w : World} (f : α → Sem β) : ∀ (l : List α) (ys : List β), All2 (fun x y => (f x).run P w = .ok y w) l ys → (l.mapM f).run P w = .ok ys w
  | [], _, .nil => by simp [List.mapM_nil]
  | x :: l, _, .cons h t => by
    rw [List.mapM_cons]
    simp only [Sem.run_bind, h, Result.andThen, run_mapM_list f l _ t, Sem.run_pure]

section
variable {P : Program} {E : Env} {w0 : World} {Pr0 : Addr → Prop} {B0 : Nat → Option BX} {β0 : Nat → Option Nat}

theorem loadVar_of {w : World} {t : TypeId} {y : Value} {v : Value} (h : (Instr.loadAt t y).run P w = .ok v w) {a : Addr} (hy : y = .pointer (some a)) : (loadVar t a).run P w = .ok v w := by
  subst hy
  simp only [Instr.loadAt, Sem.run_bind] at h
  exact h

def resultWord (tmps : Array Value) : ResultVar → Sem Value
  | .tmp t => pure (tmps.getD t undef)
  | .cell a t => do loadVar t (← asAddr (tmps.getD a undef))

theorem result_sound {st : St} {a : Act} {w : World} {Pr : Addr → Prop} {β : Nat → Option Nat} (hE : EnvOK P E) (hX : RelX w0 Pr0 B0 β0 st.abs a w Pr β) {r : ResultVar} {x : SV} (h : resultOf E st r = some x) :
    ∃ y, (resultWord a.tmps r).run P w = .ok y w ∧ SVR w Pr st.boxes.get β x y := by
  have C := hX.ctx hE
  cases r with
  | tmp t =>
    simp only [resultOf] at h
    split at h
    · rename_i s hs
      obtain rfl := Option.some.inj h
      exact ⟨_, rfl, hX.vals t _ hs⟩
    · cases h
  | cell a' t =>
    simp only [resultOf, Option.bind_eq_some_iff] at h
    obtain ⟨d, hd, h⟩ := h
    split at h
    · rename_i b off hs
      split at h
      · rename_i cs hb
        split at h
        · rename_i s hp
          obtain rfl := Option.some.inj h
          have hv := hX.vals a' _ hs
          obtain ⟨g, bx, hy, _⟩ := hv
          have hld : (loadC st.boxes.get d (.s (.c (.ptr b off)))).opt = some (.s s) := by
            simp only [loadC, hb, M.opt_ofO, hp]
          obtain ⟨v, h1, h2⟩ := load_sound C hd (hX.vals a' _ hs) hld
          refine ⟨v, ?_, h2⟩
          have hy' : a.tmps.getD a' undef = .pointer (some ⟨g, off, none⟩) := hy
          simp only [resultWord, hy', Sem.run_bind]
          exact loadVar_of h1 hy
        · cases h
      · cases h
    · cases h

theorem results_sound {st : St} {a : Act} {w : World} {Pr : Addr → Prop} {β : Nat → Option Nat} (hE : EnvOK P E) (hX : RelX w0 Pr0 B0 β0 st.abs a w Pr β) : ∀ {l : List ResultVar} {xs : List SV}, resultsOf E st l = some xs →
    ∃ ys, All2 (fun r y => (resultWord a.tmps r).run P w = .ok y w) l ys ∧ All2 (SVR w Pr st.boxes.get β) xs ys
  | [], xs, h => by cases h; exact ⟨[], .nil, .nil⟩
  | r :: l, xs, h => by
    simp only [resultsOf, Option.bind_eq_some_iff, Option.map_eq_some_iff] at h
    obtain ⟨v, hv, q, hq, rfl⟩ := h
    obtain ⟨y, h1, h2⟩ := result_sound hE hX hv
    obtain ⟨ys, h3, h4⟩ := results_sound hE hX hq
    exact ⟨y :: ys, .cons h1 h3, .cons h2 h4⟩

theorem results_run {fn : Func} {tmps : Array Value} {w : World} {ys : List Value} (h : All2 (fun r y => (resultWord tmps r).run P w = .ok y w) fn.results.toList ys) : (results fn tmps).run P w = .ok (oneV ys) w := by
  have h1 : (fn.results.mapM (resultWord tmps)).run P w = .ok ys.toArray w := by
    rw [Array.mapM_eq_mapM_toList]
    have := run_mapM_list (resultWord tmps) _ _ h
    rw [map_eq_pure_bind, Sem.run_bind, this]
    rfl
  have h2 : results fn tmps = (do let vs ← fn.results.mapM (resultWord tmps); pure (if h : vs.size = 1 then vs[0] else .tuple vs)) := by
    rfl
  rw [h2]
  simp only [Sem.run_bind, h1, Result.andThen, Sem.run_pure]
  congr 1
  cases ys with
  | nil => rfl
  | cons y r =>
    cases r with
    | nil => rfl
    | cons z r => simp [oneV]

theorem put_get' (B : Tab BX) (b : Nat) (x : BX) : (B.put b x).get = putB B.get b x := by
  funext s
  rw [Tab.get_put]; rfl

theorem castC_sound {w : World} {Pr : Addr → Prop} {β : Nat → Option Nat} {B B' : Tab BX} {k : Nat} {q : Cast} {c c' : Cell} {y : Value} (h : castC B k q c = some (c', B')) (hM : Mem w Pr B.get β) (hc : CellR w Pr B.get β c y) :
    ∃ Pr' β', Step w Pr B.get β w Pr' B'.get β' ∧ CellR w Pr' B'.get β' c' y := by
  unfold castC at h
  split at h
  · obtain ⟨rfl, rfl⟩ := Prod.mk.inj (Option.some.inj h)
    exact ⟨Pr, β, Step.refl hM, hc⟩
  · split at h
    · obtain ⟨rfl, rfl⟩ := Prod.mk.inj (Option.some.inj h)
      obtain ⟨rfl, _⟩ := hc
      exact ⟨Pr, β, Step.refl hM, none, 0, 0, rfl, RowV.nil _⟩
    · simp only [Option.map_eq_some_iff] at h
      obtain ⟨ys, hys, h⟩ := h
      obtain ⟨rfl, rfl⟩ := Prod.mk.inj h
      obtain ⟨rfl, rfl⟩ := castRow_eq hys
      exact ⟨Pr, β, Step.refl hM, hc⟩
    · rename_i b
      split at h
      · rename_i ro ty' xs hb
        simp only [Option.map_eq_some_iff] at h
        obtain ⟨ys, hys, h⟩ := h
        obtain ⟨rfl, rfl⟩ := Prod.mk.inj h
        obtain ⟨rfl, rfl⟩ := castRow_eq hys
        obtain ⟨_, bx, hb', ho⟩ := hc
        rw [hb] at hb'
        obtain rfl := Option.some.inj hb'
        obtain ⟨Pr', hs⟩ := Step.freeze hM hb
        rw [put_get']
        exact ⟨Pr', β, hs, own_row (hs.mem.box b _ (by simp [putB])) (ho _ _ _ rfl)⟩
      · cases h
    · rename_i b off n
      split at h
      · rename_i ro ty' xs hb
        simp only [Option.map_eq_some_iff] at h
        obtain ⟨ys, hys, h⟩ := h
        obtain ⟨rfl, rfl⟩ := Prod.mk.inj h
        obtain ⟨rfl, rfl⟩ := castRow_eq hys
        obtain ⟨A, c, rfl, hn, bx, hb', ho⟩ := hc
        rw [hb] at hb'
        obtain rfl := Option.some.inj hb'
        have hv := ho _ _ _ rfl
        obtain ⟨Pr', hs⟩ := Step.freeze hM hb
        rw [put_get']
        exact ⟨Pr', β, hs, A, n, c, rfl, view_row (hs.mem.box b _ (by simp [putB])) hn hv⟩
      · cases h
    · cases h
  · split at h
    · split at h
      · rename_i hk
        obtain ⟨rfl, rfl⟩ := Prod.mk.inj (Option.some.inj h)
        obtain ⟨rfl, _⟩ := hc
        rw [put_get']
        refine ⟨Pr, _, Step.nil hM hk _, ⟨none, 0, 0, rfl⟩, _, (by simp only [putB, if_true]; rfl), ?_⟩
        rintro ro ty xs e
        simp only [BX.arr.injEq] at e
        obtain ⟨_, rfl, e⟩ := e
        obtain rfl := eq_of_heq e
        simp [putβ, OwnV]
      · cases h
    · obtain ⟨rfl, rfl⟩ := Prod.mk.inj (Option.some.inj h)
      exact ⟨Pr, β, Step.refl hM, hc⟩
    · cases h

theorem castCs_sound {w : World} : ∀ {cs : List Cell} {Pr : Addr → Prop} {β : Nat → Option Nat} {B B' : Tab BX} {k : Nat} {qs : List Cast} {cs' : List Cell} {ys : List Value}, castCs B k qs cs = some (cs', B') → Mem w Pr B.get β → All2 (CellR w Pr B.get β) cs ys →
    ∃ Pr' β', Step w Pr B.get β w Pr' B'.get β' ∧ All2 (CellR w Pr' B'.get β') cs' ys
  | [], Pr, β, B, B', k, qs, cs', ys, h, hM, hc => by
    obtain ⟨rfl, rfl⟩ := Prod.mk.inj (Option.some.inj h)
    cases hc
    exact ⟨Pr, β, Step.refl hM, .nil⟩
  | c :: r, Pr, β, B, B', k, qs, cs', _ :: _, h, hM, .cons hc ht => by
    simp only [castCs, Option.bind_eq_some_iff, Option.map_eq_some_iff] at h
    obtain ⟨⟨c1, B1⟩, h1, ⟨r1, B2⟩, h2, h⟩ := h
    obtain ⟨rfl, rfl⟩ := Prod.mk.inj h
    obtain ⟨P1, β1, s1, hc1⟩ := castC_sound h1 hM hc
    obtain ⟨P2, β2, s2, hr⟩ := castCs_sound h2 s1.mem (CellsR.ext s1.since.keep s1.since.grows s1.since.shape s1.since.ext ht)
    exact ⟨P2, β2, s1.trans s2, .cons (CellR.ext s2.since.keep s2.since.grows s2.since.shape s2.since.ext hc1) hr⟩

theorem castSV_sound {w : World} {x x' : SV} {Pr : Addr → Prop} {β : Nat → Option Nat} {B B' : Tab BX} {k : Nat} {qs : List Cast} {y : Value} (h : castSV B k qs x = some (x', B')) (hM : Mem w Pr B.get β) (hc : SVR w Pr B.get β x y) :
    ∃ Pr' β', Step w Pr B.get β w Pr' B'.get β' ∧ SVR w Pr' B'.get β' x' y := by
  cases x with
  | c c =>
    simp only [castSV, Option.map_eq_some_iff] at h
    obtain ⟨⟨c1, B1⟩, h1, h⟩ := h
    obtain ⟨rfl, rfl⟩ := Prod.mk.inj h
    exact castC_sound h1 hM hc
  | agg cs =>
    simp only [castSV, Option.map_eq_some_iff] at h
    obtain ⟨⟨c1, B1⟩, h1, h⟩ := h
    obtain ⟨rfl, rfl⟩ := Prod.mk.inj h
    obtain ⟨vs, e, hc⟩ := hc
    obtain ⟨P1, β1, s1, hc1⟩ := castCs_sound h1 hM hc
    exact ⟨P1, β1, s1, vs, e, hc1⟩

theorem castSVs_sound {w : World} : ∀ {xs : List SV} {Pr : Addr → Prop} {β : Nat → Option Nat} {B B' : Tab BX} {k : Nat} {qs : List (List Cast)} {xs' : List SV} {ys : List Value}, castSVs B k qs xs = some (xs', B') → Mem w Pr B.get β → All2 (SVR w Pr B.get β) xs ys →
    ∃ Pr' β', Step w Pr B.get β w Pr' B'.get β' ∧ All2 (SVR w Pr' B'.get β') xs' ys
  | [], Pr, β, B, B', k, qs, cs', ys, h, hM, hc => by
    obtain ⟨rfl, rfl⟩ := Prod.mk.inj (Option.some.inj h)
    cases hc
    exact ⟨Pr, β, Step.refl hM, .nil⟩
  | c :: r, Pr, β, B, B', k, qs, cs', _ :: _, h, hM, .cons hc ht => by
    simp only [castSVs, Option.bind_eq_some_iff, Option.map_eq_some_iff] at h
    obtain ⟨⟨c1, B1⟩, h1, ⟨r1, B2⟩, h2, h⟩ := h
    obtain ⟨rfl, rfl⟩ := Prod.mk.inj h
    obtain ⟨P1, β1, s1, hc1⟩ := castSV_sound h1 hM hc
    obtain ⟨P2, β2, s2, hr⟩ := castSVs_sound h2 s1.mem (ht.imp fun _ _ hx => SVR.ext s1.since.keep s1.since.grows s1.since.shape s1.since.ext hx)
    exact ⟨P2, β2, s1.trans s2, .cons (SVR.ext s2.since.keep s2.since.grows s2.since.shape s2.since.ext hc1) hr⟩

theorem leave_sound {fn : Func} {st : St} {a : Act} {w : World} (hE : EnvOK P E) (hrel : Rel w0 Pr0 B0 β0 st.abs a w) {r : List SV × List BX} (h : leave E fn st = some r) :
    ∃ ys Pr β, (results fn a.tmps).run P w = .ok (oneV ys) w ∧ Step w0 Pr0 B0 β0 w Pr (r.2[·]?) β ∧ All2 (SVR w Pr (r.2[·]?) β) r.1 ys := by
  obtain ⟨Pr, β, hX⟩ := hrel
  unfold leave at h
  simp only [Option.bind_eq_some_iff] at h
  obtain ⟨vs, hvs, q, hq, p, hp, h⟩ := h
  cases hb : begins st.lent 0 p.1 with
  | false => rw [hb] at h; cases h
  | true =>
    rw [hb] at h
    obtain rfl := Option.some.inj h
    obtain ⟨ys, h1, h2⟩ := results_sound hE hX hvs
    obtain ⟨P1, β1, s1, h6⟩ := castSVs_sound (w := w) (B := st.boxes) hq hX.step.mem h2
    obtain ⟨h3, h4, h5⟩ := recast (hX.step.trans s1) hX.lent hp hb
    exact ⟨ys, P1, _, results_run h1, h3, SVsR.move h4 (.inl fun _ h => h) (fun b hb => h5 b (by simp [hb])) h6⟩

theorem fn_sound (hE : EnvOK P E) (hm : P.follows .mixedOrders = true) {f : FuncId} {fn : Func} {c : Code} (hf : P.funcs[f]? = some fn) (hb : fn.body = some c) (hname : (fn.name == "runtime.NumGoroutine") = false) (k : Nat) : Fulfils P f (evFn E k fn c) := by
  intro vs bs vs' bs' h
  refine ⟨⟨fn, hf, by rw [hb]; rfl, hname⟩, fun w Pr β ys hM hvs => ?_⟩
  unfold evFn evFnJ at h
  replace h := bif_some h
  obtain ⟨hc, h⟩ := h
  rw [Bool.and_eq_true] at hc
  have hlen : vs.length ≤ fn.ntmps := Nat.le_of_ble_eq_true hc.1
  have hsize : ys.length ≤ fn.ntmps := by rw [← hvs.length]; exact hlen
  replace h := bind_m h
  obtain ⟨⟨ex, st⟩, h1, h⟩ := h
  refine calls_of_wp hf hb ?_
  have hB : ({ nt := fn.ntmps, lent := bs.length, tmps := slots 0 vs, boxes := number 0 bs, next := firstName } : St).abs.B = (bs[·]?) := number_zero bs
  have hrel : Rel w Pr (bs[·]?) β ({ nt := fn.ntmps, lent := bs.length, tmps := slots 0 vs, boxes := number 0 bs, next := firstName } : St).abs
      { tmps := ys.toArray ++ Array.replicate (fn.ntmps - ys.toArray.size) undef, defers := [] } w := by
    refine ⟨Pr, β, rfl, ?_, fun b x hx => (List.getElem?_eq_some_iff.1 hx).1, ?_, ?_⟩
    · show (ys.toArray ++ Array.replicate (fn.ntmps - ys.toArray.size) undef).size = fn.ntmps
      simp; omega
    · intro t cv hcv
      have hcv' : (slots 0 vs).get t = some cv := hcv
      rw [slots_get, if_pos (Nat.zero_le _), Nat.sub_zero, Option.map_eq_some_iff] at hcv'
      obtain ⟨x, hx, rfl⟩ := hcv'
      obtain ⟨y, hy, hr⟩ := hvs.get t x hx
      rw [hB]
      have : Act.eval { tmps := ys.toArray ++ Array.replicate (fn.ntmps - ys.toArray.size) undef, defers := [] } (.tmp t) = y := by
        have hlt := (List.getElem?_eq_some_iff.1 hy).1
        show (ys.toArray ++ Array.replicate (fn.ntmps - ys.toArray.size) undef).getD t undef = y
        rw [Array.getD_eq_getD_getElem?, Array.getElem?_append_left (by simpa using hlt)]
        simp [hy]
      rw [this]
      exact hr
    · rw [hB]; exact Step.refl hM
  refine code_sound hE hm (loop_sound hE hm k) c h1 hrel fun a' w' hrel' => ?_
  have hout : ∀ r, leave E fn st = some r → r = (vs', bs') → a'.defers = [] ∧ ∃ v, (results fn a'.tmps).run P w' = .ok v w' ∧ ∃ ys' Pr' β', Ending.returned v = .returned (oneV ys') ∧ Step w Pr (bs[·]?) β w' Pr' (bs'[·]?) β' ∧ All2 (SVR w' Pr' (bs'[·]?) β') vs' ys' := by
    rintro r hr rfl
    obtain ⟨ys', Pr', β', h2, h3, h4⟩ := leave_sound hE hrel' hr
    obtain ⟨_, _, hX⟩ := hrel'
    exact ⟨hX.defers, _, h2, ys', Pr', β', rfl, h3, h4⟩
  cases ex with
  | normal =>
    have h' : leave E fn st = some (vs', bs') := by simpa [M.opt_ofO] using h
    exact hout _ h' rfl
  | ret =>
    have h' : leave E fn st = some (vs', bs') := by simpa [M.opt_ofO] using h
    exact hout _ h' rfl
  | exit id => cases h
end
end Go.Proofs.YtfgkcnoiplojkaaDoor.VI
