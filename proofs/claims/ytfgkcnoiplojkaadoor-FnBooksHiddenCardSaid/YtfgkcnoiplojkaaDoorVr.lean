/- The value interpreter: calls of functions. -/
import Derived.Test.YtfgkcnoiplojkaaDoorVq
namespace Go.Proofs.YtfgkcnoiplojkaaDoor.VI
open Go

def oneV : List Value → Value
  | [v] => v
  | vs => .tuple vs.toArray

/-- The function number f answers as F says. -/
def Fulfils (P : Program) (f : FuncId) (F : List SV → List BX → M (List SV × List BX)) : Prop :=
  ∀ vs bs vs' bs', (F vs bs).opt = some (vs', bs') →
    (∃ fn, P.funcs[f]? = some fn ∧ fn.body.isNone = false ∧ (fn.name == "runtime.NumGoroutine") = false) ∧
    ∀ w Pr β ys, Mem w Pr (bs[·]?) β → All2 (SVR w Pr (bs[·]?) β) vs ys →
      Calls P f ys.toArray w fun e w' => ∃ ys' Pr' β', e = .returned (oneV ys') ∧ Step w Pr (bs[·]?) β w' Pr' (bs'[·]?) β' ∧ All2 (SVR w' Pr' (bs'[·]?) β') vs' ys'

theorem updB_none {b : Nat} : ∀ {u : List (Nat × BX)} {B : Nat → Option BX}, updB B u b = none → B b = none
  | [], _, h => h
  | p :: r, B, h => by
    have := updB_none (u := r) h
    simp only [putB] at this
    split at this
    · cases this
    · exact this

theorem newOf_out {g : Nat → Nat} : ∀ {xs : List BX} {k : Nat} {B : Nat → Option BX} {b : Nat}, (b < k ∨ k + xs.length ≤ b) → updB B (newOf g k xs) b = B b
  | [], k, B, b, _ => rfl
  | x :: r, k, B, b, h => by
    simp only [newOf, updB]
    rw [newOf_out (by simp only [List.length_cons] at h; omega)]
    simp only [putB]
    rw [if_neg (by simp only [List.length_cons] at h; omega)]

theorem newOf_in {g : Nat → Nat} : ∀ {xs : List BX} {k : Nat} {B : Nat → Option BX} {j : Nat} {x : BX}, xs[j]? = some x → updB B (newOf g k xs) (k + j) = some (x.ren g)
  | [], k, B, j, x, h => by simp at h
  | y :: r, k, B, 0, x, h => by
    simp only [List.getElem?_cons_zero, Option.some.injEq] at h
    subst h
    simp only [newOf, updB, Nat.add_zero]
    rw [newOf_out (.inl (by omega))]
    simp [putB]
  | y :: r, k, B, j + 1, x, h => by
    simp only [List.getElem?_cons_succ] at h
    simp only [newOf, updB]
    rw [show k + (j + 1) = k + 1 + j from by omega]
    exact newOf_in h

theorem newOf_fresh {g : Nat → Nat} : ∀ {xs : List BX} {k : Nat} {B : Nat → Option BX} {j : Nat}, FreshB B (newOf g k xs) → j < xs.length → B (k + j) = none
  | [], k, B, j, _, h => by simp at h
  | y :: r, k, B, 0, h, _ => h.1
  | y :: r, k, B, j + 1, h, hj => by
    have := newOf_fresh (j := j) h.2 (by simpa using hj)
    rw [show k + (j + 1) = k + 1 + j from by omega]
    simp only [putB] at this
    split at this
    · cases this
    · exact this

theorem updOf_out {g : Nat → Nat} : ∀ {l : List Nat} {xs : List BX} {B : Nat → Option BX} {b : Nat}, b ∉ l → updB B (updOf g l xs) b = B b
  | [], xs, B, b, _ => by cases xs <;> rfl
  | j :: l, [], B, b, _ => rfl
  | j :: l, x :: r, B, b, h => by
    simp only [List.mem_cons, not_or] at h
    simp only [updOf, updB]
    rw [updOf_out h.2]
    simp [putB, h.1]

theorem updOf_in {g : Nat → Nat} : ∀ {l : List Nat} {xs : List BX} {B : Nat → Option BX} {i b : Nat} {x : BX}, l.Nodup → l[i]? = some b → xs[i]? = some x → updB B (updOf g l xs) b = some (x.ren g)
  | [], xs, B, i, b, x, _, h, _ => by simp at h
  | j :: l, [], B, i, b, x, _, _, h => by simp at h
  | j :: l, y :: r, B, 0, b, x, hn, h, hx => by
    simp only [List.getElem?_cons_zero, Option.some.injEq] at h hx
    subst h; subst hx
    simp only [updOf, updB]
    rw [updOf_out (List.nodup_cons.1 hn).1]
    simp [putB]
  | j :: l, y :: r, B, i + 1, b, x, hn, h, hx => by
    simp only [List.getElem?_cons_succ] at h hx
    simp only [updOf, updB]
    exact updOf_in (List.nodup_cons.1 hn).2 h hx

theorem froze_put {B B0 : Nat → Option BX} {b c : Nat} : (b = c → ∀ ro ty xs, B b = some (.arr ro ty xs) → updB B0 (froze B (some c)) b = some (.arr true ty xs)) ∧ (b ≠ c → updB B0 (froze B (some c)) b = B0 b) := by
  constructor
  · rintro rfl ro ty xs h
    simp [froze, h, updB, putB]
  · intro hn
    simp only [froze]
    split
    · simp [updB, putB, hn]
    · rfl

theorem frozeAll_get {B : Nat → Option BX} {b : Nat} : ∀ {sh : List Nat} {B0 : Nat → Option BX},
    (b ∈ sh → ∀ ro ty xs, B b = some (.arr ro ty xs) → updB B0 (frozeAll B sh) b = some (.arr true ty xs)) ∧ (b ∉ sh → updB B0 (frozeAll B sh) b = B0 b)
  | [], B0 => ⟨fun h => by simp at h, fun _ => rfl⟩
  | c :: r, B0 => by
    simp only [frozeAll, updB_append]
    have ih := frozeAll_get (B := B) (b := b) (sh := r) (B0 := updB B0 (froze B (some c)))
    constructor
    · intro h ro ty xs hx
      by_cases hr : b ∈ r
      · exact ih.1 hr ro ty xs hx
      · rw [ih.2 hr]
        have hc : b = c := by simpa [hr] using h
        exact froze_put.1 hc ro ty xs hx
    · intro h
      simp only [List.mem_cons, not_or] at h
      rw [ih.2 h.2]
      exact froze_put.2 h.1

section
variable {P : Program} {E : Env} {w : World} {Pr : Addr → Prop} {B : Nat → Option BX} {β : Nat → Option Nat} {T : Nat → Option CV} {ρ : Operand → Value}

theorem lit_box (hM : Mem w Pr B β) {S : List Nat} {b : Nat} {ro : Bool} {ty : Ty} {xs : List ty.den} (hb : B b = some (.arr ro ty xs)) (hS : ro = false → b ∈ S) : BXR w (Lit Pr B β S) B β b (.arr true ty xs) := by
  have h := hM.box b _ hb
  simp only [BXR] at h ⊢
  cases hg : β b with
  | none => rw [hg] at h; exact h
  | some g =>
    rw [hg] at h
    obtain ⟨vs, T, hh, ha, h0, h1⟩ := h
    refine ⟨vs, T, hh, fun i x hx => ?_, fun e => by (cases e), fun _ off ho => ?_⟩
    · obtain ⟨es, he, hv⟩ := ha i x hx
      exact ⟨es, EncE_mono (fun _ _ _ h => h) (fun _ h => .inl h) _ _ _ he, hv⟩
    · cases ro with
      | true => exact .inl (h1 rfl off ho)
      | false => exact .inr ⟨b, hS rfl, ty, xs, g, off, hb, hg, ho, rfl⟩

theorem CellR.lit {S : List Nat} {c : Cell} {y : Value} (h : CellR w Pr B β c y) : CellR w (Lit Pr B β S) B β c y :=
  CellR.ext (fun _ _ _ h => h) (fun _ h => .inl h) (Shape.refl w) (Ext.refl B β) h

theorem argCell_sound (hM : Mem w Pr B β) {S : List Nat} {io : Bool} {t : TypeId} {c c' : Cell} {sh : List Nat} {y : Value} (h : argCell E B io t c = some (c', sh)) (hS : ∀ b ∈ sh, b ∈ S) (hc : CellR w Pr B β c y) :
    CellR w (Lit Pr B β S) B β c' y ∧ ∀ b ∈ sh, ∃ ty xs, B b = some (.arr false ty xs) := by
  unfold argCell at h
  split at h
  · split at h
    · rename_i ty _
      obtain ⟨rfl, rfl⟩ := Prod.mk.inj (Option.some.inj h)
      obtain ⟨rfl, _⟩ := hc
      exact ⟨⟨none, 0, 0, rfl, RowV.nil ty⟩, by simp⟩
    · cases h
  · rename_i b
    split at h
    · rename_i ro ty xs hb
      cases io with
      | true =>
        obtain ⟨rfl, rfl⟩ := Prod.mk.inj (Option.some.inj h)
        exact ⟨hc.lit, by simp⟩
      | false =>
        obtain ⟨rfl, rfl⟩ := Prod.mk.inj (Option.some.inj h)
        obtain ⟨_, bx, hb', ho⟩ := hc
        rw [hb] at hb'
        obtain rfl := Option.some.inj hb'
        constructor
        · exact own_row (lit_box hM hb fun e => hS b (by rw [e]; simp)) (ho _ _ _ rfl)
        · intro d hd
          cases ro with
          | true => simp at hd
          | false =>
            simp only [cond_false, List.mem_singleton] at hd
            subst hd; exact ⟨ty, xs, hb⟩
    · cases h
  · rename_i b off n
    split at h
    · rename_i ro ty xs hb
      obtain ⟨rfl, rfl⟩ := Prod.mk.inj (Option.some.inj h)
      obtain ⟨A, c, rfl, hn, bx, hb', ho⟩ := hc
      rw [hb] at hb'
      obtain rfl := Option.some.inj hb'
      have hv := ho _ _ _ rfl
      constructor
      · exact ⟨A, n, c, rfl, view_row (lit_box hM hb fun e => hS b (by rw [e]; simp)) hn hv⟩
      · intro d hd
        cases ro with
        | true => simp at hd
        | false =>
          simp only [cond_false, List.mem_singleton] at hd
          subst hd; exact ⟨ty, xs, hb⟩
    · cases h
  · obtain ⟨rfl, rfl⟩ := Prod.mk.inj (Option.some.inj h)
    exact ⟨hc.lit, by simp⟩

theorem argCells_sound (hM : Mem w Pr B β) {S : List Nat} {io : Bool} : ∀ {cs cs' : List Cell} {sh : List Nat} {ys : List Value}, argCells E B io cs = some (cs', sh) → (∀ b ∈ sh, b ∈ S) → All2 (CellR w Pr B β) cs ys →
    All2 (CellR w (Lit Pr B β S) B β) cs' ys ∧ ∀ b ∈ sh, ∃ ty xs, B b = some (.arr false ty xs)
  | [], _, _, _, h, _, .nil => by cases h; exact ⟨.nil, by simp⟩
  | c :: r, cs', sh, _, h, hS, .cons hc ht => by
    simp only [argCells, Option.bind_eq_some_iff, Option.map_eq_some_iff] at h
    obtain ⟨p, hp, q, hq, h⟩ := h
    obtain ⟨rfl, rfl⟩ := Prod.mk.inj h
    obtain ⟨h1, h2⟩ := argCell_sound hM hp (fun b hb => hS b (by simp [hb])) hc
    obtain ⟨h3, h4⟩ := argCells_sound hM hq (fun b hb => hS b (by simp [hb])) ht
    refine ⟨.cons h1 h3, fun b hb => ?_⟩
    rcases List.mem_append.1 hb with hb | hb
    · exact h2 b hb
    · exact h4 b hb

theorem argV_sound (hM : Mem w Pr B β) {S : List Nat} {io : Bool} {t : TypeId} {v : CV} {x : SV} {sh : List Nat} {y : Value} (h : argV E B io t v = some (x, sh)) (hS : ∀ b ∈ sh, b ∈ S) (hc : CVR w Pr B β v y) :
    SVR w (Lit Pr B β S) B β x y ∧ ∀ b ∈ sh, ∃ ty xs, B b = some (.arr false ty xs) := by
  unfold argV at h
  split at h
  · simp only [Option.map_eq_some_iff] at h
    obtain ⟨p, hp, h⟩ := h
    obtain ⟨rfl, rfl⟩ := Prod.mk.inj h
    exact argCell_sound hM hp hS hc
  · simp only [Option.map_eq_some_iff] at h
    obtain ⟨p, hp, h⟩ := h
    obtain ⟨rfl, rfl⟩ := Prod.mk.inj h
    obtain ⟨vs, e, hc⟩ := hc
    obtain ⟨h1, h2⟩ := argCells_sound hM hp hS hc
    exact ⟨⟨vs, e, h1⟩, h2⟩
  · cases h

theorem argVs_sound (C : Ctx P E w Pr B β T ρ) {S : List Nat} {f : FuncId} : ∀ {args : List (Operand × TypeId)} {i : Nat} {vs : List SV} {sh : List Nat}, argVs E T B f i args = some (vs, sh) → (∀ b ∈ sh, b ∈ S) →
    All2 (SVR w (Lit Pr B β S) B β) vs (args.map fun x => ρ x.1) ∧ ∀ b ∈ sh, ∃ ty xs, B b = some (.arr false ty xs)
  | [], _, _, _, h, _ => by cases h; exact ⟨.nil, by simp⟩
  | x :: r, i, vs, sh, h, hS => by
    simp only [argVs, Option.bind_eq_some_iff, Option.map_eq_some_iff] at h
    obtain ⟨v, hv, p, hp, q, hq, h⟩ := h
    obtain ⟨rfl, rfl⟩ := Prod.mk.inj h
    obtain ⟨h1, h2⟩ := argV_sound C.mem hp (fun b hb => hS b (by simp [hb])) (opv_sound C hv)
    obtain ⟨h3, h4⟩ := argVs_sound C hq (fun b hb => hS b (by simp [hb]))
    refine ⟨.cons h1 h3, fun b hb => ?_⟩
    rcases List.mem_append.1 hb with hb | hb
    · exact h2 b hb
    · exact h4 b hb

theorem lends_out {roots : List Nat} {p : List Nat × List BX} (h : lends B roots = some p) : p.1.Nodup ∧ boxesAt B p.1 p.1 = some p.2 ∧ ∀ b ∈ roots, b ∈ p.1 := by
  unfold lends at h
  cases hh : hasAll (reach B 400 roots []) roots with
  | false => simp only [hh, cond_false] at h; cases h
  | true =>
    simp only [hh, cond_true, Option.map_eq_some_iff] at h
    obtain ⟨bs, h1, rfl⟩ := h
    exact ⟨reach_nodup B _ _ _ List.nodup_nil, h1, (hasAll_iff _ _).1 hh⟩

theorem caps_all {Pr' : Addr → Prop} {caps : List Nat} {ys : List Value} (h : All2 (fun b v => PtrR B β b 0 v) caps ys) : All2 (SVR w Pr' B β) (caps.map fun b => SV.c (.ptr b 0)) ys := by
  induction h with
  | nil => exact .nil
  | cons x t ih => exact .cons x ih

theorem CVR.one {Pr' : Addr → Prop} {vs : List SV} {ys : List Value} (h : All2 (SVR w Pr' B β) vs ys) : CVR w Pr' B β (oneOf vs) (oneV ys) := by
  cases h with
  | nil => exact ⟨[], rfl, .nil⟩
  | cons x t =>
    cases t with
    | nil => exact x
    | cons y t => exact ⟨_, rfl, .cons x (.cons y t)⟩

theorem callC_sound (C : Ctx P E w Pr B β T ρ) {k : Nat} {f : FuncId} (hful : Fulfils P f (E.call f)) {caps : List Nat} {args : List (Operand × TypeId)} {e : Eff} {ys : List Value} (h : (callC E T B k f caps args).opt = some e)
    (hf : FreshB (updB B e.upd) e.new) (hcaps : All2 (fun b v => PtrR B β b 0 v) caps ys) :
    (∃ fn, P.funcs[f]? = some fn ∧ fn.body.isNone = false ∧ (fn.name == "runtime.NumGoroutine") = false) ∧
    Calls P f ((args.map fun x => ρ x.1) ++ ys).toArray w fun x w' => ∃ v Pr' β', x = .returned v ∧ Step w Pr B β w' Pr' (updB (updB B e.upd) e.new) β' ∧ CVR w' Pr' (updB (updB B e.upd) e.new) β' e.val v := by
  unfold callC at h
  replace h := bind_ofO h
  obtain ⟨⟨vs, sh⟩, ha, h⟩ := h
  obtain ⟨hvs, hsh⟩ := argVs_sound C ha (fun b hb => hb)
  dsimp only at h
  replace h := bind_ofO h
  obtain ⟨⟨l, bs⟩, hl, h⟩ := h
  obtain ⟨hnd, hbs, hroots⟩ := lends_out hl
  dsimp only at h hnd hbs hroots
  cases hany : sh.any fun b => has l b with
  | true => rw [hany] at h; cases h
  | false =>
  rw [hany] at h
  simp only [cond_false] at h
  replace h := bind_m h
  obtain ⟨⟨vs', bs'⟩, hcall, h⟩ := h
  obtain ⟨hfn, hcalls⟩ := hful _ _ _ _ hcall
  refine ⟨hfn, ?_⟩
  have hshl : ∀ b ∈ sh, b ∉ l := by
    intro b hb hm
    have := List.any_eq_false.1 hany b hb
    exact this ((has_iff l b).2 hm)
  obtain ⟨hM1, hmove1⟩ := lend_sound C.mem hnd hbs hshl
  have hargs : All2 (SVR w (Lit Pr B β sh) (bs[·]?) (lentβ l β)) (renSVs (place l) (vs ++ caps.map fun b => SV.c (.ptr b 0))) ((args.map fun x => ρ x.1) ++ ys) :=
    SVsR.move hmove1 (.inl fun _ h => h) hroots (hvs.append (caps_all hcaps))
  refine (hcalls w _ _ _ hM1 hargs).mono ?_
  rintro x w' ⟨ys', Pr1', β1', rfl, hst, hres⟩
  obtain rfl := Option.some.inj h
  clear h hcalls hful hargs hcall
  dsimp only at hf ⊢
  obtain ⟨hlen, hget⟩ := boxesAt_get hbs
  have hn : l.length ≤ bs'.length := by
    cases hz : l.length with
    | zero => omega
    | succ n =>
      obtain ⟨y, h1, h2, _⟩ := hget n l[n] (List.getElem?_eq_getElem (by omega))
      obtain ⟨x', h3, _⟩ := hst.since.ext n _ h2
      have := (List.getElem?_eq_some_iff.1 h3).1
      omega
  have hlive : ∀ b ∈ l, ∃ y, B b = some y := fun b hb => by
    obtain ⟨y, h1, _⟩ := hget _ b (place_get hb)
    exact ⟨y, h1⟩
  have hgold : ∀ i b, l[i]? = some b → backName l l.length k i = b := fun i b hi => by simp [backName, hi]
  have hgnew : ∀ i, l.length ≤ i → backName l l.length k i = k + (i - l.length) := fun i hi => by simp [backName, List.getElem?_eq_none hi]
  have hfree : ∀ j, j < bs'.length - l.length → B (k + j) = none := fun j hj => updB_none (newOf_fresh hf (by simpa using hj))
  have hkl : ∀ b ∈ l, b < k ∨ k + (bs'.length - l.length) ≤ b := by
    intro b hb
    obtain ⟨y, hy⟩ := hlive b hb
    by_cases h1 : b < k
    · exact .inl h1
    · by_cases h2 : k + (bs'.length - l.length) ≤ b
      · exact .inr h2
      · have := hfree (b - k) (by omega)
        rw [show k + (b - k) = b from by omega, hy] at this; cases this
  generalize hfr : (vs'.any SV.shows || bs'.any BX.shows) = fr at hf ⊢
  have hout : ∀ b, (∀ i x, bs'[i]? = some x → backName l l.length k i ≠ b) → b ∉ l ∧ (b < k ∨ k + (bs'.length - l.length) ≤ b) := by
    intro b hb
    constructor
    · intro hm
      have h1 : place l b < bs'.length := Nat.lt_of_lt_of_le (List.getElem?_eq_some_iff.1 (place_get hm)).1 hn
      exact hb _ _ (List.getElem?_eq_getElem h1) (hgold _ _ (place_get hm))
    · by_cases h1 : b < k
      · exact .inl h1
      · by_cases h2 : k + (bs'.length - l.length) ≤ b
        · exact .inr h2
        · refine absurd ?_ (hb (l.length + (b - k)) _ (List.getElem?_eq_getElem (by omega)))
          rw [hgnew _ (by omega)]; omega
  have hupd : ∀ b, (∀ i x, bs'[i]? = some x → backName l l.length k i ≠ b) →
      updB (updB B ((bif fr then frozeAll B sh else []) ++ updOf (backName l l.length k) l bs')) (newOf (backName l l.length k) k (bs'.drop l.length)) b = updB B (bif fr then frozeAll B sh else []) b := by
    intro b hb
    obtain ⟨h1, h2⟩ := hout b hb
    rw [newOf_out (by simpa using h2), updB_append, updOf_out h1]
  obtain ⟨hstep, hmove⟩ := back_sound (g := backName l l.length k) (fr := fr)
    (B' := updB (updB B ((bif fr then frozeAll B sh else []) ++ updOf (backName l l.length k) l bs')) (newOf (backName l l.length k) k (bs'.drop l.length)))
    (β' := fun b => if b ∈ l then β1' (place l b) else if k ≤ b ∧ b < k + (bs'.length - l.length) then β1' (l.length + (b - k)) else β b)
    C.mem hnd hbs hshl hst hgold
    (by
      intro i x hi hil
      have := (List.getElem?_eq_some_iff.1 hi).1
      rw [hgnew i hil]
      exact hfree _ (by omega))
    (by
      intro i j x y hi hj e
      have hi' := (List.getElem?_eq_some_iff.1 hi).1
      have hj' := (List.getElem?_eq_some_iff.1 hj).1
      by_cases h1 : i < l.length <;> by_cases h2 : j < l.length
      · rw [hgold i _ (List.getElem?_eq_getElem h1), hgold j _ (List.getElem?_eq_getElem h2)] at e
        rw [← get_place hnd (List.getElem?_eq_getElem h1), ← get_place hnd (List.getElem?_eq_getElem h2), e]
      · rw [hgold i _ (List.getElem?_eq_getElem h1), hgnew j (by omega)] at e
        have := hkl _ (List.getElem_mem h1)
        omega
      · rw [hgold j _ (List.getElem?_eq_getElem h2), hgnew i (by omega)] at e
        have := hkl _ (List.getElem_mem h2)
        omega
      · rw [hgnew i (by omega), hgnew j (by omega)] at e
        omega)
    (by
      intro i x hi
      have hi' := (List.getElem?_eq_some_iff.1 hi).1
      by_cases h1 : i < l.length
      · rw [hgold i _ (List.getElem?_eq_getElem h1)]
        rw [newOf_out (by have := hkl _ (List.getElem_mem h1); simpa using this), updB_append]
        exact updOf_in hnd (List.getElem?_eq_getElem h1) hi
      · rw [hgnew i (by omega)]
        exact newOf_in (by rw [List.getElem?_drop, show l.length + (i - l.length) = i from by omega]; exact hi))
    (by
      intro b hb
      rw [hupd b hb]
      cases fr with
      | false => exact .inl rfl
      | true =>
        by_cases hbs' : b ∈ sh
        · obtain ⟨ty, xs, h1⟩ := hsh b hbs'
          exact .inr ⟨rfl, hbs', ty, xs, h1, frozeAll_get.1 hbs' _ _ _ h1⟩
        · exact .inl (frozeAll_get.2 hbs'))
    (by
      rintro rfl b hbs' ty xs h1
      have hb : ∀ i x, bs'[i]? = some x → backName l l.length k i ≠ b := by
        intro i x hi e
        have hi' := (List.getElem?_eq_some_iff.1 hi).1
        by_cases h2 : i < l.length
        · rw [hgold i _ (List.getElem?_eq_getElem h2)] at e
          exact hshl b hbs' (e ▸ List.getElem_mem h2)
        · rw [hgnew i (by omega)] at e
          have := hfree (i - l.length) (by omega)
          rw [e, h1] at this; cases this
      rw [hupd b hb]
      exact frozeAll_get.1 hbs' _ _ _ h1)
    (by
      rintro rfl i x hi
      simp only [Bool.or_eq_false_iff] at hfr
      have := List.any_eq_false.1 hfr.2 x (List.mem_of_getElem? hi)
      simpa using this)
    (by
      intro i x hi
      have hi' := (List.getElem?_eq_some_iff.1 hi).1
      by_cases h1 : i < l.length
      · rw [hgold i _ (List.getElem?_eq_getElem h1)]
        rw [if_pos (List.getElem_mem h1), get_place hnd (List.getElem?_eq_getElem h1)]
      · rw [hgnew i (by omega)]
        have hnm : k + (i - l.length) ∉ l := by
          intro hm
          have := hkl _ hm
          omega
        rw [if_neg hnm, if_pos (by omega), show l.length + (k + (i - l.length) - k) = i from by omega])
    (by
      intro b hb
      obtain ⟨h1, h2⟩ := hout b hb
      rw [if_neg h1, if_neg (by omega)])
  refine ⟨oneV ys', _, _, rfl, hstep, CVR.one (SVsR.move hmove ?_ (fun _ _ => trivial) hres)⟩
  cases fr with
  | true => exact .inl fun a ha => ⟨ha, .inl rfl⟩
  | false =>
    simp only [Bool.or_eq_false_iff] at hfr
    exact .inr hfr.1
end
end Go.Proofs.YtfgkcnoiplojkaaDoor.VI
