/- The value interpreter: boxes under other names, and lent ones. -/
import Derived.Test.YtfgkcnoiplojkaaDoorVp
namespace Go.Proofs.YtfgkcnoiplojkaaDoor.VI
open Go

/-- Where the boxes D stand under other names. -/
def MovedOn (D : Nat → Prop) (f : Nat → Nat) (B : Nat → Option BX) (β : Nat → Option Nat) (B' : Nat → Option BX) (β' : Nat → Option Nat) : Prop :=
  ∀ b, D b → ∀ bx, B b = some bx → ∃ bx', B' (f b) = some bx' ∧ Compat bx bx' ∧ (bx' ≠ .gone → β' (f b) = β b)

theorem mem_leadsAll {c : Cell} {b : Nat} : ∀ {cs : List Cell}, c ∈ cs → b ∈ c.leads → b ∈ leadsAll cs
  | x :: r, h, hb => by
    simp only [leadsAll, List.mem_append]
    rcases List.mem_cons.1 h with rfl | h
    · exact .inl hb
    · exact .inr (mem_leadsAll h hb)

theorem renAll_map (f : Nat → Nat) : ∀ cs : List Cell, renAll f cs = cs.map (Cell.ren f)
  | [] => rfl
  | c :: r => by simp [renAll, renAll_map f r]

theorem renSVs_map (f : Nat → Nat) : ∀ cs : List SV, renSVs f cs = cs.map (SV.ren f)
  | [] => rfl
  | c :: r => by simp [renSVs, renSVs_map f r]

section
variable {w w' : World} {Pr Pr' : Addr → Prop} {B B' : Nat → Option BX} {β β' : Nat → Option Nat} {D : Nat → Prop} {f : Nat → Nat}

theorem PtrR.move (hm : MovedOn D f B β B' β') {b off : Nat} {y : Value} (hl : D b) (h : PtrR B β b off y) : PtrR B' β' (f b) off y := by
  obtain ⟨g, bx, e, hb, hg⟩ := h
  obtain ⟨bx', hb', hc, hβ⟩ := hm b hl bx hb
  exact ⟨g, bx', e, hb', fun hn => (hβ hn).trans (hg (hc.live hn))⟩

theorem CellR.move (hm : MovedOn D f B β B' β') {c : Cell} {y : Value} (hp : (∀ a, Pr a → Pr' a) ∨ c.shows = false) (hl : ∀ b ∈ c.leads, D b) (h : CellR w Pr B β c y) : CellR w Pr' B' β' (c.ren f) y := by
  cases c with
  | v x => exact h
  | row ty xs =>
    obtain ⟨A, n, c, e, hr⟩ := h
    rcases hp with hp | hp
    · exact ⟨A, n, c, e, RowV_mono (fun _ _ _ h => h) hp hr⟩
    · cases hp
  | own b =>
    obtain ⟨hy, bx, hb, ho⟩ := h
    obtain ⟨bx', hb', hc, hβ⟩ := hm b (hl b (by simp [Cell.leads])) bx hb
    refine ⟨hy, bx', hb', ?_⟩
    rintro ro ty xs rfl
    rw [hβ (by simp)]
    cases bx with
    | cells cs => exact hc.elim
    | gone => exact hc.elim
    | arr ro0 ty0 xs0 =>
      obtain ⟨rfl, hl, _⟩ := hc
      rw [← hl]
      exact ho _ _ _ rfl
  | view b off n =>
    obtain ⟨A, c, e, hn, bx, hb, ho⟩ := h
    obtain ⟨bx', hb', hc, hβ⟩ := hm b (hl b (by simp [Cell.leads])) bx hb
    refine ⟨A, c, e, hn, bx', hb', ?_⟩
    rintro ro ty xs rfl
    rw [hβ (by simp)]
    cases bx with
    | cells cs => exact hc.elim
    | gone => exact hc.elim
    | arr ro0 ty0 xs0 =>
      obtain ⟨rfl, hl, _⟩ := hc
      rw [← hl]
      exact ho _ _ _ rfl
  | ptr b off => exact PtrR.move hm (hl b (by simp [Cell.leads])) h
  | fn g caps =>
    obtain ⟨vs, e, h⟩ := h
    refine ⟨vs, e, ?_⟩
    have hl' : ∀ b ∈ caps, D b := hl
    clear hl e hp
    induction h with
    | nil => exact .nil
    | cons x t ih => exact .cons (PtrR.move hm (hl' _ (by simp)) x) (ih fun b hb => hl' b (by simp [hb]))

theorem CellsR.move (hm : MovedOn D f B β B' β') {cs : List Cell} {ys : List Value} (hp : (∀ a, Pr a → Pr' a) ∨ cs.any Cell.shows = false) (hl : ∀ b ∈ leadsAll cs, D b) (h : All2 (CellR w Pr B β) cs ys) : All2 (CellR w Pr' B' β') (renAll f cs) ys := by
  induction h with
  | nil => exact .nil
  | cons x t ih =>
    refine .cons (CellR.move hm (hp.imp id fun h => ?_) (fun b hb => hl b (by simp [leadsAll, hb])) x) (ih (hp.imp id fun h => ?_) fun b hb => hl b (by simp [leadsAll, hb]))
    · simp only [List.any_cons, Bool.or_eq_false_iff] at h; exact h.1
    · simp only [List.any_cons, Bool.or_eq_false_iff] at h; exact h.2

theorem SVR.move (hm : MovedOn D f B β B' β') {x : SV} {y : Value} (hp : (∀ a, Pr a → Pr' a) ∨ x.shows = false) (hl : ∀ b ∈ x.leads, D b) (h : SVR w Pr B β x y) : SVR w Pr' B' β' (x.ren f) y := by
  cases x with
  | c x => exact CellR.move hm hp hl h
  | agg cs => obtain ⟨vs, e, h⟩ := h; exact ⟨vs, e, CellsR.move hm hp hl h⟩

theorem SVsR.move (hm : MovedOn D f B β B' β') {cs : List SV} {ys : List Value} (hp : (∀ a, Pr a → Pr' a) ∨ cs.any SV.shows = false) (hl : ∀ b ∈ leadsSVs cs, D b) (h : All2 (SVR w Pr B β) cs ys) : All2 (SVR w Pr' B' β') (renSVs f cs) ys := by
  induction h with
  | nil => exact .nil
  | cons x t ih =>
    refine .cons (SVR.move hm (hp.imp id fun h => ?_) (fun b hb => hl b (by simp [leadsSVs, hb])) x) (ih (hp.imp id fun h => ?_) fun b hb => hl b (by simp [leadsSVs, hb]))
    · simp only [List.any_cons, Bool.or_eq_false_iff] at h; exact h.1
    · simp only [List.any_cons, Bool.or_eq_false_iff] at h; exact h.2

theorem CVR.move (hm : MovedOn D f B β B' β') {x : CV} {y : Value} (hp : ∀ a, Pr a → Pr' a) (hl : ∀ b ∈ x.leads, D b) (h : CVR w Pr B β x y) : CVR w Pr' B' β' (x.ren f) y := by
  cases x with
  | s x => exact SVR.move hm (.inl hp) hl h
  | tup vs => obtain ⟨ys, e, h⟩ := h; exact ⟨ys, e, SVsR.move hm (.inl hp) hl h⟩
  | eptr cs off =>
    obtain ⟨a, e, h⟩ := h
    refine ⟨a, e, fun j c hj => ?_⟩
    rw [renAll_map, List.getElem?_map] at hj
    cases hq : cs[off + j]? with
    | none => rw [hq] at hj; cases hj
    | some c0 =>
      rw [hq] at hj
      obtain rfl := Option.some.inj hj
      obtain ⟨v, hv, hc, hpr⟩ := h j c0 hq
      exact ⟨v, CellR.move hm (.inl hp) (fun b hb => hl b (mem_leadsAll (List.mem_of_getElem? hq) hb)) hv, hc, hp _ hpr⟩
  | aptr b i off =>
    obtain ⟨g, bx, e, hb, ho⟩ := h
    obtain ⟨bx', hb', hc, hβ⟩ := hm b (hl b (by simp [CV.leads])) bx hb
    refine ⟨g, bx', e, hb', ?_⟩
    rintro ro ty xs rfl
    rw [hβ (by simp)]
    cases bx with
    | cells cs => exact hc.elim
    | gone => exact hc.elim
    | arr ro0 ty0 xs0 =>
      obtain ⟨rfl, hl, _⟩ := hc
      exact ho _ _ _ rfl
  | und => exact h

theorem ren_live {x : BX} {f : Nat → Nat} : x.ren f ≠ .gone ↔ x ≠ .gone := by cases x <;> simp [BX.ren]

theorem compat_ren {x : BX} (f : Nat → Nat) : Compat x (x.ren f) := by
  cases x with
  | cells cs => simp [BX.ren, Compat, renAll_map]
  | arr ro ty xs => exact Compat.refl _
  | gone => trivial

theorem compat_ren_of {x y : BX} {f : Nat → Nat} (g : Nat → Nat) (h : Compat (x.ren f) y) : Compat x (y.ren g) :=
  ((compat_ren f).trans h).trans (compat_ren g)

theorem BXR.move (hm : MovedOn D f B β B' β') {b b' : Nat} {bx : BX} (hβ : bx ≠ .gone → β' b' = β b) (hp : (∀ a, Pr a → Pr' a) ∨ bx.shows = false) (hl : ∀ c ∈ bx.leads, D c)
    (hq : ∀ g, β b = some g → bx ≠ .gone → ∀ a, a.block = g → (Pr' a ↔ Pr a)) (h : BXR w Pr B β b bx) : BXR w Pr' B' β' b' (bx.ren f) := by
  cases bx with
  | gone => trivial
  | cells cs =>
    obtain ⟨g, vs, T, hg, hh, hc, hpr⟩ := h
    exact ⟨g, vs, T, (hβ (by simp)).trans hg, hh, CellsR.move hm hp hl hc, fun a ha e => hpr a ((hq g hg (by simp) a e).1 ha) e⟩
  | arr ro ty xs =>
    simp only [BX.ren, BXR] at h ⊢
    rw [hβ (by simp)]
    cases hg : β b with
    | none => rw [hg] at h; exact h
    | some g =>
      rw [hg] at h
      obtain ⟨vs, T, hh, ha, hr0, hr1⟩ := h
      refine ⟨vs, T, hh, fun i x hx => ?_, fun e a h1 h2 => hr0 e a ((hq g hg (by simp) a h2).1 h1) h2, fun e off ho => (hq g hg (by simp) _ rfl).2 (hr1 e off ho)⟩
      obtain ⟨es, he, hv⟩ := ha i x hx
      refine ⟨es, ?_, hv⟩
      rcases hp with hp | hp
      · exact EncE_mono (fun _ _ _ h => h) hp _ _ _ he
      · exact EncE_free _ hp _ _ he

theorem live_lt (hM : Mem w Pr B β) {b g : Nat} {bx : BX} (hb : B b = some bx) (hl : bx ≠ .gone) (hg : β b = some g) : g < w.heap.size := by
  have h := hM.box b bx hb
  cases bx with
  | gone => exact absurd rfl hl
  | cells cs => obtain ⟨g', vs, T, hg', hh, _⟩ := h; rw [hg] at hg'; cases hg'; exact heap_some_lt hh
  | arr ro ty xs =>
    simp only [BXR, hg] at h
    obtain ⟨vs, T, hh, _⟩ := h
    exact heap_some_lt hh
end

theorem has_false (l : List Nat) (i : Nat) : has l i = false ↔ i ∉ l := by rw [← Bool.not_eq_true, has_iff]

theorem hasAll_iff (m : List Nat) : ∀ l : List Nat, hasAll m l = true ↔ ∀ b ∈ l, b ∈ m
  | [] => by simp [hasAll]
  | b :: r => by simp [hasAll, hasAll_iff m r, has_iff]

theorem reach_nodup (B : Nat → Option BX) : ∀ (n : Nat) (l acc : List Nat), acc.Nodup → (reach B n l acc).Nodup
  | 0, _, _, h => h
  | _ + 1, [], _, h => h
  | n + 1, b :: r, acc, h => by
    unfold reach
    cases hb : has acc b with
    | true => exact reach_nodup B n r acc h
    | false =>
      have h' : (acc ++ [b]).Nodup := by
        rw [List.nodup_append]
        refine ⟨h, by simp, ?_⟩
        intro x hx y hy
        simp only [List.mem_singleton] at hy
        subst hy
        rintro rfl
        exact (has_false acc x).1 hb hx
      simp only [cond_false]
      split
      · exact reach_nodup B n _ _ h'
      · exact reach_nodup B n _ _ h'

theorem place_get : ∀ {l : List Nat} {b : Nat}, b ∈ l → l[place l b]? = some b
  | j :: r, b, h => by
    by_cases e : b = j
    · subst e; simp [place, Nat.beq_refl]
    · have hr : b ∈ r := by simpa [e] using h
      simp only [place, nbeq_ne e, cond_false, List.getElem?_cons_succ]
      exact place_get hr

theorem get_place : ∀ {l : List Nat} {i b : Nat}, l.Nodup → l[i]? = some b → place l b = i
  | [], i, b, _, h => by simp at h
  | j :: r, 0, b, hn, h => by
    simp only [List.getElem?_cons_zero, Option.some.injEq] at h
    subst h; simp [place, Nat.beq_refl]
  | j :: r, i + 1, b, hn, h => by
    simp only [List.getElem?_cons_succ] at h
    obtain ⟨h1, h2⟩ := List.nodup_cons.1 hn
    have e : b ≠ j := by rintro rfl; exact h1 (List.mem_of_getElem? h)
    simp only [place, nbeq_ne e, cond_false]
    rw [get_place h2 h]

theorem boxesAt_get {B : Nat → Option BX} {m : List Nat} : ∀ {l : List Nat} {bs : List BX}, boxesAt B m l = some bs →
    bs.length = l.length ∧ ∀ (i b : Nat), l[i]? = some b → ∃ x, B b = some x ∧ bs[i]? = some (x.ren (place m)) ∧ ∀ c ∈ x.leads, c ∈ m
  | [], bs, h => by cases h; exact ⟨rfl, fun i b h => by simp at h⟩
  | j :: r, bs, h => by
    unfold boxesAt at h
    split at h
    · rename_i x hx
      cases hh : hasAll m x.leads with
      | false => rw [hh] at h; cases h
      | true =>
        rw [hh] at h
        simp only [cond_true, Option.map_eq_some_iff] at h
        obtain ⟨q, hq, rfl⟩ := h
        obtain ⟨h1, h2⟩ := boxesAt_get hq
        refine ⟨by simp [h1], fun i b hb => ?_⟩
        cases i with
        | zero =>
          simp only [List.getElem?_cons_zero, Option.some.injEq] at hb
          subst hb
          exact ⟨x, hx, by simp, (hasAll_iff m _).1 hh⟩
        | succ i =>
          obtain ⟨y, h3, h4, h5⟩ := h2 i b (by simpa using hb)
          exact ⟨y, h3, by simpa using h4, h5⟩
    · cases h

/-- What stays the same while these boxes are shown. -/
def Lit (Pr : Addr → Prop) (B : Nat → Option BX) (β : Nat → Option Nat) (sh : List Nat) (a : Addr) : Prop :=
  Pr a ∨ ∃ b ∈ sh, ∃ ty xs g off, B b = some (.arr false ty xs) ∧ β b = some g ∧ off < xs.length * ty.size ∧ a = ⟨g, off, none⟩

def lentβ (l : List Nat) (β : Nat → Option Nat) (i : Nat) : Option Nat := (l[i]?).bind β

theorem Lit.block {Pr : Addr → Prop} {B : Nat → Option BX} {β : Nat → Option Nat} {sh : List Nat} {a : Addr} (h : Lit Pr B β sh a) : Pr a ∨ ∃ b ∈ sh, ∃ ty xs, B b = some (.arr false ty xs) ∧ β b = some a.block := by
  rcases h with h | ⟨b, hb, ty, xs, g, off, h1, h2, _, rfl⟩
  · exact .inl h
  · exact .inr ⟨b, hb, ty, xs, h1, h2⟩

theorem lend_sound {w : World} {Pr : Addr → Prop} {B : Nat → Option BX} {β : Nat → Option Nat} (hM : Mem w Pr B β) {l : List Nat} (hnd : l.Nodup) {bs : List BX} (hb : boxesAt B l l = some bs) {sh : List Nat} (hsh : ∀ b ∈ sh, b ∉ l) :
    Mem w (Lit Pr B β sh) (bs[·]?) (lentβ l β) ∧ MovedOn (· ∈ l) (place l) B β (bs[·]?) (lentβ l β) := by
  obtain ⟨hlen, hget⟩ := boxesAt_get hb
  have hmove : MovedOn (· ∈ l) (place l) B β (bs[·]?) (lentβ l β) := by
    intro b hbl bx hbx
    obtain ⟨x, h1, h2, h3⟩ := hget _ b (place_get hbl)
    rw [hbx] at h1
    obtain rfl := Option.some.inj h1
    exact ⟨_, h2, compat_ren _, fun _ => by simp [lentβ, place_get hbl]⟩
  have hback : ∀ (i : Nat) (x : BX), bs[i]? = some x → ∃ (b : Nat) (y : BX), l[i]? = some b ∧ B b = some y ∧ x = y.ren (place l) ∧ ∀ c ∈ y.leads, c ∈ l := by
    intro i x hx
    have hi : i < l.length := by rw [← hlen]; exact (List.getElem?_eq_some_iff.1 hx).1
    obtain ⟨y, h1, h2, h3⟩ := hget i l[i] (List.getElem?_eq_getElem hi)
    rw [hx] at h2
    exact ⟨l[i], y, List.getElem?_eq_getElem hi, h1, Option.some.inj h2, h3⟩
  refine ⟨⟨?_, ?_, ?_⟩, hmove⟩
  · intro i x hx
    obtain ⟨b, y, h1, h2, rfl, h3⟩ := hback i x hx
    refine BXR.move (β' := lentβ l β) hmove (b := b) (fun _ => by simp [lentβ, h1]) (.inl fun a ha => .inl ha) h3 ?_ (hM.box b y h2)
    intro g hg hl a ha
    refine ⟨fun h => ?_, .inl⟩
    rcases h.block with h | ⟨c, hc, ty, xs, h4, h5⟩
    · exact h
    · rw [ha] at h5
      obtain rfl := hM.inj c _ b y g h4 (by simp) h2 hl h5 hg
      exact absurd (List.mem_of_getElem? h1) (hsh c hc)
  · intro i x j z g hi hil hj hjl hgi hgj
    obtain ⟨b, y, h1, h2, rfl, h3⟩ := hback i x hi
    obtain ⟨b', y', h1', h2', rfl, h3'⟩ := hback j z hj
    simp only [lentβ, h1, h1', Option.bind_some] at hgi hgj
    obtain rfl := hM.inj b y b' y' g h2 (ren_live.1 hil) h2' (ren_live.1 hjl) hgi hgj
    rw [← get_place hnd h1, get_place hnd h1']
  · intro a ha
    rcases ha.block with h | ⟨c, hc, ty, xs, h4, h5⟩
    · exact hM.lt a h
    · exact live_lt hM h4 (by simp) h5

/-- What stays the same behind the call: what was shown only if it is still shown. -/
def Left (Pr1 : Addr → Prop) (B : Nat → Option BX) (β : Nat → Option Nat) (sh : List Nat) (fr : Bool) (a : Addr) : Prop :=
  Pr1 a ∧ (fr = true ∨ ∀ b ∈ sh, ∀ ty xs, B b = some (.arr false ty xs) → β b ≠ some a.block)

theorem back_sound {w w' : World} {Pr Pr1' : Addr → Prop} {B B1' B' : Nat → Option BX} {β β1' β' : Nat → Option Nat} (hM : Mem w Pr B β) {l : List Nat} (hnd : l.Nodup) {bs : List BX} (hb : boxesAt B l l = some bs) {sh : List Nat} (hsh : ∀ b ∈ sh, b ∉ l)
    (hst : Step w (Lit Pr B β sh) (bs[·]?) (lentβ l β) w' Pr1' B1' β1') {g : Nat → Nat} {fr : Bool}
    (hold : ∀ i b, l[i]? = some b → g i = b)
    (hnew : ∀ i x, B1' i = some x → l.length ≤ i → B (g i) = none)
    (hinj : ∀ i j x y, B1' i = some x → B1' j = some y → g i = g j → i = j)
    (hB1 : ∀ i x, B1' i = some x → B' (g i) = some (x.ren g))
    (hB2 : ∀ b, (∀ i x, B1' i = some x → g i ≠ b) → B' b = B b ∨ (fr = true ∧ b ∈ sh ∧ ∃ ty xs, B b = some (.arr false ty xs) ∧ B' b = some (.arr true ty xs)))
    (hfr : fr = true → ∀ b ∈ sh, ∀ ty xs, B b = some (.arr false ty xs) → B' b = some (.arr true ty xs))
    (hno : fr = false → ∀ i x, B1' i = some x → x.shows = false)
    (hβ1 : ∀ i x, B1' i = some x → β' (g i) = β1' i)
    (hβ2 : ∀ b, (∀ i x, B1' i = some x → g i ≠ b) → β' b = β b) :
    Step w Pr B β w' (Left Pr1' B β sh fr) B' β' ∧ MovedOn (fun _ => True) g B1' β1' B' β' := by
  obtain ⟨hlen, hget⟩ := boxesAt_get hb
  obtain ⟨hS, hM'⟩ := hst
  have hlent : ∀ i b, l[i]? = some b → ∃ y x', B b = some y ∧ B1' i = some x' ∧ Compat (y.ren (place l)) x' ∧ (x' ≠ .gone → β1' i = β b) := by
    intro i b hi
    obtain ⟨y, h1, h2, _⟩ := hget i b hi
    obtain ⟨x', h3, h4, h5⟩ := hS.ext i _ h2
    exact ⟨y, x', h1, h3, h4, fun hn => (h5 hn).trans (by simp [lentβ, hi])⟩
  have hmove : MovedOn (fun _ => True) g B1' β1' B' β' := fun i _ x hx => ⟨_, hB1 i x hx, compat_ren g, fun _ => hβ1 i x hx⟩
  have hcase : ∀ b, (∃ i x, B1' i = some x ∧ g i = b) ∨ ∀ i x, B1' i = some x → g i ≠ b := by
    intro b
    by_cases h : ∃ i x, B1' i = some x ∧ g i = b
    · exact .inl h
    · exact .inr fun i x hx e => h ⟨i, x, hx, e⟩
  have hgrow1 : ∀ a, Pr a → Pr1' a := fun a ha => hS.grows a (.inl ha)
  have hgrow : ∀ a, Pr a → Left Pr1' B β sh fr a := fun a ha => ⟨hgrow1 a ha, .inr fun b _ ty xs hb hg => by
    have := hM.box b _ hb
    simp only [BXR, hg] at this
    obtain ⟨_, _, _, _, hr, _⟩ := this
    exact hr trivial a ha rfl⟩
  have hkeep : Keep Pr w w' := fun a v ha hv => hS.keep a v (.inl ha) hv
  -- boxes of the caller's that were not lent
  have hmine : ∀ b, (∀ i x, B1' i = some x → g i ≠ b) → ∀ bx, B b = some bx → b ∉ l := by
    intro b hb bx hbx hm
    obtain ⟨y, x', _, h3, _⟩ := hlent _ b (place_get hm)
    exact hb _ _ h3 (hold _ _ (place_get hm))
  have hframe : ∀ b, b ∉ l → ∀ bx g', B b = some bx → bx ≠ .gone → β b = some g' → w'.heap[g']? = w.heap[g']? := by
    intro b hbl bx g' hbx hlive hg'
    refine hS.frame g' (live_lt hM hbx hlive hg') ?_
    intro i x hi hl' he
    have hil : i < l.length := by rw [← hlen]; exact (List.getElem?_eq_some_iff.1 hi).1
    obtain ⟨y, h1, h2, _⟩ := hget i l[i] (List.getElem?_eq_getElem hil)
    have hi' : bs[i]? = some x := hi
    rw [h2] at hi'
    obtain rfl := Option.some.inj hi'
    simp only [lentβ, List.getElem?_eq_getElem hil, Option.bind_some] at he
    obtain rfl := hM.inj b bx _ y g' hbx hlive h1 (ren_live.1 hl') hg' he
    exact hbl (List.getElem_mem hil)
  have hext : Ext B β B' β' := by
    intro b bx hbx
    by_cases hm : b ∈ l
    · obtain ⟨y, x', h1, h3, h4, h5⟩ := hlent _ b (place_get hm)
      rw [hbx] at h1
      obtain rfl := Option.some.inj h1
      have hg := hold _ _ (place_get hm)
      have h6 := hB1 _ _ h3
      have h7 := hβ1 _ _ h3
      rw [hg] at h6 h7
      exact ⟨_, h6, compat_ren_of g h4, fun hn => h7.trans (h5 (ren_live.1 hn))⟩
    · have hno' : ∀ i x, B1' i = some x → g i ≠ b := by
        intro i x hi e
        by_cases hil : i < l.length
        · exact hm (by rw [← e, hold i _ (List.getElem?_eq_getElem hil)]; exact List.getElem_mem hil)
        · have := hnew i x hi (by omega)
          rw [e, hbx] at this; cases this
      rcases hB2 b hno' with h | ⟨_, _, ty, xs, h1, h2⟩
      · exact ⟨bx, by rw [h, hbx], Compat.refl bx, fun _ => hβ2 b hno'⟩
      · rw [hbx] at h1
        obtain rfl := Option.some.inj h1
        exact ⟨_, h2, ⟨rfl, rfl, fun h => by cases h⟩, fun _ => hβ2 b hno'⟩
  have hplace1 : ∀ i x g', B1' i = some x → x ≠ .gone → β1' i = some g' → w.heap.size ≤ g' ∨ ∃ c cx, c ∈ l ∧ B c = some cx ∧ cx ≠ .gone ∧ β c = some g' := by
    intro i x g' hi hl hg'
    rcases hS.place i x g' hi hl hg' with h | ⟨j, z, hj, hjl, hjg⟩
    · exact .inl h
    · have hil : j < l.length := by rw [← hlen]; exact (List.getElem?_eq_some_iff.1 hj).1
      obtain ⟨y, h1, h2, _⟩ := hget j l[j] (List.getElem?_eq_getElem hil)
      have hj' : bs[j]? = some z := hj
      rw [h2] at hj'
      obtain rfl := Option.some.inj hj'
      simp only [lentβ, List.getElem?_eq_getElem hil, Option.bind_some] at hjg
      exact .inr ⟨l[j], y, List.getElem_mem hil, h1, ren_live.1 hjl, hjg⟩
  -- a cell of a box that was lent, or is new, is none of what was shown
  have hlit : ∀ i x g', B1' i = some x → x ≠ .gone → β1' i = some g' → ∀ a : Addr, a.block = g' → ∀ b ∈ sh, ∀ ty xs, B b = some (.arr false ty xs) → β b ≠ some a.block := by
    intro i x g' hi hl hg' a ha b hbs ty xs hbx hbg
    rw [ha] at hbg
    rcases hplace1 i x g' hi hl hg' with h | ⟨c, cx, hc, h1, h2, h3⟩
    · have := live_lt hM hbx (by simp) hbg; omega
    · obtain rfl := hM.inj b _ c cx g' hbx (by simp) h1 h2 hbg h3
      exact hsh b hbs hc
  have hnew' : ∀ a, Left Pr1' B β sh fr a → Pr a ∨ w.heap.size ≤ a.block ∨ ∃ b bx, B b = some bx ∧ bx ≠ .gone ∧ β b = some a.block ∧ (b ∈ l ∨ fr = true ∧ b ∈ sh ∧ ∃ ty xs, bx = .arr false ty xs) := by
    rintro a ⟨ha, hor⟩
    rcases hS.new a ha with h | h | ⟨j, z, hj, hjl, hjg⟩
    · rcases h.block with h | ⟨b, hbs, ty, xs, h1, h2⟩
      · exact .inl h
      · rcases hor with hor | hor
        · exact .inr (.inr ⟨b, _, h1, by simp, h2, .inr ⟨hor, hbs, ty, xs, rfl⟩⟩)
        · exact absurd h2 (hor b hbs ty xs h1)
    · exact .inr (.inl h)
    · have hil : j < l.length := by rw [← hlen]; exact (List.getElem?_eq_some_iff.1 hj).1
      obtain ⟨y, h1, h2, _⟩ := hget j l[j] (List.getElem?_eq_getElem hil)
      have hj' : bs[j]? = some z := hj
      rw [h2] at hj'
      obtain rfl := Option.some.inj hj'
      simp only [lentβ, List.getElem?_eq_getElem hil, Option.bind_some] at hjg
      exact .inr (.inr ⟨l[j], y, h1, ren_live.1 hjl, hjg, .inl (List.getElem_mem hil)⟩)
  refine ⟨⟨⟨hkeep, hgrow, ?_, hS.shape, hS.size, ?_, ?_, hext, hS.same⟩, ?_, ?_, ?_⟩, hmove⟩
  · intro a ha
    rcases hnew' a ha with h | h | ⟨b, bx, h1, h2, h3, _⟩
    · exact .inl h
    · exact .inr (.inl h)
    · exact .inr (.inr ⟨b, bx, h1, h2, h3⟩)
  · intro g' hlt hn
    refine hS.frame g' hlt ?_
    intro i x hi hl' he
    have hil : i < l.length := by rw [← hlen]; exact (List.getElem?_eq_some_iff.1 hi).1
    obtain ⟨y, h1, h2, _⟩ := hget i l[i] (List.getElem?_eq_getElem hil)
    have hi' : bs[i]? = some x := hi
    rw [h2] at hi'
    obtain rfl := Option.some.inj hi'
    simp only [lentβ, List.getElem?_eq_getElem hil, Option.bind_some] at he
    exact hn l[i] y h1 (ren_live.1 hl') he
  · intro b bx g' hbx hl hg'
    rcases hcase b with ⟨i, x, hi, rfl⟩ | hn
    · rw [hB1 i x hi] at hbx
      obtain rfl := Option.some.inj hbx
      rw [hβ1 i x hi] at hg'
      rcases hplace1 i x g' hi (ren_live.1 hl) hg' with h | ⟨c, cx, _, h1, h2, h3⟩
      · exact .inl h
      · exact .inr ⟨c, cx, h1, h2, h3⟩
    · rw [hβ2 b hn] at hg'
      rcases hB2 b hn with h | ⟨_, _, ty, xs, h1, h2⟩
      · rw [h] at hbx
        exact .inr ⟨b, bx, hbx, hl, hg'⟩
      · exact .inr ⟨b, _, h1, by simp, hg'⟩
  · intro b bx hbx
    rcases hcase b with ⟨i, x, hi, rfl⟩ | hn
    · rw [hB1 i x hi] at hbx
      obtain rfl := Option.some.inj hbx
      refine BXR.move hmove (b := i) (fun _ => hβ1 i x hi) ?_ (fun _ _ => trivial) ?_ (hM'.box i x hi)
      · cases fr with
        | true => exact .inl fun a ha => ⟨ha, .inl rfl⟩
        | false => exact .inr (hno rfl i x hi)
      · exact fun g' hg' hl a ha => ⟨fun h => h.1, fun h => ⟨h, .inr (hlit i x g' hi hl hg' a ha)⟩⟩
    · rcases hB2 b hn with h | ⟨hf, hbs, ty, xs, h1, h2⟩
      · rw [h] at hbx
        refine BXR.ext hkeep hgrow hS.shape hext (fun _ => hβ2 b hn) ?_ (hM.box b bx hbx)
        intro g' hg' hl
        refine ⟨hframe b (hmine b hn bx hbx) bx g' hbx hl hg', fun a ha e => ?_⟩
        rcases hnew' a ha with h' | h' | ⟨c, cx, h3, h4, h5, h6⟩
        · exact h'
        · have := live_lt hM hbx hl hg'; omega
        · rw [e] at h5
          obtain rfl := hM.inj b bx c cx g' hbx hl h3 h4 hg' h5
          rcases h6 with h6 | ⟨hf, hbs, ty, xs, rfl⟩
          · exact absurd h6 (hmine b hn bx hbx)
          · rw [hbx] at h3
            obtain rfl := Option.some.inj h3
            have := hfr hf b hbs ty xs hbx
            rw [h, hbx] at this
            cases this
      · rw [h2] at hbx
        obtain rfl := Option.some.inj hbx
        have h3 := hM.box b _ h1
        simp only [BXR] at h3 ⊢
        rw [hβ2 b hn]
        cases hg' : β b with
        | none => rw [hg'] at h3; exact h3
        | some g' =>
          rw [hg'] at h3
          obtain ⟨vs, T, hh, ha, hr0, hr1⟩ := h3
          refine ⟨vs, T, by rw [hframe b (hmine b hn _ h1) _ g' h1 (by simp) hg']; exact hh, ?_, (fun e => by cases e), ?_⟩
          · intro i x hx
            obtain ⟨es, he, hv⟩ := ha i x hx
            exact ⟨es, EncE_mono hkeep hgrow _ _ _ he, hv⟩
          · exact fun _ off ho => ⟨hS.grows _ (.inr ⟨b, hbs, ty, xs, g', off, h1, hg', ho, rfl⟩), .inl hf⟩
  · intro b bx c cx g' hbx hbl hcx hcl hgb hgc
    have hkind : ∀ b bx, B' b = some bx → bx ≠ .gone → β' b = some g' → (∃ i x, B1' i = some x ∧ x ≠ .gone ∧ g i = b ∧ β1' i = some g') ∨ ∃ bx', B b = some bx' ∧ bx' ≠ .gone ∧ β b = some g' ∧ b ∉ l := by
      intro b bx hbx hbl hgb
      rcases hcase b with ⟨i, x, hi, rfl⟩ | hn
      · rw [hB1 i x hi] at hbx
        obtain rfl := Option.some.inj hbx
        rw [hβ1 i x hi] at hgb
        exact .inl ⟨i, x, hi, ren_live.1 hbl, rfl, hgb⟩
      · rw [hβ2 b hn] at hgb
        rcases hB2 b hn with h | ⟨_, _, ty, xs, h1, h2⟩
        · rw [h] at hbx
          exact .inr ⟨bx, hbx, hbl, hgb, hmine b hn bx hbx⟩
        · exact .inr ⟨_, h1, by simp, hgb, hmine b hn _ h1⟩
    have hmix : ∀ i x c cx, B1' i = some x → x ≠ .gone → β1' i = some g' → B c = some cx → cx ≠ .gone → β c = some g' → c ∉ l → False := by
      intro i x c cx hi hl hgi hc hcl hgc hcm
      rcases hplace1 i x g' hi hl hgi with h | ⟨d, dx, hd, h1, h2, h3⟩
      · have := live_lt hM hc hcl hgc; omega
      · obtain rfl := hM.inj c cx d dx g' hc hcl h1 h2 hgc h3
        exact hcm hd
    rcases hkind b bx hbx hbl hgb with ⟨i, x, hi, hil, rfl, hgi⟩ | ⟨bx', h1, h2, h3, h4⟩ <;> rcases hkind c cx hcx hcl hgc with ⟨j, z, hj, hjl, rfl, hgj⟩ | ⟨cx', h5, h6, h7, h8⟩
    · obtain rfl := hM'.inj i x j z g' hi hil hj hjl hgi hgj
      rfl
    · exact (hmix i x c cx' hi hil hgi h5 h6 h7 h8).elim
    · exact (hmix j z b bx' hj hjl hgj h1 h2 h3 h4).elim
    · exact hM.inj b bx' c cx' g' h1 h2 h5 h6 h3 h7
  · exact fun a ha => hM'.lt a ha.1

end Go.Proofs.YtfgkcnoiplojkaaDoor.VI
