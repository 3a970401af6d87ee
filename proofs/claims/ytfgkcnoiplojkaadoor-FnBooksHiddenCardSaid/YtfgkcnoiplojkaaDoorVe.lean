/- The value interpreter: steps of memory that its states follow. -/
import Derived.Test.YtfgkcnoiplojkaaDoorVd
namespace Go.Proofs.YtfgkcnoiplojkaaDoor.VI
open Go

theorem Since.refl (w : World) (Pr : Addr → Prop) (B : Nat → Option BX) (β : Nat → Option Nat) : Since w Pr B β w Pr B β where
  keep := fun _ _ _ h => h
  grows := fun _ h => h
  new := fun _ h => .inl h
  shape := Shape.refl w
  size := Nat.le_refl _
  frame := fun _ _ _ => rfl
  place := fun b bx g hb hl hg => .inr ⟨b, bx, hb, hl, hg⟩
  ext := Ext.refl B β
  same := ⟨rfl, rfl, rfl⟩

theorem Since.trans {w0 w1 w2 : World} {P0 P1 P2 : Addr → Prop} {B0 B1 B2 : Nat → Option BX} {β0 β1 β2 : Nat → Option Nat}
    (h : Since w0 P0 B0 β0 w1 P1 B1 β1) (k : Since w1 P1 B1 β1 w2 P2 B2 β2) : Since w0 P0 B0 β0 w2 P2 B2 β2 where
  keep := fun a v ha hv => k.keep a v (h.grows a ha) (h.keep a v ha hv)
  grows := fun a ha => k.grows a (h.grows a ha)
  new := fun a ha => by
    rcases k.new a ha with h1 | h1 | ⟨b, bx, hb, hl, hg⟩
    · exact h.new a h1
    · exact .inr (.inl (Nat.le_trans h.size h1))
    · rcases h.place b bx _ hb hl hg with h2 | h2
      · exact .inr (.inl h2)
      · exact .inr (.inr h2)
  shape := h.shape.trans k.shape
  size := Nat.le_trans h.size k.size
  frame := fun g hg hn => by
    rw [k.frame g (Nat.lt_of_lt_of_le hg h.size) ?_, h.frame g hg hn]
    intro b bx hb hl hβ
    rcases h.place b bx g hb hl hβ with h2 | ⟨c, cx, hc, hcl, hcβ⟩
    · omega
    · exact hn c cx hc hcl hcβ
  place := fun b bx g hb hl hg => by
    rcases k.place b bx g hb hl hg with h1 | ⟨c, cx, hc, hcl, hcβ⟩
    · exact .inl (Nat.le_trans h.size h1)
    · exact h.place c cx g hc hcl hcβ
  ext := h.ext.trans k.ext
  same := ⟨k.same.1.trans h.same.1, k.same.2.1.trans h.same.2.1, k.same.2.2.trans h.same.2.2⟩

/-- One step: what has been done, and the boxes behind it. -/
structure Step (w : World) (Pr : Addr → Prop) (B : Nat → Option BX) (β : Nat → Option Nat) (w' : World) (Pr' : Addr → Prop) (B' : Nat → Option BX) (β' : Nat → Option Nat) : Prop where
  since : Since w Pr B β w' Pr' B' β'
  mem : Mem w' Pr' B' β'

section
variable {w w' w1 w2 : World} {Pr Pr' P1 P2 : Addr → Prop} {B B' B1 B2 : Nat → Option BX} {β β' β1 β2 : Nat → Option Nat}

theorem Step.refl (h : Mem w Pr B β) : Step w Pr B β w Pr B β := ⟨Since.refl _ _ _ _, h⟩
theorem Step.trans (h : Step w Pr B β w1 P1 B1 β1) (k : Step w1 P1 B1 β1 w2 P2 B2 β2) : Step w Pr B β w2 P2 B2 β2 := ⟨h.since.trans k.since, k.mem⟩

theorem cell_heap (h : w'.heap = w.heap) (a : Addr) : w'.cell? a = w.cell? a := by unfold World.cell?; rw [h]

theorem BXR.ext (hk : Keep Pr w w') (hp : ∀ a, Pr a → Pr' a) (hs : Shape w w') (he : Ext B β B' β') {b : Nat} {bx : BX} (hn : bx ≠ .gone → β' b = β b)
    (hb : ∀ g, β b = some g → bx ≠ .gone → w'.heap[g]? = w.heap[g]? ∧ ∀ a, Pr' a → a.block = g → Pr a) (h : BXR w Pr B β b bx) : BXR w' Pr' B' β' b bx := by
  cases bx with
  | gone => trivial
  | cells cs =>
    obtain ⟨g, vs, T, hg, hh, hc, hp'⟩ := h
    obtain ⟨h1, h2⟩ := hb g hg (by simp)
    refine ⟨g, vs, T, (hn (by simp)).trans hg, h1.trans hh, CellsR.ext hk hp hs he hc, fun a ha e => hp' a (h2 a ha e) e⟩
  | arr ro ty xs =>
    unfold BXR at h ⊢
    rw [hn (by simp)]
    cases hg : β b with
    | none => rw [hg] at h; exact h
    | some g =>
      rw [hg] at h
      obtain ⟨vs, T, hh, hx, hq, hr⟩ := h
      obtain ⟨h1, h2⟩ := hb g hg (by simp)
      refine ⟨vs, T, h1.trans hh, fun i x hi => ?_, fun e a ha ea => hq e a (h2 a ha ea) ea, fun e off ho => hp _ (hr e off ho)⟩
      obtain ⟨es, he1, he2⟩ := hx i x hi
      exact ⟨es, EncE_mono hk hp _ _ _ he1, he2⟩

/-- Nothing but the machine's counters has changed. -/
theorem Step.same (h : Mem w Pr B β) (e : w'.heap = w.heap) (hso : SameOut w w') : Step w Pr B β w' Pr B β := by
  have hk : Keep Pr w w' := fun a v _ hv => by rw [cell_heap e]; exact hv
  have hs : Shape w w' := fun g vs T hg => ⟨vs, by rw [e]; exact hg, rfl⟩
  refine ⟨⟨hk, fun _ h => h, fun _ h => .inl h, hs, by rw [e]; exact Nat.le_refl _, fun g _ _ => by rw [e], fun b bx g hb hl hg => .inr ⟨b, bx, hb, hl, hg⟩, Ext.refl _ _, hso⟩, ?_, h.inj, fun a ha => by rw [e]; exact h.lt a ha⟩
  exact fun b bx hb => BXR.ext hk (fun _ h => h) hs (Ext.refl _ _) (fun _ => rfl) (fun g _ _ => ⟨by rw [e], fun _ h _ => h⟩) (h.box b bx hb)

def putB (B : Nat → Option BX) (k : Nat) (x : BX) : Nat → Option BX := fun b => if b = k then some x else B b
def putβ (β : Nat → Option Nat) (k : Nat) (g : Option Nat) : Nat → Option Nat := fun b => if b = k then g else β b

theorem Ext.new {k : Nat} (hk : B k = none) (x : BX) (g : Option Nat) : Ext B β (putB B k x) (putβ β k g) := fun b bx hb => by
  have hne : b ≠ k := by rintro rfl; rw [hk] at hb; cases hb
  exact ⟨bx, by simp [putB, hne, hb], Compat.refl bx, fun _ => by simp [putβ, hne]⟩

theorem heap_push_lt {o : Obj} {g : Nat} (h : g < w.heap.size) : (w.heap.push o)[g]? = w.heap[g]? := by
  rw [Array.getElem?_push]; simp [Nat.ne_of_lt h]

theorem heap_some_lt {g : Nat} {o : Obj} (h : w.heap[g]? = some o) : g < w.heap.size := (Array.getElem?_eq_some_iff.1 h).1

/-- A new block. -/
def World.add (w : World) (o : Obj) : World := { w with heap := w.heap.push o }

theorem add_old (o : Obj) {g : Nat} (h : g < w.heap.size) : (World.add w o).heap[g]? = w.heap[g]? := heap_push_lt h
theorem add_new (o : Obj) : (World.add w o).heap[w.heap.size]? = some o := by simp [World.add]
theorem add_size (o : Obj) : (World.add w o).heap.size = w.heap.size + 1 := by simp [World.add]

theorem add_keep (hl : ∀ a, Pr a → a.block < w.heap.size) (o : Obj) : Keep Pr w (World.add w o) := fun a v ha hv => by
  unfold World.cell? at hv ⊢
  rw [add_old o (hl a ha)]; exact hv

theorem add_shape (o : Obj) : Shape w (World.add w o) := fun g vs T hg => ⟨vs, by rw [add_old o (heap_some_lt hg)]; exact hg, rfl⟩

/-- A new box over a new block. -/
theorem Step.alloc (h : Mem w Pr B β) {k : Nat} (hk : B k = none) (o : Obj) (x : BX)
    (hx : BXR (World.add w o) Pr (putB B k x) (putβ β k (some w.heap.size)) k x) :
    Step w Pr B β (World.add w o) Pr (putB B k x) (putβ β k (some w.heap.size)) := by
  have hkp := add_keep h.lt o
  have hsh := add_shape (w := w) o
  have he : Ext B β (putB B k x) (putβ β k (some w.heap.size)) := Ext.new hk x _
  have hlt : ∀ b bx g, B b = some bx → bx ≠ .gone → β b = some g → g < w.heap.size := by
    intro b bx g hb hl hg
    have := h.box b bx hb
    cases bx with
    | gone => exact absurd rfl hl
    | cells cs => obtain ⟨g', vs, T, hg', hh, _⟩ := this; rw [hg] at hg'; cases hg'; exact heap_some_lt hh
    | arr ro ty xs =>
      unfold BXR at this; rw [hg] at this
      obtain ⟨vs, T, hh, _⟩ := this
      exact heap_some_lt hh
  refine ⟨⟨hkp, fun _ h => h, fun _ h => .inl h, hsh, by rw [add_size]; omega, fun g hg _ => add_old o hg, ?_, he, ⟨rfl, rfl, rfl⟩⟩, ?_, ?_, fun a ha => by rw [add_size]; have := h.lt a ha; omega⟩
  · intro b bx g hb hl hg
    by_cases e : b = k
    · subst e
      simp [putβ] at hg
      exact .inl (by omega)
    · simp [putB, e] at hb
      simp [putβ, e] at hg
      exact .inr ⟨b, bx, hb, hl, hg⟩
  · intro b bx hb
    by_cases e : b = k
    · subst e
      simp [putB] at hb; subst hb; exact hx
    · simp [putB, e] at hb
      refine BXR.ext hkp (fun _ h => h) hsh he (fun _ => by simp [putβ, e]) (fun g hg hl => ⟨add_old o (hlt b bx g hb hl hg), fun _ h _ => h⟩) (h.box b bx hb)
  · intro b bx c cx g hb hl hc hcl hg hg'
    by_cases e : b = k <;> by_cases e' : c = k
    · rw [e, e']
    · simp [putβ, e] at hg
      simp [putB, e'] at hc
      simp [putβ, e'] at hg'
      have := hlt c cx g hc hcl hg'; omega
    · simp [putβ, e'] at hg'
      simp [putB, e] at hb
      simp [putβ, e] at hg
      have := hlt b bx g hb hl hg; omega
    · simp [putB, e] at hb
      simp [putB, e'] at hc
      simp [putβ, e] at hg
      simp [putβ, e'] at hg'
      exact h.inj b bx c cx g hb hl hc hcl hg hg'

/-- A new box that is a nil slice. -/
theorem Step.nil (h : Mem w Pr B β) {k : Nat} (hk : B k = none) (ty : Ty) :
    Step w Pr B β w Pr (putB B k (.arr false ty [])) (putβ β k none) := by
  have he : Ext B β (putB B k (.arr false ty [])) (putβ β k none) := Ext.new hk _ _
  refine ⟨⟨fun _ _ _ h => h, fun _ h => h, fun _ h => .inl h, Shape.refl w, Nat.le_refl _, fun _ _ _ => rfl, ?_, he, ⟨rfl, rfl, rfl⟩⟩, ?_, ?_, h.lt⟩
  · intro b bx g hb hl hg
    by_cases e : b = k
    · simp [putβ, e] at hg
    · simp [putB, e] at hb
      simp [putβ, e] at hg
      exact .inr ⟨b, bx, hb, hl, hg⟩
  · intro b bx hb
    by_cases e : b = k
    · subst e
      simp [putB] at hb; subst hb
      unfold BXR; simp [putβ]
    · simp [putB, e] at hb
      exact BXR.ext (fun _ _ _ h => h) (fun _ h => h) (Shape.refl w) he (fun _ => by simp [putβ, e]) (fun g _ _ => ⟨rfl, fun _ h _ => h⟩) (h.box b bx hb)
  · intro b bx c cx g hb hl hc hcl hg hg'
    by_cases e : b = k <;> by_cases e' : c = k
    · rw [e, e']
    · simp [putβ, e] at hg
    · simp [putβ, e'] at hg'
    · simp [putB, e] at hb
      simp [putB, e'] at hc
      simp [putβ, e] at hg
      simp [putβ, e'] at hg'
      exact h.inj b bx c cx g hb hl hc hcl hg hg'

theorem Ext.put {k : Nat} {x y : BX} (hk : B k = some x) (hc : Compat x y) : Ext B β (putB B k y) β := fun b bx hb => by
  by_cases e : b = k
  · subst e; rw [hk] at hb; cases hb
    exact ⟨y, by simp [putB], hc, fun _ => rfl⟩
  · exact ⟨bx, by simp [putB, e, hb], Compat.refl bx, fun _ => rfl⟩

/-- A box is told anew: the block may have changed (nowhere else), or have been given away for good. -/
theorem Step.put (h : Mem w Pr B β) {k : Nat} {x y : BX} (hk : B k = some x) (hl0 : x ≠ .gone) (hc : Compat x y)
    (hso : SameOut w w') (hw : ∀ i, β k ≠ some i → w'.heap[i]? = w.heap[i]?) (hz : w'.heap.size = w.heap.size) (hsh : Shape w w') (hkp : Keep Pr w w')
    (hp : ∀ a, Pr a → Pr' a) (hq : ∀ a, Pr' a → Pr a ∨ (β k = some a.block))
    (hx : y ≠ .gone → Ext B β (putB B k y) β → BXR w' Pr' (putB B k y) β k y) (hy : y = .gone → ∀ a, Pr' a → Pr a) :
    Step w Pr B β w' Pr' (putB B k y) β := by
  have he : Ext B β (putB B k y) β := Ext.put hk hc
  have hlive : ∀ b bx, putB B k y b = some bx → bx ≠ .gone → ∃ bx0, B b = some bx0 ∧ bx0 ≠ .gone := by
    intro b bx hb hl
    by_cases e : b = k
    · subst e; exact ⟨x, hk, hl0⟩
    · simp [putB, e] at hb; exact ⟨bx, hb, hl⟩
  have hlt : ∀ a, Pr' a → a.block < w'.heap.size := by
    intro a ha
    rw [hz]
    rcases hq a ha with h1 | h1
    · exact h.lt a h1
    · have := h.box k x hk
      cases x with
      | gone => exact absurd rfl hl0
      | cells cs => obtain ⟨g', vs, T, hg', hh, _⟩ := this; rw [h1] at hg'; cases hg'; exact heap_some_lt hh
      | arr ro ty xs =>
        unfold BXR at this; rw [h1] at this
        obtain ⟨vs, T, hh, _⟩ := this
        exact heap_some_lt hh
  refine ⟨⟨hkp, hp, ?_, hsh, by omega, ?_, ?_, he, hso⟩, ?_, ?_, hlt⟩
  · intro a ha
    rcases hq a ha with h1 | h1
    · exact .inl h1
    · exact .inr (.inr ⟨k, x, hk, hl0, h1⟩)
  · intro g _ hn
    exact hw g (hn k x hk hl0)
  · intro b bx g hb hl hg
    obtain ⟨bx0, hb0, hl0'⟩ := hlive b bx hb hl
    exact .inr ⟨b, bx0, hb0, hl0', hg⟩
  · intro b bx hb
    by_cases e : b = k
    · subst e
      simp [putB] at hb; subst hb
      by_cases hyg : y = .gone
      · subst hyg; trivial
      · exact hx hyg he
    · simp [putB, e] at hb
      refine BXR.ext hkp hp hsh he (fun _ => rfl) (fun g hg hl => ?_) (h.box b bx hb)
      have hne : β k ≠ some g := fun hg' => e (h.inj b bx k x g hb hl hk hl0 hg hg')
      refine ⟨hw g hne, fun a ha ea => ?_⟩
      rcases hq a ha with h1 | h1
      · exact h1
      · exact absurd (ea ▸ h1) hne
  · intro b bx c cx g hb hl hc' hcl hg hg'
    obtain ⟨b0, hb0, hbl⟩ := hlive b bx hb hl
    obtain ⟨c0, hc0, hcl0⟩ := hlive c cx hc' hcl
    exact h.inj b b0 c c0 g hb0 hbl hc0 hcl0 hg hg'

/-- A box is given away: nothing is asked of it any more. -/
theorem Step.gone (h : Mem w Pr B β) {k : Nat} {x : BX} (hk : B k = some x) (hl : x ≠ .gone) : Step w Pr B β w Pr (putB B k .gone) β :=
  Step.put h hk hl (by cases x <;> trivial) ⟨rfl, rfl, rfl⟩ (fun _ _ => rfl) rfl (Shape.refl w) (fun _ _ _ h => h) (fun _ h => h) (fun _ h => .inl h) (fun h => absurd rfl h) (fun _ _ h => h)

/-- A box will not change any more. -/
theorem Step.freeze (h : Mem w Pr B β) {k : Nat} {ro : Bool} {ty : Ty} {xs : List ty.den} (hk : B k = some (.arr ro ty xs)) :
    ∃ Pr', Step w Pr B β w Pr' (putB B k (.arr true ty xs)) β := by
  cases hr : ro with
  | true =>
    subst hr
    have : putB B k (.arr true ty xs) = B := by
      funext b; by_cases e : b = k
      · subst e; simp [putB, hk]
      · simp [putB, e]
    rw [this]
    exact ⟨Pr, Step.refl h⟩
  | false =>
    subst hr
    have hb := h.box k _ hk
    refine ⟨fun a => Pr a ∨ ∃ g, β k = some g ∧ a.block = g ∧ a.spot = none ∧ a.off < xs.length * ty.size, Step.put h hk (by simp) ⟨rfl, rfl, fun e => by cases e⟩ ⟨rfl, rfl, rfl⟩ (fun _ _ => rfl) rfl (Shape.refl w) (fun _ _ _ h => h) (fun _ h => .inl h) ?_ ?_ (fun e => by cases e)⟩
    · rintro a (h1 | ⟨g, hg, e, _⟩)
      · exact .inl h1
      · exact .inr (by rw [hg, e])
    · intro _ _
      unfold BXR at hb ⊢
      cases hg : β k with
      | none => rw [hg] at hb; exact hb
      | some g =>
        rw [hg] at hb
        obtain ⟨vs, T, hh, hx, hq, _⟩ := hb
        refine ⟨vs, T, hh, fun i x hi => ?_, (fun e => by cases e), fun _ off ho => .inr ⟨g, rfl, rfl, rfl, ho⟩⟩
        obtain ⟨es, he1, he2⟩ := hx i x hi
        exact ⟨es, EncE_mono (fun _ _ _ h => h) (fun _ h => .inl h) _ _ _ he1, he2⟩
end

end Go.Proofs.YtfgkcnoiplojkaaDoor.VI
