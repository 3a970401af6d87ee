/- The value interpreter: code, and functions. -/
import Derived.Test.YtfgkcnoiplojkaaDoorVv
import Derived.LoopN
namespace Go.Proofs.YtfgkcnoiplojkaaDoor.VI
open Go

theorem begins_get : ∀ (n i : Nat) (l : List Nat), begins n i l = true → ∀ j, j < n → l[j]? = some (i + j)
  | 0, _, _, _, j, h => by omega
  | n + 1, i, [], h, _, _ => by cases h
  | n + 1, i, x :: r, h, j, hj => by
    unfold begins at h
    rw [Bool.and_eq_true] at h
    obtain rfl := Nat.eq_of_beq_eq_true h.1
    cases j with
    | zero => rfl
    | succ j =>
      have := begins_get n (i + 1) r h.2 j (by omega)
      simp only [List.getElem?_cons_succ, this]
      congr 1; omega

theorem number_get : ∀ (l : List BX) (k i : Nat), (number k l).get i = if k ≤ i then l[i - k]? else none
  | [], k, i => by simp [number, Tab.get]
  | x :: r, k, i => by
    simp only [number, Tab.get]
    rw [number_get r (k + 1) i]
    by_cases h : i = k
    · subst h; simp [Nat.beq_refl]
    · rw [nbeq_ne h, cond_false]
      by_cases h2 : k + 1 ≤ i
      · rw [if_pos h2, if_pos (by omega), show i - k = i - (k + 1) + 1 from by omega]; rfl
      · rw [if_neg h2, if_neg (by omega)]

theorem number_zero (l : List BX) : (number 0 l).get = (l[·]?) := by
  funext i
  rw [number_get]; simp

theorem kept_get : ∀ {keep : List Nat} {t : Tab CV} {s : Nat} {v : CV}, (kept t keep).get s = some v → t.get s = some v
  | [], t, s, v, h => by cases h
  | k :: r, t, s, v, h => by
    unfold kept at h
    split at h
    · rename_i x hx
      simp only [Tab.get] at h
      by_cases e : s = k
      · subst e
        rw [Nat.beq_refl, cond_true] at h
        rw [hx]; exact h
      · rw [nbeq_ne e, cond_false] at h
        exact kept_get h
    · exact kept_get h

theorem renTab_get (f : Nat → Nat) : ∀ (t : Tab CV) (s : Nat), (renTab f t).get s = (t.get s).map (CV.ren f)
  | [], s => rfl
  | p :: r, s => by
    obtain ⟨j, v⟩ := p
    simp only [renTab, Tab.get]
    by_cases e : s = j
    · subst e; simp [Nat.beq_refl]
    · rw [nbeq_ne e, cond_false, cond_false, renTab_get f r]

theorem leadsTab_get : ∀ {t : Tab CV} {s : Nat} {v : CV}, t.get s = some v → ∀ b ∈ v.leads, b ∈ leadsTab t
  | [], s, v, h => by cases h
  | p :: r, s, v, h => by
    obtain ⟨j, x⟩ := p
    simp only [Tab.get] at h
    intro b hb
    simp only [leadsTab, List.mem_append]
    by_cases e : s = j
    · subst e
      rw [Nat.beq_refl, cond_true] at h
      obtain rfl := Option.some.inj h
      exact .inl hb
    · rw [nbeq_ne e, cond_false] at h
      exact .inr (leadsTab_get h b hb)

theorem lit_nil (Pr : Addr → Prop) (B : Nat → Option BX) (β : Nat → Option Nat) : Lit Pr B β [] = Pr := by
  funext a
  simp [Lit]

section
variable {P : Program} {E : Env} {w0 : World} {Pr0 : Addr → Prop} {B0 : Nat → Option BX} {β0 : Nat → Option Nat}

/-- Boxes that are not wanted are forgotten, the others told by new names. -/
theorem recast {w : World} {Pr : Addr → Prop} {B : Nat → Option BX} {β : Nat → Option Nat} (h : Step w0 Pr0 B0 β0 w Pr B β) {n : Nat} (hn : ∀ b x, B0 b = some x → b < n) {roots : List Nat} {p : List Nat × List BX} (hl : lends B roots = some p) (hb : begins n 0 p.1 = true) :
    Step w0 Pr0 B0 β0 w Pr (p.2[·]?) (lentβ p.1 β) ∧ MovedOn (· ∈ p.1) (place p.1) B β (p.2[·]?) (lentβ p.1 β) ∧ ∀ b ∈ roots, b ∈ p.1 := by
  obtain ⟨hnd, hbs, hr⟩ := lends_out hl
  obtain ⟨hM, hmove⟩ := lend_sound (sh := []) h.mem hnd hbs (by simp)
  rw [lit_nil] at hM
  obtain ⟨hlen, hget⟩ := boxesAt_get hbs
  refine ⟨⟨⟨h.since.keep, h.since.grows, h.since.new, h.since.shape, h.since.size, h.since.frame, ?_, ?_, h.since.same⟩, hM⟩, hmove, hr⟩
  · intro i x g hi hl hg
    have hil : i < p.1.length := by rw [← hlen]; exact (List.getElem?_eq_some_iff.1 hi).1
    obtain ⟨y, h1, h2, _⟩ := hget i p.1[i] (List.getElem?_eq_getElem hil)
    have hi' : p.2[i]? = some x := hi
    rw [h2] at hi'
    obtain rfl := Option.some.inj hi'
    simp only [lentβ, List.getElem?_eq_getElem hil, Option.bind_some] at hg
    exact h.since.place _ y g h1 (ren_live.1 hl) hg
  · intro b bx hbx
    obtain ⟨bx', h1, h2, h3⟩ := h.since.ext b bx hbx
    have hl := begins_get n 0 p.1 hb b (hn b bx hbx)
    rw [Nat.zero_add] at hl
    obtain ⟨y, h4, h5, _⟩ := hget b b hl
    rw [h1] at h4
    obtain rfl := Option.some.inj h4
    refine ⟨_, h5, h2.trans (compat_ren _), fun hn => ?_⟩
    simp only [lentβ, hl, Option.bind_some]
    exact h3 (ren_live.1 hn)

theorem canon_sound {keep : List Nat} {st st' : St} (h : (canon keep st).opt = some st') {a : Act} {w : World} (hrel : Rel w0 Pr0 B0 β0 st.abs a w) : Rel w0 Pr0 B0 β0 st'.abs a w := by
  obtain ⟨Pr, β, hX⟩ := hrel
  unfold canon at h
  dsimp only at h
  replace h := bind_ofO h
  obtain ⟨p, hp, h⟩ := h
  replace h := bif_some h
  obtain ⟨hc, h⟩ := h
  obtain rfl := Option.some.inj h
  rw [Bool.and_eq_true] at hc
  obtain ⟨h1, h2, h3⟩ := recast hX.step hX.lent hp hc.2
  refine ⟨Pr, lentβ p.1 β, hX.defers, hX.size, hX.lent, ?_, ?_⟩
  · intro t cv hcv
    have hcv' : (renTab (place p.1) (kept st.tmps keep)).get t = some cv := hcv
    rw [renTab_get, Option.map_eq_some_iff] at hcv'
    obtain ⟨v, hv, rfl⟩ := hcv'
    have hb : ({ nt := st.nt, lent := st.lent, tmps := renTab (place p.1) (kept st.tmps keep), boxes := number 0 p.2, next := firstName } : St).abs.B = (p.2[·]?) := number_zero p.2
    rw [hb]
    exact CVR.move h2 (fun _ h => h) (fun b hb => h3 b (by simp [leadsTab_get hv b hb])) (hX.vals t v (kept_get hv))
  · have hb : ({ nt := st.nt, lent := st.lent, tmps := renTab (place p.1) (kept st.tmps keep), boxes := number 0 p.2, next := firstName } : St).abs.B = (p.2[·]?) := number_zero p.2
    rw [hb]; exact h1

theorem Rel.drawn {s : AS} {a : Act} {w : World} (h : Rel w0 Pr0 B0 β0 s a w) (n : Nat) : Rel w0 Pr0 B0 β0 s a { w with drawn := n } := by
  obtain ⟨Pr, β, hX⟩ := h
  have hs : Step w Pr s.B β { w with drawn := n } Pr s.B β := Step.same hX.step.mem rfl ⟨rfl, rfl, rfl⟩
  exact ⟨Pr, β, hX.defers, hX.size, hX.lent, fun t cv hcv => CVR.ext hs.since.keep hs.since.grows hs.since.shape hs.since.ext (hX.vals t cv hcv), hX.step.trans hs⟩

theorem Rel.next {st : St} {a : Act} {w : World} (h : Rel w0 Pr0 B0 β0 st.abs a w) (n : Nat) : Rel w0 Pr0 B0 β0 ({ st with next := n } : St).abs a w := by
  obtain ⟨Pr, β, hX⟩ := h
  exact ⟨Pr, β, hX.defers, hX.size, hX.lent, hX.vals, hX.step⟩

theorem ops_sound (hE : EnvOK P E) (hm : P.follows .mixedOrders = true) {id : Nat} {ops : Array Oper} {draw : Bool} {st st' : St} (h : (evOps E ops draw st).opt = some st') {a : Act} {w : World} (hrel : Rel w0 Pr0 B0 β0 st.abs a w) {Q : Exit → Act → World → Prop}
    (hn : ∀ a' w', Rel w0 Pr0 B0 β0 st'.abs a' w' → Q .normal a' w') : (Code.region id ops draw).wp P Q a w := by
  unfold evOps at h
  replace h := bind_m h
  obtain ⟨s1, h1, h⟩ := h
  obtain rfl := Option.some.inj h
  cases draw with
  | true =>
    rw [cond_true] at h1
    replace h1 := bif_some h1
    obtain ⟨hb, h1⟩ := h1
    rw [Bool.and_eq_true] at hb
    exact draw_sound hE hm hb.1 hb.2 h1 (fun a' w' h' => hn a' w' (h'.next _)) (hrel.drawn _)
  | false => exact wp_region (list_sound hE _ hrel h1 fun a' w' h' => hn a' w' (h'.next _))

theorem recan_sound {k : Option (List Nat)} {st st' : St} (h : (recan k st).opt = some st') {a : Act} {w : World} (hrel : Rel w0 Pr0 B0 β0 st.abs a w) : Rel w0 Pr0 B0 β0 st'.abs a w := by
  cases k with
  | none => obtain rfl := Option.some.inj h; exact hrel
  | some keep => exact canon_sound h hrel

def exOf : Ex → Exit
  | .normal => .normal
  | .exit id => .exit id
  | .ret => .ret

/-- What is known of a loop's further rounds, and of what follows where ways meet. -/
def AgainOK (P : Program) (w0 : World) (Pr0 : Addr → Prop) (B0 : Nat → Option BX) (β0 : Nat → Option Nat) (n : Nat) (again : Bool → Code → St → M (Ex × St)) : Prop :=
  (∀ c st r a w (Q : Exit → Act → World → Prop), (again false c st).opt = some r → Rel w0 Pr0 B0 β0 st.abs a w → (∀ a' w', Rel w0 Pr0 B0 β0 r.2.abs a' w' → Q (exOf r.1) a' w') → Code.rounds P c Q n a w) ∧
  (∀ c st r a w (Q : Exit → Act → World → Prop), (again true c st).opt = some r → Rel w0 Pr0 B0 β0 st.abs a w → (∀ a' w', Rel w0 Pr0 B0 β0 r.2.abs a' w' → Q (exOf r.1) a' w') → c.wp P Q a w)

theorem code_sound (hE : EnvOK P E) (hm : P.follows .mixedOrders = true) {n : Nat} {again : Bool → Code → St → M (Ex × St)} (hagain : AgainOK P w0 Pr0 B0 β0 n again) :
    ∀ (c : Code) {st : St} {r : Ex × St} {a : Act} {w : World} {Q : Exit → Act → World → Prop}, (evCode E again c st).opt = some r → Rel w0 Pr0 B0 β0 st.abs a w → (∀ a' w', Rel w0 Pr0 B0 β0 r.2.abs a' w' → Q (exOf r.1) a' w') → c.wp P Q a w := by
  intro c
  induction c with
  | skip =>
    intro st r a w Q h hrel hn
    unfold evCode at h
    obtain rfl := Option.some.inj h
    exact wp_skip (hn a w hrel)
  | region id ops draw =>
    intro st r a w Q h hrel hn
    unfold evCode at h
    replace h := bind_m h
    obtain ⟨s1, h1, h⟩ := h
    obtain rfl := Option.some.inj h
    exact ops_sound hE hm h1 hrel hn
  | seq x y ihx ihy =>
    intro st r a w Q h hrel hn
    unfold evCode at h
    replace h := bind_m h
    obtain ⟨⟨ex, s1⟩, h1, h⟩ := h
    refine wp_seq (ihx h1 hrel fun a' w' hrel' => ?_)
    cases ex with
    | normal =>
      dsimp only at h
      split at h
      · replace h := bind_m h
        obtain ⟨s2, h2, h⟩ := h
        exact hagain.2 _ _ _ _ _ _ h (canon_sound h2 hrel') hn
      · exact ihy h hrel' hn
    | exit id => obtain rfl := Option.some.inj h; exact hn a' w' hrel'
    | ret => obtain rfl := Option.some.inj h; exact hn a' w' hrel'
  | cond c x y ihx ihy =>
    intro st r a w Q h hrel hn
    unfold evCode at h
    replace h := bind_ofO h
    obtain ⟨t, ht, h⟩ := h
    have hv : a.eval c = .bool t := by
      obtain ⟨Pr, β, hX⟩ := hrel
      exact opB_sound (hX.ctx hE) ht
    rw [M.opt_ite] at h
    refine wp_cond hv ?_
    cases t with
    | true => exact ihx h hrel hn
    | false => exact ihy h hrel hn
  | block id c ih =>
    intro st r a w Q h hrel hn
    unfold evCode at h
    replace h := bind_m h
    obtain ⟨⟨ex, s1⟩, h1, h⟩ := h
    refine wp_block (ih h1 hrel fun a' w' hrel' => ?_)
    cases ex with
    | normal => obtain rfl := Option.some.inj h; exact hn a' w' hrel'
    | ret => obtain rfl := Option.some.inj h; exact hn a' w' hrel'
    | exit j =>
      dsimp only at h
      simp only [exOf, Exit.inBlock]
      by_cases e : j = id
      · subst e
        rw [Nat.beq_refl, cond_true] at h
        obtain rfl := Option.some.inj h
        rw [if_pos rfl]
        exact hn a' w' hrel'
      · rw [nbeq_ne e, cond_false] at h
        obtain rfl := Option.some.inj h
        rw [if_neg e]
        exact hn a' w' hrel'
  | loop c ih =>
    intro st r a w Q h hrel hn
    unfold evCode at h
    replace h := bind_m h
    obtain ⟨s1, h1, h⟩ := h
    exact wp_loop_rounds n (hagain.1 _ _ _ _ _ _ h (recan_sound h1 hrel) hn)
  | exit id =>
    intro st r a w Q h hrel hn
    unfold evCode at h
    obtain rfl := Option.some.inj h
    exact wp_exit (hn a w hrel)
  | label l =>
    intro st r a w Q h hrel hn
    unfold evCode at h
    obtain rfl := Option.some.inj h
    exact wp_label (hn a w hrel)
  | ret =>
    intro st r a w Q h hrel hn
    unfold evCode at h
    obtain rfl := Option.some.inj h
    exact wp_ret (hn a w hrel)
  | _ =>
    intro st r a w Q h hrel hn
    unfold evCode at h
    cases h

theorem loop_sound (hE : EnvOK P E) (hm : P.follows .mixedOrders = true) : ∀ k : Nat, AgainOK P w0 Pr0 B0 β0 k (evLoop E k)
  | 0 => ⟨(fun c st r a w Q h _ _ => by unfold evLoop at h; cases h), (fun c st r a w Q h _ _ => by unfold evLoop at h; cases h)⟩
  | k + 1 => by
    refine ⟨fun c st r a w Q h hrel hn => ?_, fun c st r a w Q h hrel hn => ?_⟩
    · unfold evLoop evStep round at h
      replace h := bind_m h
      obtain ⟨⟨ex, s1⟩, h1, h⟩ := h
      rw [rounds_succ]
      refine code_sound hE hm (loop_sound hE hm k) c h1 hrel fun a' w' hrel' => ?_
      cases ex with
      | normal =>
        replace h := bind_m h
        obtain ⟨s2, h2, h⟩ := h
        exact (loop_sound hE hm k).1 _ _ _ _ _ _ h (recan_sound h2 hrel') hn
      | exit id =>
        replace h := bind_m h
        obtain ⟨s2, h2, h⟩ := h
        obtain rfl := Option.some.inj h
        exact hn a' w' (recan_sound h2 hrel')
      | ret =>
        replace h := bind_m h
        obtain ⟨s2, h2, h⟩ := h
        obtain rfl := Option.some.inj h
        exact hn a' w' (recan_sound h2 hrel')
    · unfold evLoop evStep follow at h
      replace h := bind_m h
      obtain ⟨⟨ex, s1⟩, h1, h⟩ := h
      refine code_sound hE hm (loop_sound hE hm k) c h1 hrel fun a' w' hrel' => ?_
      replace h := bind_m h
      obtain ⟨s2, h2, h⟩ := h
      obtain rfl := Option.some.inj h
      exact hn a' w' (recan_sound h2 hrel')

end
end Go.Proofs.YtfgkcnoiplojkaaDoor.VI
