/- Puzzles, plainly: what is drawn. -/
import Derived.Test.YtfgkcnoiplojkaaDoorP4g
set_option linter.unusedSimpArgs false
set_option linter.unusedVariables false
namespace Go.Proofs.YtfgkcnoiplojkaaDoor.VI
open Go

/-- It answers, and so. -/
def MG {α : Type} (m : M α) (Q : α → Prop) : Prop := ∃ a, m.opt = some a ∧ Q a
def OG {α : Type} (o : Option α) (Q : α → Prop) : Prop := ∃ a, o = some a ∧ Q a

theorem MG.bindo {α β : Type} {o : Option α} {f : α → M β} {P : α → Prop} {Q : β → Prop} (h : OG o P) (k : ∀ a, P a → MG (f a) Q) : MG (M.bind (.ofO o) f) Q := by
  obtain ⟨a, rfl, ha⟩ := h
  obtain ⟨b, hb, hq⟩ := k a ha
  exact ⟨b, by rw [M.opt_bind, M.opt_ofO, Option.bind_some]; exact hb, hq⟩
theorem MG.ite {α : Type} {b : Bool} {x y : M α} {Q : α → Prop} (h1 : b = true → MG x Q) (h2 : b = false → MG y Q) : MG (M.ite b x y) Q := by
  cases b with
  | true => obtain ⟨a, h, q⟩ := h1 rfl; exact ⟨a, by rw [M.opt_ite]; exact h, q⟩
  | false => obtain ⟨a, h, q⟩ := h2 rfl; exact ⟨a, by rw [M.opt_ite]; exact h, q⟩
theorem MG.ret {α : Type} {a : α} {Q : α → Prop} (h : Q a) : MG (M.ret a) Q := ⟨a, M.opt_ret a, h⟩
theorem MG.ofO {α : Type} {o : Option α} {Q : α → Prop} (h : OG o Q) : MG (M.ofO o) Q := by
  obtain ⟨a, h, q⟩ := h
  exact ⟨a, by rw [M.opt_ofO]; exact h, q⟩
theorem MG.yes {α : Type} {b : Bool} {x y : M α} {Q : α → Prop} (h : b = true) (k : MG x Q) : MG (M.ite b x y) Q := MG.ite (fun _ => k) (fun e => by rw [h] at e; cases e)
theorem MG.no {α : Type} {b : Bool} {x y : M α} {Q : α → Prop} (h : b = false) (k : MG y Q) : MG (M.ite b x y) Q := MG.ite (fun e => by rw [h] at e; cases e) (fun _ => k)
theorem OG.mono {α : Type} {o : Option α} {P Q : α → Prop} (h : OG o P) (k : ∀ a, P a → Q a) : OG o Q := by
  obtain ⟨a, h, p⟩ := h
  exact ⟨a, h, k a p⟩

/-- Bytes, and a place among them. -/
structure Cur (code : List Int) (a : Int) (n : Nat) : Prop where
  byte : ∀ b ∈ code, 0 ≤ b ∧ b < 256
  len : code.length ≤ 1048576
  at0 : 0 ≤ a
  atn : a ≤ n

theorem WU_def (x : Int) : WU x = x % 18446744073709551616 := by
  show (if (false && decide (x % (2 ^ 64 : Int) ≥ (2 ^ 63 : Int))) = true then x % (2 ^ 64 : Int) - (2 ^ 64 : Int) else x % (2 ^ 64 : Int)) = _
  rw [show (2 : Int) ^ 64 = 18446744073709551616 from by decide]
  simp

theorem and255 (x y : BitVec 64) (h : y.toNat = 255) : (x &&& y).toNat < 256 := by
  rw [BitVec.toNat_and, h]
  exact Nat.lt_of_le_of_lt Nat.and_le_right (by decide)

theorem low_nn {z : Nat} (h : z < 256) : 0 ≤ W (WU (z : Int)) ∧ W (WU (z : Int)) < 256 := by
  rw [WU_def, W_eq (by omega) (by omega)]; omega

/-- What a draw hands back: the bytes, the place, the seed. -/
def Back (code : List Int) (n : Nat) (v : List Int × Int × Int × Unit) : Prop := ∃ a s, v = (code, a, s, ()) ∧ Cur code a n

section
variable {code : List Int} {a s : Int} {n : Nat}

theorem next_g (h : Cur code a n) (hn : n ≤ 100000) : OG (spec_l1Cur_next.g (code, a, s, ())) fun v => 0 ≤ v.1 ∧ v.1 < 256 ∧ Back code (n + 1) v.2 := by
  have h0 := h.at0
  have h1 := h.atn
  have hl := h.len
  have hc : Cur code (a + 1) (n + 1) := ⟨h.byte, h.len, by omega, by omega⟩
  have hw : W (a + 1) = a + 1 := W_eq (by omega) (by omega)
  obtain ⟨m, hm⟩ := fuel_succ
  have hj : ∀ b : Int, 0 ≤ b → b < 256 → OG (spec_l1Cur_next.L4j fuel (b, code, a, s, ())) fun v => 0 ≤ v.1 ∧ v.1 < 256 ∧ Back code (n + 1) v.2 := by
    intro b hb0 hb1
    rw [hm]
    show MG (spec_l1Cur_next.T4j (b, code, a, s, ())) _
    refine MG.ite (fun _ => MG.ret ⟨hb0, hb1, _, _, rfl, ?_⟩) (fun _ => MG.ret ⟨?_, ?_, _, _, rfl, ?_⟩)
    · rw [hw]; exact hc
    · exact (low_nn (and255 _ _ (by decide))).1
    · exact (low_nn (and255 _ _ (by decide))).2
    · rw [hw]; exact hc
  show MG (spec_l1Cur_next.T (spec_l1Cur_next.L4j fuel) (code, a, s, ())) _
  refine MG.ite (fun hlt => ?_) (fun _ => MG.ofO (hj 0 (by omega) (by omega)))
  have hlt := of_decide_eq_true hlt
  refine MG.yes (decide_eq_true h0) ?_
  have hi : a.toNat < code.length := by omega
  refine MG.bindo (P := fun e => e = code[a.toNat]) ⟨_, List.getElem?_eq_getElem hi, rfl⟩ ?_
  rintro _ rfl
  have hb := h.byte _ (List.getElem_mem hi)
  have hwb : W code[a.toNat] = code[a.toNat] := W_eq (by omega) (by omega)
  refine MG.ofO ?_
  rw [hwb]
  exact hj _ hb.1 hb.2

theorem pick_g (h : Cur code a n) (hn : n ≤ 90000) (m : Int) (hm : m ≤ 60000) : OG (spec_l1Cur_pick.g (m, code, a, s, ())) fun v => 0 ≤ v.1 ∧ (1 ≤ m → v.1 < m) ∧ v.1 < 65536 ∧ Back code (n + 2) v.2 := by
  show MG (spec_l1Cur_pick.T (m, code, a, s, ())) _
  refine MG.ite (fun h1 => MG.ret ?_) (fun h1 => ?_)
  · exact ⟨Int.le_refl _, fun _ => by show (0 : Int) < m; omega, by show (0 : Int) < 65536; omega, a, s, rfl, h.byte, h.len, h.at0, by have := h.atn; omega⟩
  · have h1 := of_decide_eq_false h1
    refine MG.bindo (next_g h (by omega)) ?_
    rintro ⟨x, _⟩ ⟨hx0, hx1, a1, s1, rfl, hc⟩
    refine MG.ite (fun h2 => ?_) (fun h2 => ?_)
    · refine MG.bindo (next_g hc (by omega)) ?_
      rintro ⟨y, _⟩ ⟨hy0, hy1, a2, s2, rfl, hc2⟩
      refine MG.no (decide_eq_false (by omega)) (MG.ret ?_)
      simp only at hx0 hx1 hy0 hy1
      have hw : W (W (x * 256) + y) = x * 256 + y := by rw [W_eq (x := x * 256) (by omega) (by omega), W_eq (by omega) (by omega)]
      refine ⟨?_, fun _ => ?_, ?_, a2, s2, rfl, hc2⟩
      all_goals
        show _
        simp only [hw]
        rw [tmod_nn (by omega)]
      · exact Int.emod_nonneg _ (by omega)
      · exact Int.emod_lt_of_pos _ (by omega)
      · have := Int.emod_lt_of_pos (x * 256 + y) (show 0 < m by omega)
        omega
    · refine MG.no (decide_eq_false (by omega)) (MG.ret ?_)
      simp only at hx0 hx1
      refine ⟨?_, fun _ => ?_, ?_, a1, s1, rfl, hc.byte, hc.len, hc.at0, by have := hc.atn; omega⟩
      all_goals
        show _
        simp only
        rw [tmod_nn (by omega)]
      · exact Int.emod_nonneg _ (by omega)
      · exact Int.emod_lt_of_pos _ (by omega)
      · have := Int.emod_lt_of_pos x (show 0 < m by omega)
        omega

theorem one_g (h : Cur code a n) (hn : n ≤ 90000) (m : Int) (hm : m ≤ 60000) : OG (spec_l1Cur_one.g (m, code, a, s, ())) fun v => Back code (n + 2) v.2 := by
  show MG (spec_l1Cur_one.T (m, code, a, s, ())) _
  refine MG.bindo (pick_g h hn m hm) ?_
  rintro ⟨x, _⟩ ⟨_, _, _, a1, s1, rfl, hc⟩
  exact MG.ret ⟨a1, s1, rfl, hc⟩

theorem among_g (h : Cur code a n) (hn : n ≤ 90000) (xs : List Int) (hx : xs.length ≤ 1000) (hp : 0 < xs.length) : OG (spec_l1Cur_among.g (xs, code, a, s, ())) fun v => Back code (n + 2) v.2 := by
  show MG (spec_l1Cur_among.T (xs, code, a, s, ())) _
  refine MG.bindo (pick_g h hn _ (by omega)) ?_
  rintro ⟨x, _⟩ ⟨h0, h1, _, a1, s1, rfl, hc⟩
  have h1 := h1 (by omega)
  refine MG.yes (decide_eq_true h0) ?_
  have hi : x.toNat < xs.length := by simp only at h0 h1; omega
  refine MG.bindo (P := fun _ => True) ⟨_, List.getElem?_eq_getElem hi, trivial⟩ ?_
  rintro e -
  exact MG.ret ⟨a1, s1, rfl, hc⟩

theorem hidden_g (h : Cur code a n) (hn : n ≤ 80000) : OG (spec_l1Cur_hidden.g (code, a, s, ())) fun v => Back code (n + 4) v.2.2 := by
  show MG (spec_l1Cur_hidden.T (code, a, s, ())) _
  refine MG.bindo (pick_g h (by omega) 39 (by omega)) ?_
  rintro ⟨x, _⟩ ⟨h0, h1, _, a1, s1, rfl, hc⟩
  have h1 := h1 (by omega)
  simp only at h0 h1
  have hw : W (2 + x) = 2 + x := W_eq (by omega) (by omega)
  refine MG.bindo (pick_g hc (by omega) _ ?_) ?_
  · simp only [hw]
    rw [tdiv_nn (by omega), W_eq (by omega) (by omega)]; omega
  rintro ⟨y, _⟩ ⟨_, _, _, a2, s2, rfl, hc2⟩
  exact MG.ret ⟨a2, s2, rfl, hc2⟩

theorem Cur.up {m : Nat} (h : Cur code a n) (hm : n ≤ m) : Cur code a m := ⟨h.byte, h.len, h.at0, by have := h.atn; omega⟩

theorem clue_g (h : Cur code a n) (hn : n ≤ 70000) : OG (spec_l1Cur_clue.g (code, a, s, ())) fun v => Back code (n + 20) v.2.2.2 := by
  show MG (spec_l1Cur_clue.T (code, a, s, ())) _
  refine MG.bindo (pick_g h (by omega) 6 (by omega)) ?_
  rintro ⟨x1, _⟩ ⟨_, _, _, a1, s1, rfl, c1⟩
  refine MG.bindo (pick_g c1 (by omega) 9 (by omega)) ?_
  rintro ⟨x2, _⟩ ⟨_, _, _, a2, s2, rfl, c2⟩
  refine MG.bindo (pick_g c2 (by omega) 250 (by omega)) ?_
  rintro ⟨x3, _⟩ ⟨_, _, _, a3, s3, rfl, c3⟩
  refine MG.bindo (pick_g c3 (by omega) 9 (by omega)) ?_
  rintro ⟨x4, _⟩ ⟨_, _, _, a4, s4, rfl, c4⟩
  refine MG.ite (fun _ => ?_) (fun _ => MG.ite (fun _ => ?_) (fun _ => MG.ite (fun _ => ?_) (fun _ => MG.ite (fun _ => ?_) (fun _ => ?_))))
  · refine MG.bindo (pick_g c4 (by omega) 11 (by omega)) ?_
    rintro ⟨x5, _⟩ ⟨_, _, _, a5, s5, rfl, c5⟩
    refine MG.bindo (pick_g c5 (by omega) 16 (by omega)) ?_
    rintro ⟨x6, _⟩ ⟨_, _, _, a6, s6, rfl, c6⟩
    refine MG.bindo (one_g c6 (by omega) 14 (by omega)) ?_
    rintro ⟨x7, _⟩ ⟨a7, s7, rfl, c7⟩
    refine MG.ite (fun _ => ?_) (fun _ => MG.ret ⟨_, _, rfl, c7.up (by omega)⟩)
    refine MG.bindo (pick_g c7 (by omega) 3 (by omega)) ?_
    rintro ⟨x8, _⟩ ⟨_, _, _, a8, s8, rfl, c8⟩
    exact MG.ret ⟨_, _, rfl, c8.up (by omega)⟩
  · refine MG.bindo (pick_g c4 (by omega) 22 (by omega)) ?_
    rintro ⟨x5, _⟩ ⟨_, _, _, a5, s5, rfl, c5⟩
    refine MG.bindo (pick_g c5 (by omega) 3 (by omega)) ?_
    rintro ⟨x6, _⟩ ⟨_, _, _, a6, s6, rfl, c6⟩
    refine MG.bindo (one_g c6 (by omega) 14 (by omega)) ?_
    rintro ⟨x7, _⟩ ⟨a7, s7, rfl, c7⟩
    refine MG.ite (fun _ => ?_) (fun _ => MG.ret ⟨_, _, rfl, c7.up (by omega)⟩)
    refine MG.bindo (pick_g c7 (by omega) 3 (by omega)) ?_
    rintro ⟨x8, _⟩ ⟨_, _, _, a8, s8, rfl, c8⟩
    exact MG.ret ⟨_, _, rfl, c8.up (by omega)⟩
  · refine MG.bindo (pick_g c4 (by omega) 10 (by omega)) ?_
    rintro ⟨x5, _⟩ ⟨_, _, _, a5, s5, rfl, c5⟩
    refine MG.bindo (pick_g c5 (by omega) 3 (by omega)) ?_
    rintro ⟨x6, _⟩ ⟨_, _, _, a6, s6, rfl, c6⟩
    refine MG.bindo (one_g c6 (by omega) 14 (by omega)) ?_
    rintro ⟨x7, _⟩ ⟨a7, s7, rfl, c7⟩
    refine MG.ite (fun _ => ?_) (fun _ => MG.ret ⟨_, _, rfl, c7.up (by omega)⟩)
    refine MG.bindo (pick_g c7 (by omega) 3 (by omega)) ?_
    rintro ⟨x8, _⟩ ⟨_, _, _, a8, s8, rfl, c8⟩
    exact MG.ret ⟨_, _, rfl, c8.up (by omega)⟩
  · refine MG.bindo (pick_g c4 (by omega) 21 (by omega)) ?_
    rintro ⟨x5, _⟩ ⟨_, _, _, a5, s5, rfl, c5⟩
    refine MG.bindo (one_g c5 (by omega) 14 (by omega)) ?_
    rintro ⟨x7, _⟩ ⟨a7, s7, rfl, c7⟩
    refine MG.ite (fun _ => ?_) (fun _ => MG.ret ⟨_, _, rfl, c7.up (by omega)⟩)
    refine MG.bindo (pick_g c7 (by omega) 3 (by omega)) ?_
    rintro ⟨x8, _⟩ ⟨_, _, _, a8, s8, rfl, c8⟩
    exact MG.ret ⟨_, _, rfl, c8.up (by omega)⟩
  · refine MG.bindo (one_g c4 (by omega) 14 (by omega)) ?_
    rintro ⟨x7, _⟩ ⟨a7, s7, rfl, c7⟩
    refine MG.ite (fun _ => ?_) (fun _ => MG.ret ⟨_, _, rfl, c7.up (by omega)⟩)
    refine MG.bindo (pick_g c7 (by omega) 3 (by omega)) ?_
    rintro ⟨x8, _⟩ ⟨_, _, _, a8, s8, rfl, c8⟩
    exact MG.ret ⟨_, _, rfl, c8.up (by omega)⟩

theorem made_og (h0 h1 c z : Int) : OG (spec_MakePuzzle.g (h0, h1, c, z, ())) fun v => ∃ xs b, v = (b, xs, ()) ∧ xs.length ≤ 6 ∧ (b = true → xs.length = c.toNat) := by
  refine ⟨_, made_spec h0 h1 c z, _, _, rfl, made_length h0 h1 c z, fun hb => ?_⟩
  unfold made at hb ⊢
  split
  · rw [mk_length]
  · rename_i hf; rw [if_neg hf] at hb; cases hb

end
end Go.Proofs.YtfgkcnoiplojkaaDoor.VI
