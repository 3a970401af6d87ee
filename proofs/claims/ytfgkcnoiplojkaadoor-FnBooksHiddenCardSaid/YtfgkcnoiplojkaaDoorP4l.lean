/- FnBooksHidden answers true, plainly. -/
import Derived.Test.YtfgkcnoiplojkaaDoorP4k
set_option linter.unusedSectionVars false
set_option linter.unusedSimpArgs false
set_option linter.unusedVariables false
namespace Go.Proofs.YtfgkcnoiplojkaaDoor.VI
open Go

theorem j33 {more : List Int} (q C : List Clue) (hok : okPz C = true) (hl : C.length ≤ q.length) (hq : q.length ≤ 8) (hs : sols C = sols q) (hn : ∀ j, j < C.length → (sols (del C j)).length ≠ (sols C).length) (k : Nat) (hk : 0 < k) :
    OG (laws_FnBooksHidden.L33j k (more, sols q, true, sols C, true, q, C, ())) (fun v => v = .inr (more, ())) := by
  obtain ⟨m, rfl, hk⟩ := succ_of hk
  show MG (laws_FnBooksHidden.T33j (more, sols q, true, sols C, true, q, C, ())) _
  refine MG.bindo (OG.eq (needless_g C hok hn)) ?_
  rintro _ rfl
  refine MG.no rfl (MG.no rfl (MG.bindo (P := Yes) (OG.eq ?_) ?_))
  · rw [hs]; exact xBooks_g _ (by have := sols_length q; omega)
  rintro _ rfl
  refine MG.no rfl (MG.no rfl (MG.no rfl (MG.no (decide_eq_false (by omega)) (MG.ret rfl))))

theorem solutions_of {xs : List Clue} (hx : xs.length ≤ 1000) (h : okPz xs = true) : impl_Solutions.g (xs, ()) = some (sols xs, true, ()) := by
  rw [Solutions_impl xs hx, h]; rfl

section
variable {more : List Int} (hm : Cur more 0 0) (q : List Clue) (hq : q.length ≤ 8)
include hm hq

theorem harder_cases : ((harder q).2 = true ∧ okPz q = true ∧ solved q = true) ∨ ((harder q).2 = false ∧ (okPz q && solved q) = false) := by
  unfold harder
  cases h : okPz q && solved q with
  | true =>
    left
    simp only [Bool.and_eq_true] at h
    exact ⟨rfl, h.1, h.2⟩
  | false => exact .inr ⟨rfl, rfl⟩

theorem harder_len : (harder q).1.length ≤ 1000 := by
  rcases harder_cases hm q hq with ⟨_, h1, h2⟩ | ⟨_, h⟩
  · obtain ⟨C, e, _, hl, _⟩ := harder_law h1 h2
    rw [e]; show C.length ≤ 1000; omega
  · unfold harder; rw [h]; simp

theorem j30 (k : Nat) (hk : 9 < k) : OG (laws_FnBooksHidden.L30j k (more, (harder q).2, q, (harder q).1, ())) Yes := by
  obtain ⟨m, rfl, hk⟩ := succ_of hk
  show MG (laws_FnBooksHidden.T30j (laws_FnBooksHidden.L33j m) (laws_FnBooksHidden.L36j m) (more, (harder q).2, q, (harder q).1, ())) _
  refine MG.ite (fun h => ?_) (fun _ => MG.ofO (j36 hm m (by omega)))
  rcases harder_cases hm q hq with ⟨_, h1, h2⟩ | ⟨h3, _⟩
  · obtain ⟨C, e, hok, hl, hs, hn⟩ := harder_law h1 h2
    rw [e]
    refine MG.bindo (OG.eq (solutions_of (by omega) h1)) ?_
    rintro _ rfl
    refine MG.bindo (OG.eq (solutions_of (by show C.length ≤ 1000; omega) hok)) ?_
    rintro _ rfl
    refine MG.bindo (j33 q C hok hl hq hs (fun j hj => ?_) m (by omega)) ?_
    · have := hn j hj
      rw [solved_iff] at h2
      rw [hs, h2]
      intro e2
      rw [(solved_iff _).2 e2] at this
      cases this
    rintro _ rfl
    exact MG.inr (MG.ofO (j36 hm m (by omega)))
  · rw [h3] at h; cases h

theorem j27 (k : Nat) (hk : 10 < k) : OG (laws_FnBooksHidden.L27j k (more, (harder q).2, (harder q).2, q, (harder q).1, (harder q).1, ())) Yes := by
  obtain ⟨m, rfl, hk⟩ := succ_of hk
  show MG (laws_FnBooksHidden.T27j (laws_FnBooksHidden.L30j m) (more, (harder q).2, (harder q).2, q, (harder q).1, (harder q).1, ())) _
  refine MG.bindo (OG.eq (IsSolved_impl q (by omega))) ?_
  rintro _ rfl
  have h30 := j30 hm q hq m (by omega)
  have hl := harder_len hm q hq
  rcases harder_cases hm q hq with ⟨h3, h1, h2⟩ | ⟨h3, h⟩
  · rw [h1]
    show MG (M.ite (!((harder q).2 == (harder q).2)) _ _) _
    refine MG.no (same_no _) (MG.bindo (xP _ hl) ?_)
    rintro _ rfl
    refine MG.no rfl (MG.yes rfl (MG.no ?_ (MG.ofO h30)))
    show (!((harder q).2 == solved q)) = false
    rw [h3, h2]; rfl
  · cases ho : okPz q with
    | true =>
      rw [ho] at h
      show MG (M.ite (!((harder q).2 == (harder q).2)) _ _) _
      refine MG.no (same_no _) (MG.bindo (xP _ hl) ?_)
      rintro _ rfl
      refine MG.no rfl (MG.yes rfl (MG.no ?_ (MG.ofO h30)))
      show (!((harder q).2 == solved q)) = false
      rw [h3, show solved q = false from h]; rfl
    | false =>
      show MG (M.ite (!((harder q).2 == (harder q).2)) _ _) _
      refine MG.no (same_no _) (MG.bindo (xP _ hl) ?_)
      rintro _ rfl
      refine MG.no rfl (MG.no rfl (MG.no ?_ (MG.ofO h30)))
      show (!((harder q).2 == false)) = false
      rw [h3]; rfl

theorem j25 (k : Nat) (hk : 11 < k) : OG (laws_FnBooksHidden.L25j k (more, q, ())) Yes := by
  obtain ⟨m, rfl, hk⟩ := succ_of hk
  show MG (laws_FnBooksHidden.T25j (laws_FnBooksHidden.L27j m) (more, q, ())) _
  refine MG.bindo (OG.eq (HarderPuzzle_impl q (by omega))) ?_
  rintro _ rfl
  refine MG.bindo (OG.eq (HarderPuzzle_spec q (by omega))) ?_
  rintro _ rfl
  exact MG.ofO (j27 hm q hq m (by omega))
end

theorem j24 {more : List Int} (hm : Cur more 0 0) (k : Nat) (hk : 12 < k) : OG (laws_FnBooksHidden.L24j k (more, ())) Yes := by
  obtain ⟨m, rfl, hk⟩ := succ_of hk
  show MG (laws_FnBooksHidden.T24j (laws_FnBooksHidden.L25j m) (more, ())) _
  refine MG.bindo (DrawHarderPuzzle_g hm) ?_
  rintro ⟨q, _⟩ hq
  exact MG.ofO (j25 hm q hq m (by omega))

theorem l18 (more : List Int) (h0 h1 : Int) (xs : List Clue) (hx : xs.length ≤ 1000) (hf : ∀ x ∈ xs, does x h0 h1 = (true, true)) : ∀ (d i k : Nat), i + d = xs.length → d + 1 < k →
    OG (laws_FnBooksHidden.L18 k (more, (xs.length : Int), (i : Int), h0, h1, xs, ())) (fun v => v = .inr (more, ())) := by
  intro d
  induction d with
  | zero =>
    intro i k hi hk
    obtain ⟨m, rfl, hk⟩ := succ_of hk
    show MG (laws_FnBooksHidden.T18 (laws_FnBooksHidden.L21j m) (laws_FnBooksHidden.L18 m) (more, (xs.length : Int), (i : Int), h0, h1, xs, ())) _
    exact MG.no (decide_eq_false (by omega)) (MG.ret rfl)
  | succ d ih =>
    intro i k hi hk
    obtain ⟨m, rfl, hk⟩ := succ_of hk
    show MG (laws_FnBooksHidden.T18 (laws_FnBooksHidden.L21j m) (laws_FnBooksHidden.L18 m) (more, (xs.length : Int), (i : Int), h0, h1, xs, ())) _
    have hlt : i < xs.length := by omega
    refine MG.yes (decide_eq_true (by omega)) (MG.yes (by simp [inside]; omega) ?_)
    refine MG.bindo (P := fun e => e = xs[i]) (OG.eq ?_) ?_
    · rw [Int.toNat_natCast]; exact List.getElem?_eq_getElem hlt
    rintro _ rfl
    refine MG.bindo (P := fun v => v = (true, true, ())) (OG.eq ?_) ?_
    · rw [DoesFit_impl, hf _ (List.getElem_mem hlt)]
    rintro _ rfl
    refine MG.bindo (P := fun v => v = .inr (more, (xs.length : Int), (i : Int), h0, h1, xs, ())) (OG.eq ?_) ?_
    · obtain ⟨m2, rfl, _⟩ := succ_of (show 0 < m by omega)
      rfl
    rintro _ rfl
    refine MG.inr (MG.ofO ?_)
    rw [next_i (show i ≤ 100000 by omega)]
    exact ih (i + 1) m (by omega) (by omega)

section
variable {more : List Int} {p l : Nat} (hp : 2 ≤ p) (hp2 : p ≤ 40) (h1 : 1 ≤ l) (hl : 2 * l ≤ p) (xs : List Clue) (hok : okPz xs = true) (hf : ∀ x ∈ xs, does x (p : Int) (l : Int) = (true, true))
include hp hp2 h1 hl hok hf

theorem pz_len : xs.length ≤ 6 := by simp only [okPz, Bool.and_eq_true, decide_eq_true_eq] at hok; exact hok.1

theorem j17 (k : Nat) (hk : 20 < k) : OG (laws_FnBooksHidden.L17j k (more, (p : Int), (l : Int), xs, ())) (fun v => v = .inr (more, ())) := by
  obtain ⟨m, rfl, hk⟩ := succ_of hk
  have h6 := pz_len hp hp2 h1 hl xs hok hf
  show MG (laws_FnBooksHidden.T17j (laws_FnBooksHidden.L18 m) (more, (p : Int), (l : Int), xs, ())) _
  refine MG.bindo (l18 more (p : Int) (l : Int) xs (by omega) hf xs.length 0 m (by omega) (by omega)) ?_
  rintro _ rfl
  exact MG.inr (MG.ret rfl)

theorem j15 (k : Nat) (hk : 21 < k) : OG (laws_FnBooksHidden.L15j k (more, (xs.length : Int), true, true, true, true, true, true, (l : Int), true, true, true, (p : Int), (l : Int), xs, ())) (fun v => v = .inr (more, ())) := by
  obtain ⟨m, rfl, hk⟩ := succ_of hk
  have h6 := pz_len hp hp2 h1 hl xs hok hf
  show MG (laws_FnBooksHidden.T15j (laws_FnBooksHidden.L17j m) (more, (xs.length : Int), true, true, true, true, true, true, (l : Int), true, true, true, (p : Int), (l : Int), xs, ())) _
  refine MG.bindo (OG.eq (isPuzzle_impl xs (by omega))) ?_
  rintro _ rfl
  refine MG.no (by rw [hok]; rfl) (MG.no (by simp) (MG.no rfl (MG.no rfl (MG.no rfl (MG.no rfl (MG.no rfl (MG.no rfl (MG.no rfl (MG.no (by simp) (MG.no rfl (MG.no rfl (MG.bindo (j17 hp hp2 h1 hl xs hok hf m (by omega)) ?_))))))))))))
  rintro _ rfl
  exact MG.inr (MG.ret rfl)

theorem j13 (k : Nat) (hk : 22 < k) : OG (laws_FnBooksHidden.L13j k (more, (xs.length : Int), ((p * (p + 1) / 2 : Nat) : Int), true, 4 * (l : Int) - 1, true, true, true, true, true, (p : Int), (l : Int), xs, ())) (fun v => v = .inr (more, ())) := by
  obtain ⟨m, rfl, hk⟩ := succ_of hk
  show MG (laws_FnBooksHidden.T13j (laws_FnBooksHidden.L15j m) (more, (xs.length : Int), ((p * (p + 1) / 2 : Nat) : Int), true, 4 * (l : Int) - 1, true, true, true, true, true, (p : Int), (l : Int), xs, ())) _
  refine MG.bindo (P := fun v => v = ((l : Int), true, ())) (OG.eq ?_) ?_
  · rw [rest_eq hp hp2 h1 hl, TornLeaf_g hp hp2 h1 hl]
  rintro _ rfl
  refine MG.bindo (P := fun v => v = (true, true, ())) (OG.eq ?_) ?_
  · have := DoesFit_impl (3, (l : Int), 1) (p : Int) (l : Int)
    rw [fit3 hp hp2 h1 hl] at this
    exact this
  rintro _ rfl
  refine MG.bindo (j15 hp hp2 h1 hl xs hok hf m (by omega)) ?_
  rintro _ rfl
  exact MG.inr (MG.ret rfl)

theorem j11 (k : Nat) (hk : 23 < k) : OG (laws_FnBooksHidden.L11j k (more, (xs.length : Int), ((p * (p + 1) / 2 : Nat) : Int), true, 4 * (l : Int) - 1, true, (p : Int), (l : Int), xs, ())) (fun v => v = .inr (more, ())) := by
  obtain ⟨m, rfl, hk⟩ := succ_of hk
  show MG (laws_FnBooksHidden.T11j (laws_FnBooksHidden.L13j m) (more, (xs.length : Int), ((p * (p + 1) / 2 : Nat) : Int), true, 4 * (l : Int) - 1, true, (p : Int), (l : Int), xs, ())) _
  refine MG.bindo (P := fun v => v = (true, true, ())) (OG.eq ?_) ?_
  · rw [rest_eq hp hp2 h1 hl]
    have := DoesFit_impl (0, 0, ((tsum (adds 0 0 l) 0 p : Nat) : Int)) (p : Int) (l : Int)
    rw [fit0 hp hp2 h1 hl] at this
    exact this
  rintro _ rfl
  refine MG.bindo (P := fun v => v = (true, true, ())) (OG.eq ?_) ?_
  · have := DoesFit_impl (5, 0, 4 * (l : Int) - 1) (p : Int) (l : Int)
    rw [fit5 hp hp2 h1 hl] at this
    exact this
  rintro _ rfl
  refine MG.bindo (j13 hp hp2 h1 hl xs hok hf m (by omega)) ?_
  rintro _ rfl
  exact MG.inr (MG.ret rfl)
end

theorem j8 {more : List Int} (hm : Cur more 0 0) (h0 h1 c z : Int) (k : Nat) (hk : 24 < k) : OG (laws_FnBooksHidden.L8j k (more, c, (made h0 h1 c z).2, h0, h1, (made h0 h1 c z).1, ())) (fun v => v = .inr (true, ())) := by
  obtain ⟨m, rfl, hk⟩ := succ_of hk
  show MG (laws_FnBooksHidden.T8j (laws_FnBooksHidden.L11j m) (laws_FnBooksHidden.L24j m) (more, c, (made h0 h1 c z).2, h0, h1, (made h0 h1 c z).1, ())) _
  refine MG.ite (fun hmade => ?_) (fun _ => ?_)
  · obtain ⟨hb, hlen, hok, hfit⟩ := made_facts hmade
    obtain ⟨p, l, rfl, rfl, hp2, hp, hl1, hl⟩ := book_nat hb
    refine MG.bindo (OG.eq (SumOfPages_g hp hp2 hl1 hl)) ?_
    rintro _ rfl
    refine MG.bindo (OG.eq (SumOfLeaf_g hp hp2 hl1 hl)) ?_
    rintro _ rfl
    have h11 := j11 (more := more) hp hp2 hl1 hl (made (p : Int) (l : Int) c z).1 hok (fun x hx => does_pair hp hp2 hl1 hl (hfit x hx).1 (by have := (hfit x hx).2; rwa [Int.toNat_natCast, Int.toNat_natCast] at this)) m (by omega)
    rw [hlen] at h11
    refine MG.bindo h11 ?_
    rintro _ rfl
    refine MG.inr (MG.bindo (j24 hm m (by omega)) ?_)
    rintro _ rfl
    exact MG.ret rfl
  · refine MG.bindo (j24 hm m (by omega)) ?_
    rintro _ rfl
    exact MG.ret rfl

theorem j6 {more : List Int} (hm : Cur more 0 0) (h0 h1 c z : Int) (k : Nat) (hk : 25 < k) : OG (laws_FnBooksHidden.L6j k (more, c, (made h0 h1 c z).2, (made h0 h1 c z).2, h0, h1, (made h0 h1 c z).1, (made h0 h1 c z).1, ())) (fun v => v = .inr (true, ())) := by
  obtain ⟨m, rfl, hk⟩ := succ_of hk
  show MG (laws_FnBooksHidden.T6j (laws_FnBooksHidden.L8j m) (more, c, (made h0 h1 c z).2, (made h0 h1 c z).2, h0, h1, (made h0 h1 c z).1, (made h0 h1 c z).1, ())) _
  have hl := made_length h0 h1 c z
  have h8 := j8 hm h0 h1 c z m (by omega)
  refine MG.no (same_no _) (MG.bindo (xP _ (by omega)) ?_)
  rintro _ rfl
  refine MG.no rfl (MG.ite (fun hmade => ?_) (fun _ => ?_))
  · obtain ⟨hb, _⟩ := made_facts hmade
    refine MG.bindo (OG.eq (book_impl h0 h1)) ?_
    rintro _ rfl
    refine MG.no ?_ (MG.bindo (OG.eq (book_impl h0 h1)) ?_)
    · show (!(book h0 h1)) = false
      rw [hb]; rfl
    rintro _ rfl
    refine MG.bindo (OG.eq (book_law h0 h1)) ?_
    rintro _ rfl
    refine MG.no (same_no _) (MG.bindo h8 ?_)
    rintro _ rfl
    exact MG.inr (MG.ret rfl)
  · refine MG.bindo (OG.eq (book_impl h0 h1)) ?_
    rintro _ rfl
    refine MG.bindo (OG.eq (book_law h0 h1)) ?_
    rintro _ rfl
    refine MG.no (same_no _) (MG.bindo h8 ?_)
    rintro _ rfl
    exact MG.inr (MG.ret rfl)

theorem j4 {more : List Int} (hm : Cur more 0 0) (h0 h1 c z : Int) (k : Nat) (hk : 26 < k) : OG (laws_FnBooksHidden.L4j k (more, c, z, h0, h1, ())) (fun v => v = .inr (true, ())) := by
  obtain ⟨m, rfl, hk⟩ := succ_of hk
  show MG (laws_FnBooksHidden.T4j (laws_FnBooksHidden.L6j m) (more, c, z, h0, h1, ())) _
  refine MG.bindo (OG.eq (made_impl h0 h1 c z)) ?_
  rintro _ rfl
  refine MG.bindo (OG.eq (made_spec h0 h1 c z)) ?_
  rintro _ rfl
  refine MG.bindo (j6 hm h0 h1 c z m (by omega)) ?_
  rintro _ rfl
  exact MG.inr (MG.ret rfl)

theorem law4 (code more : List Int) (hc : ∀ b ∈ code, 0 ≤ b ∧ b < 256) (hm : ∀ b ∈ more, 0 ≤ b ∧ b < 256) : laws_FnBooksHidden.g (code, more, ()) = some (true, ()) := by
  have h : MG (laws_FnBooksHidden.T (laws_FnBooksHidden.L4j fuel) (code, more, ())) Yes := by
    have hbig : OG (laws_big.g (code, more, ())) (fun v => ∃ b, v = (b, ()) ∧ (b = false → code.length ≤ 1048576 ∧ more.length ≤ 1048576)) := by
      show MG (laws_big.T (code, more, ())) _
      refine MG.ite (fun _ => MG.ret ⟨_, rfl, fun e => by cases e⟩) (fun h => MG.ret ⟨_, rfl, fun e => ?_⟩)
      have h := of_decide_eq_false h
      have e := of_decide_eq_false e
      rw [W_eq (by omega) (by omega)] at e
      omega
    refine MG.bindo hbig ?_
    rintro _ ⟨b, rfl, hb⟩
    refine MG.ite (fun _ => MG.ret rfl) (fun hf => ?_)
    obtain ⟨h1, h2⟩ := hb hf
    refine MG.bindo (DrawMakePuzzle_g (code := code) ⟨hc, h1, by omega, by omega⟩) ?_
    rintro ⟨x0, x1, x2, x3, _⟩ -
    refine MG.bindo (j4 (more := more) ⟨hm, h2, by omega, by omega⟩ x0 x1 x2 x3 fuel (by have := fuel_big; omega)) ?_
    rintro _ rfl
    exact MG.inr (MG.ret rfl)
  obtain ⟨v, h, rfl⟩ := h
  exact h

end Go.Proofs.YtfgkcnoiplojkaaDoor.VI
