/- FnBooksHidden answers true, plainly: from its end to its middle. -/
import Derived.Test.YtfgkcnoiplojkaaDoorP4j
import Derived.Test.YtfgkcnoiplojkaaDoorG5
set_option linter.unusedSimpArgs false
set_option linter.unusedVariables false
namespace Go.Proofs.YtfgkcnoiplojkaaDoor.VI
open Go

abbrev Yes (v : Bool × Unit) : Prop := v = (true, ())

theorem OG.eq {α : Type} {o : Option α} {a : α} (h : o = some a) : OG o (fun v => v = a) := ⟨a, h, rfl⟩
theorem MG.inr {α γ δ : Type} {b : δ} {f : γ → M α} {g : δ → M α} {Q : α → Prop} (h : MG (g b) Q) : MG (M.sum (.inr b) f g) Q := by
  obtain ⟨a, h, q⟩ := h
  exact ⟨a, by rw [M.opt_sum]; exact h, q⟩
theorem same_no {α : Type} [BEq α] [LawfulBEq α] (x : α) : (!(x == x)) = false := by simp
theorem succ_of {k n : Nat} (h : n < k) : ∃ m, k = m + 1 ∧ n ≤ m := ⟨k - 1, by omega, by omega⟩

theorem xP (xs : List Clue) (h : xs.length ≤ 1000) : OG (laws_xPuzzle.g (xs, xs, ())) Yes := OG.eq (xPuzzle_g xs h)

theorem added_len (xs : List Clue) (c : Clue) : (added xs c).1.length ≤ xs.length + 1 := by
  unfold added
  cases okPz xs && (okClue c && !((xs.length : Int) == 6)) <;> simp

theorem dropped_len (xs : List Clue) (k : Int) : (dropped xs k).1.length ≤ xs.length := by
  unfold dropped
  cases okPz xs && inR k 0 ((xs.length : Int) - 1) <;> simp [del] <;> omega

theorem added_yes {xs : List Clue} {c : Clue} (h : (added xs c).2 = true) : (added xs c).1 = xs ++ [c] ∧ okPz (xs ++ [c]) = true := by
  unfold added at h ⊢
  cases hb : okPz xs && (okClue c && !((xs.length : Int) == 6)) with
  | false => rw [hb] at h; cases h
  | true =>
    refine ⟨rfl, ?_⟩
    simp only [Bool.and_eq_true, okPz, decide_eq_true_eq, Bool.not_eq_true', beq_eq_false_iff_ne] at hb ⊢
    obtain ⟨⟨h1, h2⟩, h3, h4⟩ := hb
    exact ⟨by simp; omega, by rw [List.all_append, h2]; simp [h3]⟩

theorem drop_added {xs : List Clue} {c : Clue} (h : (added xs c).2 = true) : dropped (added xs c).1 (xs.length : Int) = (xs, true) := by
  obtain ⟨e, hok⟩ := added_yes h
  rw [e]
  unfold dropped
  rw [hok, inR_iff.2 (by simp <;> omega)]
  show (del (xs ++ [c]) (Int.toNat (xs.length : Int)), true) = _
  rw [Int.toNat_natCast, del_here]
  simp

theorem dropped_yes {xs : List Clue} {k : Int} (h : (dropped xs k).2 = true) : (dropped xs k).1 = del xs k.toNat ∧ okPz xs = true ∧ 0 ≤ k ∧ k ≤ (xs.length : Int) - 1 := by
  unfold dropped at h ⊢
  cases hb : okPz xs && inR k 0 ((xs.length : Int) - 1) with
  | false => rw [hb] at h; cases h
  | true =>
    simp only [Bool.and_eq_true, inR_iff] at hb
    exact ⟨rfl, hb.1, hb.2.1, hb.2.2⟩

theorem add_dropped {xs : List Clue} {k : Nat} (hok : okPz xs = true) (hk : k + 1 = xs.length) : added (del xs k) (xs[k]'(by omega)) = (xs, true) := by
  simp only [okPz, Bool.and_eq_true, decide_eq_true_eq] at hok
  have hd : del xs k = xs.take k := by unfold del; rw [List.drop_eq_nil_of_le (by omega)]; simp
  have hc : okClue (xs[k]'(by omega)) = true := List.all_eq_true.1 hok.2 _ (List.getElem_mem _)
  have h2 : okPz (del xs k) = true := by
    simp only [okPz, Bool.and_eq_true, decide_eq_true_eq]
    exact ⟨by rw [del_length (by omega)]; omega, del_ok hok.2⟩
  have h3 : (((del xs k).length : Int) == 6) = false := beq_eq_false_iff_ne.2 (by rw [del_length (by omega)]; omega)
  unfold added
  rw [h2, hc, h3]
  show (del xs k ++ [xs[k]'(by omega)], true) = _
  rw [hd, List.take_append_getElem]
  rw [List.take_of_length_le (by omega)]

theorem j55 (k : Nat) (hk : 0 < k) (xs : List Clue) (hx : xs.length ≤ 1000) : OG (laws_FnBooksHidden.L55j k (true, xs, xs, ())) Yes := by
  obtain ⟨m, rfl, _⟩ := succ_of hk
  show MG (laws_FnBooksHidden.T55j (true, xs, xs, ())) _
  exact MG.yes rfl (MG.ofO (xP xs hx))

theorem j53 (k : Nat) (hk : 1 < k) (s : List Clue) (hs : s.length ≤ 8) (kk : Int) : OG (laws_FnBooksHidden.L53j k (kk, (dropped s kk).2, s, (dropped s kk).1, ())) Yes := by
  obtain ⟨m, rfl, hm⟩ := succ_of hk
  show MG (laws_FnBooksHidden.T53j (laws_FnBooksHidden.L55j m) (kk, (dropped s kk).2, s, (dropped s kk).1, ())) _
  refine MG.ite (fun h6 => ?_) (fun _ => MG.ret rfl)
  obtain ⟨e1, hok, h0, h1⟩ := dropped_yes h6
  refine MG.ite (fun hk1 => ?_) (fun _ => MG.ret rfl)
  have hk1 := eq_of_beq hk1
  rw [W_eq (by omega) (by omega)] at hk1
  refine MG.yes (decide_eq_true h0) ?_
  have hlt : kk.toNat < s.length := by omega
  refine MG.bindo (P := fun e => e = s[kk.toNat]) ⟨_, List.getElem?_eq_getElem hlt, rfl⟩ ?_
  rintro _ rfl
  refine MG.bindo (P := fun v => v = (s, true, ())) (OG.eq ?_) ?_
  · rw [AddClue_impl _ _ (by have := dropped_len s kk; omega), e1, add_dropped hok (by omega)]
  rintro _ rfl
  exact MG.ofO (j55 m (by omega) s (by omega))

theorem j51 (k : Nat) (hk : 0 < k) (r : List Clue) (hr : r.length ≤ 8) (c : Clue) (kk : Int) (six : Bool) (b3 b4 : List Clue) :
    OG (laws_FnBooksHidden.L51j k (kk, six, true, r, c.1, c.2.1, c.2.2, r ++ [c], b3, b4, r, ())) (fun v => v = .inr (kk, six, b3, b4, ())) := by
  obtain ⟨m, rfl, hm⟩ := succ_of hk
  show MG (laws_FnBooksHidden.T51j (kk, six, true, r, c.1, c.2.1, c.2.2, r ++ [c], b3, b4, r, ())) _
  refine MG.no rfl (MG.bindo (xP r (by omega)) ?_)
  rintro _ rfl
  refine MG.no rfl ?_
  refine MG.bindo (P := fun e => e = c) (OG.eq ?_) ?_
  · rw [Int.toNat_natCast]; simp
  rintro _ rfl
  refine MG.no ?_ (MG.ret rfl)
  rw [eqInts3]; rfl

theorem j49 (k : Nat) (hk : 2 < k) (r s : List Clue) (hr : r.length ≤ 8) (hs : s.length ≤ 8) (c : Clue) (kk : Int) :
    OG (laws_FnBooksHidden.L49j k ((added r c).2, kk, (dropped s kk).2, r, c.1, c.2.1, c.2.2, (added r c).1, s, (dropped s kk).1, ())) Yes := by
  obtain ⟨m, rfl, hm⟩ := succ_of hk
  show MG (laws_FnBooksHidden.T49j (laws_FnBooksHidden.L51j m) (laws_FnBooksHidden.L53j m) ((added r c).2, kk, (dropped s kk).2, r, c.1, c.2.1, c.2.2, (added r c).1, s, (dropped s kk).1, ())) _
  refine MG.ite (fun h4 => ?_) (fun _ => MG.ofO (j53 m (by omega) s hs kk))
  refine MG.bindo (P := fun v => v = (r, true, ())) (OG.eq ?_) ?_
  · rw [DropClue_impl _ _ (by have := added_len r c; omega), drop_added h4]
  rintro _ rfl
  have h51 := j51 m (by omega) r hr c kk (dropped s kk).2 s (dropped s kk).1
  rw [← (added_yes h4).1] at h51
  refine MG.bindo h51 ?_
  rintro _ rfl
  exact MG.inr (MG.ofO (j53 m (by omega) s hs kk))

theorem book_law (h0 h1 : Int) : spec_IsHidden.g (h0, h1, ()) = some (book h0 h1, ()) := by
  show (spec_IsHidden.T _).opt = _
  simp only [spec_IsHidden.T, M.opt_ofO, book_spec]; rfl

theorem does_clue {d : Clue} {h0 h1 : Int} (h : (does d h0 h1).2 = true) : okClue d = true := by
  unfold does at h
  cases hc : okClue d with
  | true => rfl
  | false => rw [hc] at h; cases h

section
variable {more : List Int} (hm : Cur more 0 0) (r s : List Clue) (hr : r.length ≤ 8)
include hm hr

theorem j46 (hs : s.length ≤ 8) (c : Clue) (kk : Int) (d e : Clue) (h0 h1 : Int) (k : Nat) (hk : 3 < k) :
    OG (laws_FnBooksHidden.L46j k (more, (added r c).2, (added r c).2, kk, (dropped s kk).2, (dropped s kk).2, (does d h0 h1).1, (does d h0 h1).2, (does d h0 h1).1, (does d h0 h1).2, r, c.1, c.2.1, c.2.2, (added r c).1, (added r c).1, s, (dropped s kk).1, (dropped s kk).1, d.1, d.2.1, d.2.2, e.1, e.2.1, e.2.2, ())) Yes := by
  obtain ⟨m, rfl, hk⟩ := succ_of hk
  show MG (laws_FnBooksHidden.T46j (laws_FnBooksHidden.L49j m) (more, (added r c).2, (added r c).2, kk, (dropped s kk).2, (dropped s kk).2, (does d h0 h1).1, (does d h0 h1).2, (does d h0 h1).1, (does d h0 h1).2, r, c.1, c.2.1, c.2.2, (added r c).1, (added r c).1, s, (dropped s kk).1, (dropped s kk).1, d.1, d.2.1, d.2.2, e.1, e.2.1, e.2.2, ())) _
  refine MG.bindo (DrawIsHidden_g hm) ?_
  rintro ⟨x0, x1, _⟩ -
  refine MG.no (same_no _) (MG.bindo (xP _ (by have := added_len r c; omega)) ?_)
  rintro _ rfl
  refine MG.no rfl (MG.no (same_no _) (MG.bindo (xP _ (by have := dropped_len s kk; omega)) ?_))
  rintro _ rfl
  refine MG.no rfl (MG.no (same_no _) (MG.no (same_no _) (MG.bindo (OG.eq (isClue_impl e)) ?_)))
  rintro _ rfl
  refine MG.bindo (OG.eq (isClue_law e)) ?_
  rintro _ rfl
  refine MG.no (same_no _) (MG.ite (fun h8 => ?_) (fun _ => ?_))
  · refine MG.bindo (OG.eq (isClue_impl d)) ?_
    rintro _ rfl
    refine MG.no (by rw [does_clue h8]; rfl) (MG.bindo (OG.eq (book_impl x0 x1)) ?_)
    rintro _ rfl
    refine MG.bindo (OG.eq (book_law x0 x1)) ?_
    rintro _ rfl
    exact MG.no (same_no _) (MG.ofO (j49 m (by omega) r s hr hs c kk))
  · refine MG.bindo (OG.eq (book_impl x0 x1)) ?_
    rintro _ rfl
    refine MG.bindo (OG.eq (book_law x0 x1)) ?_
    rintro _ rfl
    exact MG.no (same_no _) (MG.ofO (j49 m (by omega) r s hr hs c kk))

theorem j44 (hs : s.length ≤ 8) (c : Clue) (kk : Int) (d : Clue) (h0 h1 : Int) (k : Nat) (hk : 4 < k) :
    OG (laws_FnBooksHidden.L44j k (more, (added r c).2, (added r c).2, kk, (dropped s kk).2, (dropped s kk).2, (does d h0 h1).1, (does d h0 h1).2, r, c.1, c.2.1, c.2.2, (added r c).1, (added r c).1, s, (dropped s kk).1, (dropped s kk).1, d.1, d.2.1, d.2.2, h0, h1, ())) Yes := by
  obtain ⟨m, rfl, hk⟩ := succ_of hk
  show MG (laws_FnBooksHidden.T44j (laws_FnBooksHidden.L46j m) (more, (added r c).2, (added r c).2, kk, (dropped s kk).2, (dropped s kk).2, (does d h0 h1).1, (does d h0 h1).2, r, c.1, c.2.1, c.2.2, (added r c).1, (added r c).1, s, (dropped s kk).1, (dropped s kk).1, d.1, d.2.1, d.2.2, h0, h1, ())) _
  refine MG.bindo (OG.eq (DoesFit_spec d h0 h1)) ?_
  rintro _ rfl
  refine MG.bindo (DrawIsClue_g hm) ?_
  rintro ⟨e0, e1, e2, _⟩ -
  exact MG.ofO (j46 hm r s hr hs c kk d (e0, e1, e2) h0 h1 m (by omega))

theorem j42 (hs : s.length ≤ 8) (c : Clue) (kk : Int) (k : Nat) (hk : 5 < k) :
    OG (laws_FnBooksHidden.L42j k (more, (added r c).2, (added r c).2, kk, (dropped s kk).2, (dropped s kk).2, r, c.1, c.2.1, c.2.2, (added r c).1, (added r c).1, s, (dropped s kk).1, (dropped s kk).1, ())) Yes := by
  obtain ⟨m, rfl, hk⟩ := succ_of hk
  show MG (laws_FnBooksHidden.T42j (laws_FnBooksHidden.L44j m) (more, (added r c).2, (added r c).2, kk, (dropped s kk).2, (dropped s kk).2, r, c.1, c.2.1, c.2.2, (added r c).1, (added r c).1, s, (dropped s kk).1, (dropped s kk).1, ())) _
  refine MG.bindo (DrawDoesFit_g hm) ?_
  rintro ⟨d0, d1, d2, h0, h1, _⟩ -
  refine MG.bindo (OG.eq (DoesFit_impl (d0, d1, d2) h0 h1)) ?_
  rintro _ rfl
  exact MG.ofO (j44 hm r s hr hs c kk (d0, d1, d2) h0 h1 m (by omega))

theorem j40 (hs : s.length ≤ 8) (c : Clue) (kk : Int) (k : Nat) (hk : 6 < k) :
    OG (laws_FnBooksHidden.L40j k (more, (added r c).2, (added r c).2, kk, r, c.1, c.2.1, c.2.2, (added r c).1, (added r c).1, s, ())) Yes := by
  obtain ⟨m, rfl, hk⟩ := succ_of hk
  show MG (laws_FnBooksHidden.T40j (laws_FnBooksHidden.L42j m) (more, (added r c).2, (added r c).2, kk, r, c.1, c.2.1, c.2.2, (added r c).1, (added r c).1, s, ())) _
  refine MG.bindo (OG.eq (DropClue_impl s kk (by omega))) ?_
  rintro _ rfl
  refine MG.bindo (OG.eq (DropClue_spec s kk (by omega))) ?_
  rintro _ rfl
  exact MG.ofO (j42 hm r s hr hs c kk m (by omega))

theorem j38 (c : Clue) (k : Nat) (hk : 7 < k) : OG (laws_FnBooksHidden.L38j k (more, (added r c).2, r, c.1, c.2.1, c.2.2, (added r c).1, ())) Yes := by
  obtain ⟨m, rfl, hk⟩ := succ_of hk
  show MG (laws_FnBooksHidden.T38j (laws_FnBooksHidden.L40j m) (more, (added r c).2, r, c.1, c.2.1, c.2.2, (added r c).1, ())) _
  refine MG.bindo (OG.eq (AddClue_spec r c (by omega))) ?_
  rintro _ rfl
  refine MG.bindo (DrawDropClue_g hm) ?_
  rintro ⟨s, kk, _⟩ hs
  exact MG.ofO (j40 hm r s hr hs c kk m (by omega))
end

theorem j36 {more : List Int} (hm : Cur more 0 0) (k : Nat) (hk : 8 < k) : OG (laws_FnBooksHidden.L36j k (more, ())) Yes := by
  obtain ⟨m, rfl, hk⟩ := succ_of hk
  show MG (laws_FnBooksHidden.T36j (laws_FnBooksHidden.L38j m) (more, ())) _
  refine MG.bindo (DrawAddClue_g hm) ?_
  rintro ⟨r, c0, c1, c2, _⟩ hr
  refine MG.bindo (OG.eq (AddClue_impl r (c0, c1, c2) (by simp only at hr; omega))) ?_
  rintro _ rfl
  exact MG.ofO (j38 hm r hr (c0, c1, c2) m (by omega))

end Go.Proofs.YtfgkcnoiplojkaaDoor.VI
