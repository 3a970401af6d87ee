/- The value interpreter: regions whose operations may come in any order. -/
import Derived.Test.YtfgkcnoiplojkaaDoorVu
namespace Go.Proofs.YtfgkcnoiplojkaaDoor.VI
open Go

theorem disj_iff (l : List Nat) : ∀ m : List Nat, disj l m = true ↔ ∀ b ∈ m, b ∉ l
  | [] => by simp [disj]
  | b :: r => by
    simp only [disj, Bool.and_eq_true, Bool.not_eq_true', disj_iff l r, has_false, List.mem_cons, forall_eq_or_imp]

theorem keys_append : ∀ l m : List (Nat × BX), keys (l ++ m) = keys l ++ keys m
  | [], m => rfl
  | p :: r, m => by simp [keys, keys_append r m]

theorem updB_out {b : Nat} : ∀ {u : List (Nat × BX)} {B : Nat → Option BX}, b ∉ keys u → updB B u b = B b
  | [], _, _ => rfl
  | p :: r, B, h => by
    simp only [keys, List.mem_cons, not_or] at h
    simp only [updB]
    rw [updB_out h.2]
    simp [putB, h.1]

theorem updB_key {b : Nat} : ∀ {u : List (Nat × BX)} {B B' : Nat → Option BX}, b ∈ keys u → updB B u b = updB B' u b
  | p :: r, B, B', h => by
    simp only [updB]
    by_cases hr : b ∈ keys r
    · exact updB_key hr
    · rw [updB_out hr, updB_out hr]
      have : b = p.1 := by simpa [keys, hr] using h
      simp [putB, this]

theorem updB_comm {u v : List (Nat × BX)} {B : Nat → Option BX} (h : ∀ b ∈ keys v, b ∉ keys u) : updB (updB B u) v = updB (updB B v) u := by
  funext b
  by_cases hu : b ∈ keys u
  · have hv : b ∉ keys v := fun hv => h b hv hu
    rw [updB_out hv]
    exact updB_key hu
  · rw [updB_out hu]
    by_cases hv : b ∈ keys v
    · exact updB_key hv
    · rw [updB_out hv, updB_out hv, updB_out hu]

theorem fresh_same : ∀ {u : List (Nat × BX)} {B B' : Nat → Option BX}, FreshB B u → (∀ b ∈ keys u, B b = none → B' b = none) → FreshB B' u
  | [], _, _, _, _ => trivial
  | p :: r, B, B', ⟨h1, h2⟩, h => by
    refine ⟨h p.1 (by simp [keys]) h1, fresh_same h2 fun b hb hn => ?_⟩
    simp only [putB] at hn ⊢
    split at hn
    · cases hn
    · rename_i hne
      rw [if_neg hne]
      exact h b (by simp [keys, hb]) hn

section
variable {E : Env} {ops : Array Oper}

def Does (E : Env) (ops : Array Oper) (s : AS) (o : Oper) (v : CV) (U : List (Nat × BX)) (f : FP) : Prop :=
  (want ops s.T o = some true ∧ ∃ e, (comp E s.T s.B (s.next + 64 * o.dst.getD s.nt) o).opt = some e ∧ FreshB (updB s.B e.upd) e.new ∧ v = e.val ∧ U = e.upd ++ e.new ∧ f = (touch E s.T s.B o, keys U)) ∨
  (want ops s.T o = some false ∧ v = .und ∧ U = [] ∧ f = ([], []))

theorem acts_iff {i : Nat} {s s' : AS} {f : FP} : Acts E ops i s s' f ↔ ∃ o, ops[i]? = some o ∧ (∀ d, o.dst = some d → d < s.nt) ∧ ∃ v U, Does E ops s o v U f ∧ s' = s.set o.dst v (updB s.B U) := by
  constructor
  · rintro ⟨o, ho, hd, ⟨hw, e, hc, hf, rfl, rfl⟩ | ⟨hw, rfl, rfl⟩⟩
    · exact ⟨o, ho, hd, e.val, e.upd ++ e.new, .inl ⟨hw, e, hc, hf, rfl, rfl, by rw [keys_append]⟩, by rw [updB_append]⟩
    · exact ⟨o, ho, hd, .und, [], .inr ⟨hw, rfl, rfl, rfl⟩, rfl⟩
  · rintro ⟨o, ho, hd, v, U, ⟨hw, e, hc, hf, rfl, rfl, rfl⟩ | ⟨hw, rfl, rfl, rfl⟩, rfl⟩
    · exact ⟨o, ho, hd, .inl ⟨hw, e, hc, hf, by rw [updB_append], by rw [keys_append]⟩⟩
    · exact ⟨o, ho, hd, .inr ⟨hw, rfl, rfl⟩⟩

theorem Does.keys {s : AS} {o : Oper} {v : CV} {U : List (Nat × BX)} {f : FP} (h : Does E ops s o v U f) : f.2 = keys U := by
  rcases h with ⟨_, e, _, _, _, _, rfl⟩ | ⟨_, _, rfl, rfl⟩ <;> rfl

theorem does_same {s t : AS} {o : Oper} {v : CV} {U : List (Nat × BX)} {f : FP} (h : Does E ops s o v U f) (hnt : t.nt = s.nt) (hnx : t.next = s.next) (hT : ∀ d ∈ o.looksAt ops, t.T d = s.T d) (hB : ∀ b ∈ f.1, t.B b = s.B b)
    (hF : ∀ b ∈ VI.keys U, s.B b = none → t.B b = none) : Does E ops t o v U f := by
  have hw : want ops t.T o = want ops s.T o := by
    unfold want
    cases hg : o.guard with
    | none => rfl
    | some g =>
      obtain ⟨j, b⟩ := g
      dsimp only
      cases hd : (ops[j]?).bind (·.dst) with
      | none => rfl
      | some d =>
        dsimp only
        rw [hT d (by simp [Oper.looksAt, hg, hd])]
  rcases h with ⟨h1, e, hc, hf, rfl, rfl, rfl⟩ | ⟨h1, rfl, rfl, rfl⟩
  · have hopv : ∀ x ∈ o.op.operands.toList, opv t.T x = opv s.T x := by
      intro x hx
      cases x with
      | tmp d =>
        simp only [opv]
        exact hT d (List.mem_append_left _ (List.mem_filterMap.2 ⟨.tmp d, hx, rfl⟩))
      | _ => rfl
    obtain ⟨h2, h3⟩ := comp_same (k := s.next + 64 * o.dst.getD s.nt) hopv hB hc
    refine .inl ⟨hw.trans h1, e, by rw [hnt, hnx]; exact h2, ?_, rfl, rfl, by rw [h3]⟩
    refine fresh_same hf fun b hb hn => ?_
    by_cases hu : b ∈ VI.keys e.upd
    · rw [updB_key (B' := s.B) hu]; exact hn
    · rw [updB_out hu] at hn ⊢
      exact hF b (by rw [keys_append]; exact List.mem_append_right _ hb) hn
  · exact .inr ⟨hw.trans h1, rfl, rfl, rfl⟩

/-- It is all the same which of the two comes first. -/
def Ind (ops : Array Oper) (p q : Nat × FP) : Prop :=
  ∃ x y, ops[p.1]? = some x ∧ ops[q.1]? = some y ∧ x.apart ops y = true ∧ (∀ b ∈ q.2.1, b ∉ p.2.2) ∧ (∀ b ∈ q.2.2, b ∉ p.2.2) ∧ ∀ b ∈ q.2.2, b ∉ p.2.1

theorem swap {p q : Nat × FP} {s s1 s2 : AS} (h1 : Acts E ops p.1 s s1 p.2) (h2 : Acts E ops q.1 s1 s2 q.2) (hi : Ind ops p q) : ∃ t, Acts E ops q.1 s t q.2 ∧ Acts E ops p.1 t s2 p.2 := by
  obtain ⟨x, y, hx, hy, hap, hd1, hd2, hd3⟩ := hi
  obtain ⟨a1, a2, a3⟩ := Oper.apart_spec hap
  obtain ⟨x', hx', hxd, v, U, hU, rfl⟩ := acts_iff.1 h1
  rw [hx] at hx'
  obtain rfl := Option.some.inj hx'
  obtain ⟨y', hy', hyd, v', U', hU', rfl⟩ := acts_iff.1 h2
  rw [hy] at hy'
  obtain rfl := Option.some.inj hy'
  have k1 := hU.keys
  have k2 := hU'.keys
  have hother : ∀ (o : Oper) (d : Option Nat) (T : Nat → Option CV) (u : CV), (∀ e, d = some e → e ∉ o.looksAt ops) → ∀ t ∈ o.looksAt ops, putT T d u t = T t := by
    intro o d T u h t ht
    cases d with
    | none => rfl
    | some e =>
      simp only [putT]
      rw [if_neg]
      rintro rfl
      exact h t rfl ht
  refine ⟨s.set y.dst v' (updB s.B U'), acts_iff.2 ⟨y, hy, hyd, v', U', ?_, rfl⟩, acts_iff.2 ⟨x, hx, hxd, v, U, ?_, ?_⟩⟩
  · refine does_same hU' rfl rfl (fun d hd => (hother y x.dst s.T v a1 d hd).symm) (fun b hb => ?_) fun b _ hn => updB_none hn
    exact (updB_out (by rw [← k1]; exact hd1 b hb)).symm
  · refine does_same hU rfl rfl (fun d hd => hother x y.dst s.T v' a3 d hd) (fun b hb => ?_) fun b hb hn => ?_
    · exact updB_out fun hm => hd3 b (by rw [k2]; exact hm) hb
    · show updB s.B U' b = none
      rw [updB_out fun hm => hd2 b (by rw [k2]; exact hm) (by rw [k1]; exact hb)]
      exact hn
  · simp only [AS.set]
    congr 1
    · cases hxd' : x.dst with
      | none => rfl
      | some d =>
        cases hyd' : y.dst with
        | none => rfl
        | some e =>
          funext t
          simp only [putT]
          have hne : e ≠ d := fun h => a2 d hxd' (by rw [hyd', h])
          by_cases h1 : t = e
          · subst h1; simp [hne]
          · simp [h1]
    · exact updB_comm fun b hb => by rw [← k1]; rw [← k2] at hb; exact hd2 b hb

inductive Runs (E : Env) (ops : Array Oper) : List (Nat × FP) → AS → AS → Prop where
  | nil {s : AS} : Runs E ops [] s s
  | cons {p : Nat × FP} {r : List (Nat × FP)} {s s1 s2 : AS} (h : Acts E ops p.1 s s1 p.2) (t : Runs E ops r s1 s2) : Runs E ops (p :: r) s s2

theorem front {p : Nat × FP} {C : List (Nat × FP)} : ∀ {A : List (Nat × FP)} {s s' : AS}, Runs E ops (A ++ p :: C) s s' → (∀ q ∈ A, Ind ops q p) → ∃ s1, Acts E ops p.1 s s1 p.2 ∧ Runs E ops (A ++ C) s1 s'
  | [], s, s', .cons h t, _ => ⟨_, h, t⟩
  | q :: A, s, s', .cons h t, hi => by
    obtain ⟨t1, h1, h2⟩ := front (A := A) t fun r hr => hi r (by simp [hr])
    obtain ⟨s1, h3, h4⟩ := swap h h1 (hi q (by simp))
    exact ⟨s1, h3, .cons h4 h2⟩

theorem bit_test (m j : Nat) : bit m j = m.testBit j := by
  have h : Nat.land 1 (Nat.shiftRight m j) = (m >>> j) % 2 := Nat.one_and_eq_mod_two (m >>> j)
  unfold bit
  rw [h, Nat.testBit_eq_decide_div_mod_eq, Nat.shiftRight_eq_div_pow]
  rcases Nat.mod_two_eq_zero_or_one (m / 2 ^ j) with h | h <;> rw [h] <;> rfl

theorem maskOf_bit {ms : List Nat} {j : Nat} : ∀ {es : List Edge}, bit (maskOf ms es) j = true → ∃ e ∈ es, bindsB e = true ∧ (j = e.on ∨ bit (ms.getD e.on 0) j = true)
  | [], h => by rw [bit_test] at h; simp [maskOf] at h
  | e :: r, h => by
    unfold maskOf at h
    cases hb : bindsB e with
    | false =>
      rw [hb] at h
      obtain ⟨e', h1, h2⟩ := maskOf_bit (es := r) h
      exact ⟨e', by simp [h1], h2⟩
    | true =>
      rw [hb, cond_true, bit_test] at h
      have h' : (((1 <<< e.on) ||| ms.getD e.on 0) ||| maskOf ms r).testBit j = true := h
      rw [Nat.testBit_or, Nat.testBit_or, Bool.or_eq_true, Bool.or_eq_true] at h'
      rcases h' with (h' | h') | h'
      · refine ⟨e, by simp, hb, .inl ?_⟩
        rw [Nat.testBit_shiftLeft] at h'
        simp only [Bool.and_eq_true, decide_eq_true_eq] at h'
        have := Nat.testBit_one_eq_true_iff_self_eq_zero.1 h'.2
        omega
      · exact ⟨e, by simp, hb, .inr (by rw [bit_test]; exact h')⟩
      · obtain ⟨e', h1, h2⟩ := maskOf_bit (es := r) (by rw [bit_test]; exact h')
        exact ⟨e', by simp [h1], h2⟩

theorem masks_old : ∀ (l : List Oper) (acc : List Nat) (x : Nat), x < acc.length → (masks l acc).getD x 0 = acc.getD x 0
  | [], acc, x, _ => rfl
  | o :: r, acc, x, h => by
    unfold masks
    rw [masks_old r _ x (by simp; omega)]
    simp [List.getD_eq_getElem?_getD, List.getElem?_append_left h]

theorem masks_new : ∀ (l : List Oper) (acc : List Nat) (x j : Nat) , acc.length ≤ x → bit ((masks l acc).getD x 0) j = true →
    ∃ o, l[x - acc.length]? = some o ∧ ∃ e ∈ o.after.toList, bindsB e = true ∧ (j = e.on ∨ bit ((masks l acc).getD e.on 0) j = true)
  | [], acc, x, j, hx, h => by
    unfold masks at h
    rw [List.getD_eq_getElem?_getD, List.getElem?_eq_none hx, bit_test] at h
    simp at h
  | o :: r, acc, x, j, hx, h => by
    unfold masks at h ⊢
    by_cases e : x = acc.length
    · subst e
      rw [masks_old r _ _ (by simp)] at h
      have e2 : (acc ++ [maskOf acc o.after.toList]).getD acc.length 0 = maskOf acc o.after.toList := by simp [List.getD_eq_getElem?_getD]
      rw [e2] at h
      obtain ⟨e, h1, h2, h3⟩ := maskOf_bit h
      refine ⟨o, by simp, e, h1, h2, h3.imp id fun h4 => ?_⟩
      by_cases hlt : e.on < acc.length
      · rw [masks_old r _ _ (by simp; omega)]
        simpa [List.getD_eq_getElem?_getD, List.getElem?_append_left hlt] using h4
      · rw [List.getD_eq_getElem?_getD, List.getElem?_eq_none (by omega), bit_test] at h4
        simp at h4
    · obtain ⟨o', h1, h2⟩ := masks_new r (acc ++ [maskOf acc o.after.toList]) x j (by simp; omega) h
      refine ⟨o', ?_, h2⟩
      rw [show x - acc.length = (x - (acc ++ [maskOf acc o.after.toList]).length) + 1 from by simp; omega]
      simpa using h1

theorem binds_eq (e : Edge) : Region.binds .any e = bindsB e := by
  unfold Region.binds bindsB
  cases e.ground <;> rfl

theorem backs_out : ∀ (l : List Oper) (i : Nat), backs l i = true → ∀ x o, l[x]? = some o → ∀ e ∈ o.after.toList, bindsB e = true → e.on < i + x
  | [], _, _, x, o, h => by simp at h
  | q :: r, i, hb, x, o, h => by
    unfold backs at hb
    rw [Bool.and_eq_true] at hb
    cases x with
    | zero =>
      simp only [List.getElem?_cons_zero, Option.some.injEq] at h
      subst h
      intro e he hbi
      have := List.all_eq_true.1 hb.1 e he
      rw [hbi] at this
      simpa [Nat.blt_eq] using this
    | succ x =>
      intro e he hbi
      have := backs_out r (i + 1) hb.2 x o (by simpa using h) e he hbi
      omega

/-- In what has been listed nothing is listed without what must come ahead of it. -/
def Closed (ops : Array Oper) (listed : Array Bool) : Prop :=
  ∀ (x : Nat) o, ops[x]? = some o → listed.getD x false = true → ∀ e ∈ o.after, bindsB e = true → listed.getD e.on false = true

theorem ahead {listed : Array Bool} (hb : backs ops.toList 0 = true) (hc : Closed ops listed) : ∀ (x : Nat) o, ops[x]? = some o → (∀ e ∈ o.after, bindsB e = true → listed.getD e.on false = true) → ∀ j, bit ((masks ops.toList []).getD x 0) j = true → listed.getD j false = true := by
  intro x
  induction x using Nat.strongRecOn with
  | ind x ih =>
    intro o ho he j hj
    obtain ⟨o', h1, e, h2, h3, h4⟩ := masks_new ops.toList [] x j (Nat.zero_le _) hj
    simp only [List.length_nil, Nat.sub_zero, Array.getElem?_toList] at h1
    rw [ho] at h1
    obtain rfl := Option.some.inj h1
    have hl := he e (by simpa using h2) h3
    rcases h4 with rfl | h4
    · exact hl
    · have hlt : e.on < x := by
        have := backs_out ops.toList 0 hb x o (by simpa using ho) e h2 h3
        omega
      cases ho2 : ops[e.on]? with
      | none =>
        have hsz := (Array.getElem?_eq_some_iff.1 ho).1
        have := Array.getElem?_eq_none_iff.1 ho2
        omega
      | some o2 => exact ih e.on hlt o2 ho2 (hc e.on o2 ho2 hl) j h4

/-- Either the one must come first, or it is all the same. -/
def Pair (ops : Array Oper) (q p : Nat × FP) : Prop := bit ((masks ops.toList []).getD p.1 0) q.1 = true ∨ Ind ops q p

theorem isNil_eq {l : List Nat} (h : isNil l = true) : l = [] := by
  cases l with
  | nil => rfl
  | cons a r => cases h

theorem apart_out (h : apartAll ops (masks ops.toList []) = true) {i j : Nat} (hi : i < ops.size) (hj : j < i) : apartAt ops (masks ops.toList []) i j = true :=
  List.all_eq_true.1 (List.all_eq_true.1 h i (List.mem_range.2 hi)) j (List.mem_range.2 hj)

theorem draw_runs (hap : apartAll ops (masks ops.toList []) = true) : ∀ {l : List Nat} {seen : List (Nat × FP)} {st st' : St}, (evDraw E ops (masks ops.toList []) l seen st).opt = some st' →
    (∀ q ∈ seen, ∀ i ∈ l, q.1 < i) → l.Pairwise (· < ·) → (∀ i ∈ l, i < ops.size) →
    ∃ L, L.map Prod.fst = l ∧ Runs E ops L st.abs st'.abs ∧ (∀ q ∈ seen, ∀ p ∈ L, Pair ops q p) ∧ L.Pairwise (Pair ops)
  | [], seen, st, st', h, _, _, _ => by
    obtain rfl := Option.some.inj h
    exact ⟨[], rfl, .nil, by simp, .nil⟩
  | i :: r, seen, st, st', h, hlt, hs, hn => by
    unfold evDraw at h
    replace h := bind_m h
    obtain ⟨⟨s1, f⟩, h1, h⟩ := h
    replace h := bif_some h
    obtain ⟨hc, h⟩ := h
    obtain ⟨hs1, hs2⟩ := List.pairwise_cons.1 hs
    obtain ⟨L, h2, h3, h4, h5⟩ := draw_runs hap h (by
      intro q hq j hj
      rcases List.mem_append.1 hq with hq | hq
      · exact hlt q hq j (by simp [hj])
      · obtain rfl := List.mem_singleton.1 hq
        exact hs1 j hj) hs2 fun j hj => hn j (by simp [hj])
    have hp : ∀ q ∈ seen, Pair ops q (i, f) := by
      intro q hq
      have hcq := List.all_eq_true.1 hc q hq
      have hst := apart_out hap (hn i (by simp)) (hlt q hq i (by simp))
      unfold apartAt at hst
      unfold calm at hcq
      rw [Bool.or_eq_true] at hst
      rcases hst with hst | hst
      · exact .inl hst
      · split at hst
        · rename_i x y hx hy
          rw [Bool.or_eq_true, Bool.or_eq_true, Bool.and_eq_true] at hcq
          rcases hcq with ⟨e1, e2⟩ | hcq | hcq
          · have e1 : f.2 = [] := isNil_eq e1
            have e2 := isNil_eq e2
            exact .inr ⟨x, y, hx, hy, hst, by simp [e2], by simp [e1], by simp [e1]⟩
          · exact .inl hcq
          · simp only [Bool.and_eq_true, disj_iff] at hcq
            exact .inr ⟨x, y, hx, hy, hst, hcq.1, hcq.2.1, hcq.2.2⟩
        · cases hst
    refine ⟨(i, f) :: L, by simp [h2], .cons (idx_acts h1) h3, ?_, List.Pairwise.cons (fun p hp' => h4 (i, f) (by simp) p hp') h5⟩
    intro q hq p hp'
    rcases List.mem_cons.1 hp' with rfl | hp'
    · exact hp q hq
    · exact h4 q (by simp [hq]) p hp'

section
variable {P : Program} {w0 : World} {Pr0 : Addr → Prop} {B0 : Nat → Option BX} {β0 : Nat → Option Nat}

theorem any_sound (hE : EnvOK P E) (hb : backs ops.toList 0 = true) {s' : AS} {Q : Exit → Act → World → Prop} (hn : ∀ a' w', Rel w0 Pr0 B0 β0 s' a' w' → Q .normal a' w') :
    ∀ (n : Nat) (L : List (Nat × FP)) (listed : Array Bool) (s : AS) (a : Act) (w : World), L.length = n → listed.size = ops.size →
      (∀ j, j ∈ L.map Prod.fst ↔ j < ops.size ∧ listed.getD j true = false) → (L.map Prod.fst).Pairwise (· < ·) → Closed ops listed → L.Pairwise (Pair ops) → Runs E ops L s s' → Rel w0 Pr0 B0 β0 s a w →
      wpAny P .any ops Q n listed a w := by
  intro n
  induction n with
  | zero =>
    intro L listed s a w hlen hsz hL _ _ _ hr hrel
    obtain rfl := List.length_eq_zero_iff.1 hlen
    cases hr
    refine ⟨?_, hn a w hrel⟩
    cases hready : Region.ready .any ops listed with
    | nil => rfl
    | cons j r =>
      obtain ⟨h1, o, h2, _⟩ := mem_ready.1 (show j ∈ Region.ready .any ops listed by rw [hready]; simp)
      have := (hL j).2 ⟨(Array.getElem?_eq_some_iff.1 h2).1, h1⟩
      simp at this
  | succ n ih =>
    intro L listed s a w hlen hsz hL hsort hclosed hpair hr hrel
    constructor
    · intro hready
      exfalso
      cases L with
      | nil => simp at hlen
      | cons p r =>
        have hp : p.1 < ops.size ∧ listed.getD p.1 true = false := (hL p.1).1 (by simp)
        have : p.1 ∈ Region.ready .any ops listed := by
          refine mem_ready.2 ⟨hp.2, ops[p.1], Array.getElem?_eq_getElem hp.1, fun e he hbi => ?_⟩
          have hlt := backs_out ops.toList 0 hb p.1 ops[p.1] (by simp [hp.1]) e (by simpa using he) (by rw [← binds_eq]; exact hbi)
          cases hv : listed.getD e.on true with
          | true =>
            have hs : e.on < listed.size := by omega
            simpa [Array.getD, hs] using hv
          | false =>
            have hm := (hL e.on).2 ⟨by omega, hv⟩
            simp only [List.map_cons, List.mem_cons] at hm
            rcases hm with hm | hm
            · omega
            · have := (List.pairwise_cons.1 hsort).1 e.on hm
              omega
        rw [hready] at this
        cases this
    · intro p hp
      obtain ⟨h1, o, h2, h3⟩ := mem_ready.1 hp
      have hps := (Array.getElem?_eq_some_iff.1 h2).1
      have h3' : ∀ e ∈ o.after, bindsB e = true → listed.getD e.on false = true := fun e he hbi => h3 e he (by rw [binds_eq]; exact hbi)
      obtain ⟨⟨p', f⟩, hq, rfl⟩ := List.mem_map.1 ((hL p).2 ⟨hps, h1⟩)
      obtain ⟨A, C, rfl⟩ := List.append_of_mem hq
      have hind : ∀ q ∈ A, Ind ops q (p', f) := by
        intro q hqA
        have := (List.pairwise_append.1 hpair).2.2 q hqA (p', f) (by simp)
        rcases this with h4 | h4
        · have h5 := ahead hb hclosed p' o h2 h3' q.1 h4
          have h6 := (hL q.1).1 (List.mem_map.2 ⟨q, by simp [hqA], rfl⟩)
          have hs : q.1 < listed.size := by omega
          simp only [Array.getD, hs, dite_true] at h5 h6
          rw [h5] at h6
          cases h6.2
        · exact h4
      obtain ⟨s1, h4, h5⟩ := front hr hind
      refine idx_sound hE hrel h4 fun a' w' hrel' => ?_
      have hnd : (L' : List (Nat × FP)) → L' = A ++ (p', f) :: C → ∀ j, j ∈ (A ++ C).map Prod.fst ↔ j ∈ L'.map Prod.fst ∧ j ≠ p' := by
        rintro _ rfl j
        have hmid : (A.map Prod.fst ++ p' :: C.map Prod.fst).Pairwise (· < ·) := by simpa using hsort
        obtain ⟨_, q2, q3⟩ := List.pairwise_append.1 hmid
        obtain ⟨q4, _⟩ := List.pairwise_cons.1 q2
        simp only [List.map_append, List.map_cons, List.mem_append, List.mem_cons]
        constructor
        · rintro (h | h)
          · exact ⟨.inl h, fun e => by have := q3 j h p' (by simp); omega⟩
          · exact ⟨.inr (.inr h), fun e => by have := q4 j h; omega⟩
        · rintro ⟨h | h | h, hne⟩
          · exact .inl h
          · exact absurd h hne
          · exact .inr h
      refine ih (A ++ C) (listed.setIfInBounds p' true) s1 a' w' ?_ (by simpa using hsz) ?_ ?_ ?_ ?_ h5 hrel'
      · simp only [List.length_append, List.length_cons] at hlen ⊢; omega
      · intro j
        rw [hnd _ rfl j, hL j]
        constructor
        · rintro ⟨⟨h6, h7⟩, h8⟩
          exact ⟨h6, by rw [getD_set_ne true (Ne.symm h8)]; exact h7⟩
        · rintro ⟨h6, h7⟩
          have hne : j ≠ p' := by
            rintro rfl
            have hs : j < listed.size := by omega
            simp [Array.getD, hs] at h7
          exact ⟨⟨h6, by rw [getD_set_ne true (Ne.symm hne)] at h7; exact h7⟩, hne⟩
      · have hmid : (A.map Prod.fst ++ p' :: C.map Prod.fst).Pairwise (· < ·) := by simpa using hsort
        rw [List.map_append]
        exact hmid.sublist (List.Sublist.append (List.Sublist.refl _) (List.sublist_cons_self _ _))
      · intro x ox hox hlx e he hbi
        by_cases hx : x = p'
        · subst hx
          rw [h2] at hox
          obtain rfl := Option.some.inj hox
          exact getD_set_true (h3' e he hbi)
        · rw [getD_set_ne false (Ne.symm hx)] at hlx
          exact getD_set_true (hclosed x ox hox hlx e he hbi)
      · exact hpair.sublist (List.Sublist.append (List.Sublist.refl _) (List.sublist_cons_self _ _))

theorem draw_sound (hE : EnvOK P E) (hm : P.follows .mixedOrders = true) {st st' : St} {a : Act} {w : World} (hb : backs ops.toList 0 = true) (hap : apartAll ops (masks ops.toList []) = true) (h : (evDraw E ops (masks ops.toList []) (List.range ops.size) [] st).opt = some st')
    {id : Nat} {Q : Exit → Act → World → Prop} (hn : ∀ a' w', Rel w0 Pr0 B0 β0 st'.abs a' w' → Q .normal a' w') (hrel : Rel w0 Pr0 B0 β0 st.abs a { w with drawn := w.drawn + 1 }) : (Code.region id ops true).wp P Q a w := by
  obtain ⟨L, h1, h2, _, h4⟩ := draw_runs hap h (by simp) List.pairwise_lt_range fun i hi => List.mem_range.1 hi
  refine wp_region_any hm (any_sound hE hb hn _ L _ st.abs a _ ?_ (by simp) ?_ ?_ ?_ h4 h2 hrel)
  · have := congrArg List.length h1
    simpa using this
  · intro j
    rw [h1, List.mem_range]
    constructor
    · intro hj; exact ⟨hj, by simp [Array.getD, hj]⟩
    · exact fun h => h.1
  · rw [h1]
    exact List.pairwise_lt_range
  · intro x o ho hl
    exfalso
    have hx := (Array.getElem?_eq_some_iff.1 ho).1
    simp [Array.getD, hx] at hl
end
end
end Go.Proofs.YtfgkcnoiplojkaaDoor.VI
