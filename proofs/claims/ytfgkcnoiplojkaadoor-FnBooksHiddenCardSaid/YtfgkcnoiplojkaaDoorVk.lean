/- The value interpreter: stores. -/
import Derived.Test.YtfgkcnoiplojkaaDoorVj
namespace Go.Proofs.YtfgkcnoiplojkaaDoor.VI
open Go

def putL (es : List Value) (off : Nat) (ys : List Value) : List Value := es.take off ++ ys ++ es.drop (off + ys.length)

theorem putL_get {es ys : List Value} {off : Nat} (h : off + ys.length ≤ es.length) (j : Nat) : (putL es off ys)[j]? = if off ≤ j ∧ j < off + ys.length then ys[j - off]? else es[j]? := by
  unfold putL
  by_cases h1 : j < off
  · rw [List.append_assoc, List.getElem?_append_left (by simp; omega), List.getElem?_take, if_pos h1, if_neg (by omega)]
  · by_cases h2 : j < off + ys.length
    · rw [List.getElem?_append_left (by simp; omega), List.getElem?_append_right (by simp; omega), if_pos ⟨by omega, h2⟩]
      simp; congr 1; omega
    · rw [List.getElem?_append_right (by simp; omega), List.getElem?_drop, if_neg (by omega)]
      congr 1; simp; omega

theorem putL_length {es ys : List Value} {off : Nat} (h : off + ys.length ≤ es.length) : (putL es off ys).length = es.length := by
  simp [putL]; omega

section
variable {P : Program} {E : Env} {w : World} {Pr : Addr → Prop} {B : Nat → Option BX} {β : Nat → Option Nat} {T : Nat → Option CV} {ρ : Operand → Value}

theorem putCells_all {cs new : List Cell} {es ys : List Value} {off : Nat} (h : All2 (CellR w Pr B β) cs es) (k : All2 (CellR w Pr B β) new ys) : All2 (CellR w Pr B β) (putCells cs off new) (putL es off ys) := by
  unfold putCells putL
  rw [k.length]
  exact ((h.take off).append k).append (h.drop _)

theorem setBlock_shape {g : Nat} {vs vs' : Array Value} {T' : TypeId} (h : w.heap[g]? = some (.cells vs T' (0, 0))) (hz : vs'.size = vs.size) : Shape w (World.setBlock w g vs' T') := by
  intro i us U hi
  rw [setBlock_get]
  by_cases e : i = g
  · subst e
    rw [h] at hi; cases hi
    exact ⟨vs', by simp [heap_some_lt h], hz⟩
  · exact ⟨us, by simp [e, hi], rfl⟩

theorem setBlock_keep {g : Nat} {vs' : Array Value} {T' : TypeId} (hp : ∀ a, Pr a → a.block ≠ g) : Keep Pr w (World.setBlock w g vs' T') := by
  intro a v ha hv
  unfold World.cell? at hv ⊢
  rw [setBlock_get, if_neg (hp a ha)]
  exact hv

theorem setCells_list {vs : Array Value} {off : Nat} {ys : List Value} (h : off + ys.length ≤ vs.size) : (setCells vs off ys).toList = putL vs.toList off ys := by
  apply List.ext_getElem?
  intro i
  rw [putL_get (by simpa using h), Array.getElem?_toList, setCells_get _ _ _ _ h]
  simp

theorem any_false {l : List (Nat × BX)} {b : Nat} (h : (l.any fun p => Nat.beq p.1 b) = false) (B : Nat → Option BX) : updB B l b = B b := by
  induction l generalizing B with
  | nil => rfl
  | cons p r ih =>
    simp only [List.any_cons, Bool.or_eq_false_iff] at h
    rw [updB, ih h.2]
    have : b ≠ p.1 := by rintro rfl; rw [Nat.beq_refl] at h; exact absurd h.1 (by simp)
    simp [putB, this]

/-- A store. -/
theorem store_sound (C : Ctx P E w Pr B β T ρ) {t : TypeId} {td : TD} (ht : E.tt t = some td) {p : CV} {a y : Value} {new : List Cell} {ys : List Value} {u : List (Nat × BX)}
    (hp : CVR w Pr B β p a) (hy : y.cells = ys.toArray) (hn : All2 (CellR w Pr B β) new ys) (e : (storeC B td p new).opt = some u) :
    ∃ w' Pr', (Instr.storeAt t a y).run P w = .ok () w' ∧ Step w Pr B β w' Pr' (updB B u) β := by
  obtain ⟨inf, d, hi, hd, hs, ha, _⟩ := (C.tt t td ht).out
  have hone : ∀ v ∈ ys, oneCell v = true := by
    intro v hv
    obtain ⟨i, hi', hv'⟩ := List.getElem_of_mem hv
    have hlen := hn.length
    have h1 : new[i]? = some new[i] := List.getElem?_eq_getElem (by omega)
    obtain ⟨v', hv2, hr⟩ := hn.get i _ h1
    rw [List.getElem?_eq_getElem hi'] at hv2
    obtain rfl := Option.some.inj hv2
    rw [← hv']
    exact hr.one
  unfold storeC at e
  obtain ⟨hsz, e⟩ := bif_some e
  have hsz := Nat.eq_of_beq_eq_true hsz
  have hsize : inf.size = ys.length := by rw [hs, ← hsz, hn.length]
  split at e
  · rename_i b off _
    split at e
    · rename_i cs hb
      obtain ⟨hle, e⟩ := bif_some e
      have hle := Nat.le_of_ble_eq_true hle
      obtain rfl := Option.some.inj e
      obtain ⟨g, bx, rfl, hb', hβ⟩ := hp
      rw [hb] at hb'; obtain rfl := Option.some.inj hb'
      obtain ⟨g', vs, T', hg, hh, hc, hq⟩ := C.mem.box b _ hb
      have := hβ (by simp)
      rw [this] at hg; obtain rfl := Option.some.inj hg
      have hvl : cs.length = vs.size := by have := hc.length; simpa using this
      have hroom : off + ys.length ≤ vs.size := by rw [← hn.length, ← hvl]; exact hle
      have hrun := run_storeVar (P := P) hi hy hsize hh hroom hone
      refine ⟨_, Pr, by simpa [Instr.storeAt, Instr.sureAddr, Result.andThen] using hrun, ?_⟩
      have hshape := setBlock_shape (vs' := setCells vs off ys) hh (setCells_size _ _ _)
      have hkeep := setBlock_keep (w := w) (vs' := setCells vs off ys) (T' := T') hq
      refine Step.put C.mem hb (by simp) ?_ ⟨rfl, rfl, rfl⟩ (fun i hi' => ?_) (setBlock_size _ _ _) hshape hkeep (fun _ h => h) (fun _ h => .inl h) (fun _ he => ?_) (fun _ _ h => h)
      · show cs.length = (putCells cs off new).length
        simp [putCells]; omega
      · rw [setBlock_get, if_neg]
        rintro rfl; exact hi' this
      · refine ⟨g, setCells vs off ys, T', this, by rw [setBlock_get]; simp [heap_some_lt hh], ?_, hq⟩
        rw [setCells_list hroom]
        exact putCells_all (CellsR.ext hkeep (fun _ h => h) hshape he hc) (CellsR.ext hkeep (fun _ h => h) hshape he hn)
    · cases e
  · rename_i b i off _
    split at e
    · rename_i ty xs hb
      rw [M.opt_bind, M.opt_ofO] at e
      simp only [Option.bind_eq_some_iff, M.opt_bind, M.opt_ofO] at e
      obtain ⟨x, hx, q, hq, e⟩ := e
      obtain ⟨hle, e⟩ := bif_some e
      rw [M.opt_bind, M.opt_ofO] at e
      simp only [Option.bind_eq_some_iff, M.opt_ret, Option.some.injEq] at e
      obtain ⟨z, hz, rfl⟩ := e
      simp only [Bool.and_eq_true, Bool.not_eq_true'] at hle
      obtain ⟨hle, hnb⟩ := hle
      have hle := Nat.le_of_ble_eq_true hle
      obtain ⟨P2, hst, hfr, hn2⟩ := stills_sound new ys q.1 q.2 C.mem (Frz.refl B) hn hq
      have hb2 : updB B q.2 b = some (.arr false ty xs) := by rw [any_false hnb]; exact hb
      obtain ⟨ad, bx, rfl, hb', haddr⟩ := CVR.ext hst.since.keep hst.since.grows hst.since.shape hst.since.ext hp
      rw [hb2] at hb'; obtain rfl := Option.some.inj hb'
      obtain ⟨g, hg, rfl⟩ := haddr _ _ _ rfl
      have hbox := hst.mem.box b _ hb2
      unfold BXR at hbox
      rw [hg] at hbox
      obtain ⟨vs, T', hh, harr, hnp, _⟩ := hbox
      have hnp := hnp rfl
      obtain ⟨es, he1, he2⟩ := harr i x hx
      have hel := EncE_len ty x es he1
      have htc := toCells_sound (B := updB B q.2) (β := β) ty x es he1
      have hlen : off + ys.length ≤ es.length := by rw [← hn.length, ← htc.length]; exact hle
      have hpos := size_pos ty
      have hroom : i * ty.size + off + ys.length ≤ vs.size := by
        have h1 := he2 (es.length - 1) es[es.length - 1] (List.getElem?_eq_getElem (by omega))
        have h2 := (Array.getElem?_eq_some_iff.1 h1).1
        omega
      have hrun := run_storeVar (P := P) hi hy hsize hh hroom hone
      have hshape := setBlock_shape (vs' := setCells vs (i * ty.size + off) ys) hh (setCells_size _ _ _)
      have hkeep := setBlock_keep (w := w) (vs' := setCells vs (i * ty.size + off) ys) (T' := T') hnp
      refine ⟨_, P2, by simpa [Instr.storeAt, Instr.sureAddr, Result.andThen] using hrun, ?_⟩
      rw [updB_append]
      refine hst.trans (Step.put hst.mem hb2 (by simp) ⟨rfl, by simp, fun h => by cases h⟩ ⟨rfl, rfl, rfl⟩ (fun j hj => ?_) (setBlock_size _ _ _) hshape hkeep (fun _ h => h) (fun _ h => .inl h) (fun _ he => ?_) (fun _ _ h => h))
      · rw [setBlock_get, if_neg]
        rintro rfl; exact hj hg
      · unfold BXR
        rw [hg]
        refine ⟨setCells vs (i * ty.size + off) ys, T', by rw [setBlock_get]; simp [heap_some_lt hh], fun j x' hj => ?_, fun _ => hnp, fun h => by cases h⟩
        by_cases ej : j = i
        · subst ej
          have hlt := (List.getElem?_eq_some_iff.1 hx).1
          rw [List.getElem?_set_self hlt] at hj
          obtain rfl := Option.some.inj hj
          have hnew : EncE w P2 ty z (putL es off ys) := ofCells1_sound (putCells_all htc hn2) hz
          refine ⟨putL es off ys, EncE_mono hkeep (fun _ h => h) _ _ _ hnew, fun jj v hv => ?_⟩
          rw [putL_get hlen] at hv
          rw [setCells_get _ _ _ _ hroom]
          by_cases hin : off ≤ jj ∧ jj < off + ys.length
          · rw [if_pos hin] at hv
            rw [if_pos (by omega)]
            rw [← hv]; congr 1; omega
          · rw [if_neg hin] at hv
            rw [if_neg (by omega)]
            exact he2 jj v hv
        · rw [List.getElem?_set_ne (Ne.symm ej)] at hj
          obtain ⟨fs, hf1, hf2⟩ := harr j x' hj
          have hfl := EncE_len ty x' fs hf1
          refine ⟨fs, EncE_mono hkeep (fun _ h => h) _ _ _ hf1, fun jj v hv => ?_⟩
          have hjj := (List.getElem?_eq_some_iff.1 hv).1
          rw [setCells_get _ _ _ _ hroom, if_neg]
          · exact hf2 jj v hv
          · rcases Nat.lt_or_gt_of_ne ej with hlt | hgt
            · have : (j + 1) * ty.size ≤ i * ty.size := Nat.mul_le_mul_right _ hlt
              rw [Nat.add_mul, Nat.one_mul] at this
              omega
            · have : (i + 1) * ty.size ≤ j * ty.size := Nat.mul_le_mul_right _ hgt
              rw [Nat.add_mul, Nat.one_mul] at this
              omega
    · cases e
  · cases e
end
end Go.Proofs.YtfgkcnoiplojkaaDoor.VI
