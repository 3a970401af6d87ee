/- The value interpreter: operations that may come in any order. -/
import Derived.Test.YtfgkcnoiplojkaaDoorVt
namespace Go.Proofs.YtfgkcnoiplojkaaDoor.VI
open Go

section
variable {E : Env} {T T' : Nat → Option CV} {B B' : Nat → Option BX}

theorem opLeads_mem : ∀ {l : List Operand} {x : Operand} {v : CV} {b : Nat}, x ∈ l → opv T x = some v → b ∈ v.leads → b ∈ opLeads T l
  | y :: r, x, v, b, hx, hv, hb => by
    unfold opLeads
    rcases List.mem_cons.1 hx with rfl | hx
    · rw [hv]; simp [hb]
    · have := opLeads_mem hx hv hb
      split
      · simp [this]
      · exact this

theorem opLeads_same : ∀ {l : List Operand}, (∀ x ∈ l, opv T' x = opv T x) → opLeads T' l = opLeads T l
  | [], _ => rfl
  | x :: r, h => by
    unfold opLeads
    rw [h x (by simp), opLeads_same (l := r) fun y hy => h y (by simp [hy])]

theorem zip_mem {a : Array Operand} {b : Array TypeId} {p : Operand × TypeId} (h : p ∈ a.toList.zip b.toList) : p.1 ∈ a.toList := by
  obtain ⟨x, y⟩ := p
  exact (List.of_mem_zip h).1

theorem comp_same {k : Nat} {o : Oper} (hT : ∀ x ∈ o.op.operands.toList, opv T' x = opv T x) (hB : ∀ b ∈ touch E T B o, B' b = B b) {e : Eff} (he : (comp E T B k o).opt = some e) :
    (comp E T' B' k o).opt = some e ∧ touch E T' B' o = touch E T B o := by
  cases hq : passes o.op with
  | true =>
    obtain ⟨dst, op, type, pos, after, guard⟩ := o
    cases op with
    | move x => exact ⟨by simp only [comp] at he ⊢; rw [hT x (by simp [Op.operands])]; exact he, rfl⟩
    | assign x => exact ⟨by simp only [comp] at he ⊢; rw [hT x (by simp [Op.operands])]; exact he, rfl⟩
    | extract x i => exact ⟨by simp only [comp] at he ⊢; rw [hT x (by simp [Op.operands])]; exact he, rfl⟩
    | _ => cases hq
  | false =>
  have hS : ∀ x ∈ o.op.operands.toList, Same T T' B B' x := fun x hx => ⟨hT x hx, fun v hv b hb => hB b (by unfold touch; rw [hq, cond_false]; exact List.mem_append_left _ (opLeads_mem hx hv hb))⟩
  obtain ⟨dst, op, type, pos, after, guard⟩ := o
  have hlead : opLeads T' op.operands.toList = opLeads T op.operands.toList := opLeads_same hT
  dsimp only at hS
  have plain : (∀ c, op ≠ .call c) → touch E T' B' ⟨dst, op, type, pos, after, guard⟩ = touch E T B ⟨dst, op, type, pos, after, guard⟩ := by
    intro hc
    unfold touch
    dsimp only
    rw [hlead]
    cases op <;> first | rfl | exact absurd rfl (hc _)
  cases op with
  | call c =>
    simp only [Op.operands, Call.operands] at hS
    unfold touch at hB ⊢
    dsimp only [passes, cond_false] at hB ⊢
    rw [hlead]
    unfold comp at he ⊢
    dsimp only at he ⊢
    cases hcal : c.callee with
    | builtin b =>
      rw [hcal] at he hS
      dsimp only at he ⊢
      refine ⟨?_, rfl⟩
      rw [builtinC_same (T := T) (B := B) fun p hp => hS p.1 (by simpa using zip_mem hp)]
      exact he
    | invoke r m => rw [hcal] at he; cases he
    | value f =>
      rw [hcal] at he hS hB
      dsimp only at he hB ⊢
      have hf := hS f (by simp)
      rw [hf.opc]
      replace he := bind_ofO he
      obtain ⟨cl, hcl, he⟩ := he
      rw [hcl]
      rw [hcl] at hB
      try dsimp only at he
      try dsimp only at hB
      try dsimp only
      split at he
      · rename_i g caps
        replace he := bif_some he
        obtain ⟨hsz, he⟩ := he
        have hargs : ∀ p ∈ c.args.toList.zip c.argTypes.toList, Same T T' B B' p.1 := fun p hp => hS p.1 (by
          have := zip_mem hp
          simp only [Array.toList_append, List.mem_append]
          exact .inr this)
        have hl : ∀ a, argVs E T B g 0 (c.args.toList.zip c.argTypes.toList) = some a → ∀ p, lends B (leadsSVs (a.1 ++ caps.map fun b => SV.c (.ptr b 0))) = some p → ∀ b ∈ p.1, B' b = B b := by
          intro a ha p hp b hb
          apply hB
          dsimp only
          rw [ha]
          dsimp only
          rw [hp]
          exact List.mem_append_right _ hb
        constructor
        · show (M.bind (.ofO (some (Cell.fn g caps))) _).opt = some e
          rw [M.opt_bind, M.opt_ofO]
          show (bif Nat.beq c.args.size c.argTypes.size then callC E T' B' k g caps (c.args.toList.zip c.argTypes.toList) else .fail).opt = some e
          rw [hsz]
          exact callC_same hargs hl he
        · congr 1
          dsimp only
          rw [argVs_same hargs]
          unfold callC at he
          replace he := bind_ofO he
          obtain ⟨a, ha, he⟩ := he
          dsimp only at he
          replace he := bind_ofO he
          obtain ⟨p, hp, he⟩ := he
          rw [ha]
          dsimp only
          rw [lends_same hp (hl a ha p hp), hp]
      · cases he
  | move x => exact ⟨by simp only [comp] at he ⊢; rw [(hS x (by simp [Op.operands])).1]; exact he, plain (by simp)⟩
  | assign x => exact ⟨by simp only [comp] at he ⊢; rw [(hS x (by simp [Op.operands])).1]; exact he, plain (by simp)⟩
  | box t x => exact ⟨by simp only [comp] at he ⊢; rw [(hS x (by simp [Op.operands])).1]; exact he, plain (by simp)⟩
  | alloc t => exact ⟨he, plain (by simp)⟩
  | pick c a b =>
    refine ⟨?_, plain (by simp)⟩
    simp only [comp] at he ⊢
    rw [(hS c (by simp [Op.operands])).opB, (hS a (by simp [Op.operands])).1, (hS b (by simp [Op.operands])).1]
    exact he
  | build t ps =>
    refine ⟨?_, plain (by simp)⟩
    simp only [comp] at he ⊢
    rw [partCells_same (T := T) fun p hp => (hS p.2 (by simp only [Op.operands]; exact List.mem_map_of_mem hp)).1]
    exact he
  | buildSlice t n ps =>
    refine ⟨?_, plain (by simp)⟩
    simp only [comp] at he ⊢
    rw [← he]
    congr 1
    refine bindO_congr fun d _ => ?_
    split
    · congr 1
      rw [partCells_same (T := T) fun p hp => (hS p.2 (by simp only [Op.operands]; exact List.mem_map_of_mem hp)).1]
      refine bindO_congr fun q hq => ?_
      rw [elemsC_same (B := B) fun r hr b hb => by
        obtain ⟨p, hp, v, hv, hl⟩ := partCells_leads hq r hr
        exact (hS p.2 (by simp only [Op.operands]; exact List.mem_map_of_mem hp)).2 v hv b (hl b hb)]
    · rfl
  | load t x =>
    refine ⟨?_, plain (by simp)⟩
    have hx := hS x (by simp [Op.operands])
    simp only [comp] at he ⊢
    rw [← he, hx.1]
    congr 1
    refine bindO_congr fun d _ => bindO_congr fun p hp => ?_
    rw [loadC_same (B := B) (hx.2 p hp)]
  | store t x y =>
    refine ⟨?_, plain (by simp)⟩
    have hx := hS x (by simp [Op.operands])
    have hy := hS y (by simp [Op.operands])
    simp only [comp] at he ⊢
    rw [← he, hx.1, hy.1]
    congr 1
    refine bindO_congr fun d _ => bindO_congr fun p hp => bindO_congr fun v hv => bindO_congr fun cs hcs => ?_
    rw [storeC_same (B := B) (hx.2 p hp) fun b hb => hy.2 v hv b (cellsOf_leads hcs b hb)]
  | nilCheck x => exact ⟨by simp only [comp] at he ⊢; rw [(hS x (by simp [Op.operands])).1]; exact he, plain (by simp)⟩
  | binOp bop t x y yt =>
    refine ⟨?_, plain (by simp)⟩
    simp only [comp] at he ⊢
    rw [(hS x (by simp [Op.operands])).1, (hS y (by simp [Op.operands])).1]
    exact he
  | unOp uop t x =>
    refine ⟨?_, plain (by simp)⟩
    simp only [comp] at he ⊢
    rw [(hS x (by simp [Op.operands])).opB, (hS x (by simp [Op.operands])).opI]
    exact he
  | convert s d x =>
    refine ⟨?_, plain (by simp)⟩
    simp only [comp] at he ⊢
    rw [convC_same (hS x (by simp [Op.operands]))]
    exact he
  | makeFunc fn fst caps =>
    refine ⟨?_, plain (by simp)⟩
    simp only [comp] at he ⊢
    rw [capsOf_same (T := T) (B := B) (B' := B') fun x hx => hS x (by simp only [Op.operands, Array.toList_append, List.mem_append]; exact .inr hx)]
    exact he
  | makeSlice t n c =>
    refine ⟨?_, plain (by simp)⟩
    simp only [comp] at he ⊢
    rw [(hS n (by simp [Op.operands])).opI, (hS c (by simp [Op.operands])).opI]
    exact he
  | slice t x lo hi mx =>
    refine ⟨?_, plain (by simp)⟩
    cases mx with
    | some y =>
      cases hi with
      | none => cases he
      | some hi =>
        have hx := hS x (by simp [Op.operands])
        have hl : ∀ y, lo = some y → opI T' y = opI T y := fun y hy => (hS y (by simp [Op.operands, hy])).opI
        have hh : ∀ y, some hi = some y → opI T' y = opI T y := fun y hy => (hS y (by simp [Op.operands, hy])).opI
        have hm : opI T' y = opI T y := (hS y (by simp [Op.operands])).opI
        simp only [comp] at he ⊢
        rw [← he, hx.opc, hm]
        congr 1
        refine bindO_congr fun d _ => ?_
        split
        · exact bindO_congr fun c hc => bindO_congr fun a _ => by rw [slice3C_same (B := B) (hx.cell hc) hl hh]
        · rfl
    | none =>
      have hx := hS x (by simp [Op.operands])
      have hl : ∀ y, lo = some y → opI T' y = opI T y := fun y hy => (hS y (by simp [Op.operands, hy])).opI
      have hh : ∀ y, hi = some y → opI T' y = opI T y := fun y hy => (hS y (by simp [Op.operands, hy])).opI
      simp only [comp] at he ⊢
      rw [← he, hx.opc]
      congr 1
      refine bindO_congr fun d _ => ?_
      split
      · exact bindO_congr fun c hc => by rw [sliceC_same (B := B) (hx.cell hc) hl hh]
      · exact bindO_congr fun c hc => by rw [sliceC_same (B := B) (hx.cell hc) hl hh]
      · rfl
  | fieldAddr t x f =>
    refine ⟨?_, plain (by simp)⟩
    have hx := hS x (by simp [Op.operands])
    simp only [comp] at he ⊢
    rw [← he, hx.1]
    congr 1
    exact bindO_congr fun p hp => by rw [fieldAddrC_same (B := B) (hx.2 p hp)]
  | field t x f => exact ⟨by simp only [comp] at he ⊢; rw [(hS x (by simp [Op.operands])).1]; exact he, plain (by simp)⟩
  | indexAddr t x i =>
    refine ⟨?_, plain (by simp)⟩
    simp only [comp] at he ⊢
    rw [← he, (hS i (by simp [Op.operands])).opI]
    congr 1
    exact bindO_congr fun n _ => by rw [indexAddrC_same (T := T) (B := B) (hS x (by simp [Op.operands]))]
  | index t x i =>
    refine ⟨?_, plain (by simp)⟩
    simp only [comp] at he ⊢
    rw [(hS i (by simp [Op.operands])).opI, (hS x (by simp [Op.operands])).opc]
    exact he
  | extract x i => exact ⟨by simp only [comp] at he ⊢; rw [(hS x (by simp [Op.operands])).1]; exact he, plain (by simp)⟩
  | _ => cases he
end
end Go.Proofs.YtfgkcnoiplojkaaDoor.VI
