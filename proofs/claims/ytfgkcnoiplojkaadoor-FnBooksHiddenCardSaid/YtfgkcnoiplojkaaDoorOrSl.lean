/- The value interpreter: slices.Clone, at rows of whatever type. -/
import Derived.Test.YtfgkcnoiplojkaaDoorOr
import Derived.Shelf.SlLaysE0
import Derived.Shelf.SlicesE.Clone
import Derived.Shelf.RegionOpenPlain
import Derived.WalkKit
import Derived.Deep.LoopGhost
import Derived.Lib.Walk
import Derived.Lib.SliceRun
set_option linter.unusedSimpArgs false
set_option linter.unusedVariables false
namespace Go.Proofs.YtfgkcnoiplojkaaDoor.VI
open Go Go.Proofs Go.Shelf Go.RowKit Go.Lib

section
variable {w w' : World} {Pr : Addr → Prop} {B : Nat → Option BX} {β : Nat → Option Nat}

theorem heap_of_box (h : Mem w Pr B β) {b g : Nat} {bx : BX} (hb : B b = some bx) (hl : bx ≠ .gone) (hg : β b = some g) : g < w.heap.size := by
  have := h.box b bx hb
  cases bx with
  | gone => exact absurd rfl hl
  | cells cs => obtain ⟨g', vs, T, hg', hh, _⟩ := this; rw [hg] at hg'; cases hg'; exact heap_some_lt hh
  | arr ro ty xs =>
    unfold BXR at this; rw [hg] at this
    obtain ⟨vs, T, hh, _⟩ := this
    exact heap_some_lt hh

theorem below_keep (h : Mem w Pr B β) (hB : RowKit.Below w.heap.size w w') : Keep Pr w w' := fun a v ha hv => by
  unfold World.cell? at hv ⊢
  rw [hB.block _ (h.lt a ha)]; exact hv

theorem below_shape (hB : RowKit.Below w.heap.size w w') : Shape w w' := fun g vs T hg => ⟨vs, by rw [hB.block _ (heap_some_lt hg)]; exact hg, rfl⟩

/-- A call that leaves all that is old. -/
theorem Step.quiet (h : Mem w Pr B β) (hB : RowKit.Below w.heap.size w w') : Step w Pr B β w' Pr B β := by
  have hkp := below_keep h hB
  have hsh := below_shape hB
  refine ⟨⟨hkp, fun _ h => h, fun _ h => .inl h, hsh, hB.size, fun g hg _ => hB.block g hg, fun b bx g hb hl hg => .inr ⟨b, bx, hb, hl, hg⟩, Ext.refl _ _, ⟨hB.os, hB.tape, hB.output⟩⟩, ?_, h.inj, fun a ha => Nat.lt_of_lt_of_le (h.lt a ha) hB.size⟩
  intro b bx hb
  exact BXR.ext hkp (fun _ h => h) hsh (Ext.refl _ _) (fun _ => rfl) (fun g hg hl => ⟨hB.block g (heap_of_box h hb hl hg), fun _ h _ => h⟩) (h.box b bx hb)

/-- A box over a block that came to be. -/
theorem Step.claim (h : Mem w Pr B β) (hB : RowKit.Below w.heap.size w w') {k g : Nat} (hk : B k = none) (hg0 : w.heap.size ≤ g) (hg1 : g < w'.heap.size) (x : BX)
    (hx : BXR w' Pr (putB B k x) (putβ β k (some g)) k x) : Step w Pr B β w' Pr (putB B k x) (putβ β k (some g)) := by
  have hkp := below_keep h hB
  have hsh := below_shape hB
  have he : Ext B β (putB B k x) (putβ β k (some g)) := Ext.new hk x _
  refine ⟨⟨hkp, fun _ h => h, fun _ h => .inl h, hsh, hB.size, fun g hg _ => hB.block g hg, ?_, he, ⟨hB.os, hB.tape, hB.output⟩⟩, ?_, ?_, fun a ha => Nat.lt_of_lt_of_le (h.lt a ha) hB.size⟩
  · intro b bx g' hb hl hg
    by_cases e : b = k
    · subst e
      simp [putβ] at hg
      exact .inl (by omega)
    · simp [putB, e] at hb
      simp [putβ, e] at hg
      exact .inr ⟨b, bx, hb, hl, hg⟩
  · intro b bx hb
    by_cases e : b = k
    · subst e
      simp [putB] at hb; subst hb; exact hx
    · simp [putB, e] at hb
      refine BXR.ext hkp (fun _ h => h) hsh he (fun _ => by simp [putβ, e]) (fun g hg hl => ⟨hB.block g (heap_of_box h hb hl hg), fun _ h _ => h⟩) (h.box b bx hb)
  · intro b bx c cx g hb hl hc hcl hg hg'
    by_cases e : b = k <;> by_cases e' : c = k
    · rw [e, e']
    · simp [putβ, e] at hg
      simp [putB, e'] at hc
      simp [putβ, e'] at hg'
      have := heap_of_box h hc hcl hg'; omega
    · simp [putβ, e'] at hg'
      simp [putB, e] at hb
      simp [putβ, e] at hg
      have := heap_of_box h hb hl hg; omega
    · simp [putB, e] at hb
      simp [putB, e'] at hc
      simp [putβ, e] at hg
      simp [putβ, e'] at hg'
      exact h.inj b bx c cx g hb hl hc hcl hg hg'

/-- A row of the call's own comes back. -/
theorem own_back (hM : Mem w Pr B β) (hB : RowKit.Below w.heap.size w w') {k : Nat} (hk : B k = none) {ty : Ty} {xs : List ty.den} {L : List Value} (hL : ListR w Pr ty xs L) {e : TypeId} {v : Value}
    (ho : w'.ownsRow w.heap.size e ty.size v xs.length L) : ∃ β', Step w Pr B β w' Pr (putB B k (.arr false ty xs)) β' ∧ CellR w' Pr (putB B k (.arr false ty xs)) β' (.own k) v := by
  obtain ⟨hlen, ⟨rfl, hn⟩ | ⟨g, cap, cur, rfl, hg0, hh, hc, hm, hs, ht⟩⟩ := ho
  · have hx : xs = [] := List.length_eq_zero_iff.1 hn
    subst hx
    have hq := Step.quiet hM hB
    exact ⟨putβ β k none, hq.trans (Step.nil hq.mem hk ty), own_nil (w := w') (Pr := Pr)⟩
  · have hkp := below_keep hM hB
    refine ⟨putβ β k (some g), Step.claim hM hB hk hg0 (heap_some_lt hh) _ ?_, ⟨_, _, _, rfl⟩, _, putB_self _ _ _, fun ro ty' xs' he => ?_⟩
    · unfold BXR
      simp only [putβ, if_true]
      refine ⟨cur, e, hh, fun i x hi => ?_, fun _ a ha e => ?_, fun e => by cases e⟩
      · obtain ⟨es, h1, h2⟩ := hL.2 i x hi
        refine ⟨es, EncE_mono hkp (fun _ h => h) _ _ _ h1, fun j v hv => ?_⟩
        have h3 := h2 j v hv
        rw [← ht, List.getElem?_take] at h3
        split at h3
        · rw [← h3]; simp
        · cases h3
      · have := hM.lt a ha; omega
    · cases he
      rw [putβ_self]
      exact ⟨cap, cur, e, rfl, hc, hh, by omega⟩
end

section
variable {P : Program} {ρ : Ren}

/-- Clone of a slice that is not nil, wherever it lies. -/
theorem clone_calls (L : SlLaysE0.n41 P ρ) (i0 : TypeInfo) (z : Value) (size bytes : Nat) (hi : P.info? (ρ.t 23) = some i0) (hz0 : i0.zero = some z) (hz1 : i0.size = size) (hz2 : i0.bytes = bytes) (hzs : z.cells.size = size) (hsz : 0 < size)
    (z23 : ∀ w, (Go.sizeOf (ρ.t 23)).run P w = .ok size w) (ad : Addr) (n c : Nat) (news : List Value) (w : World) (hl : news.length = n * size) (hn : n ≤ maxLen) (hbig : n * bytes ≤ 140737488355328)
    (hc : ∀ j u, news[j]? = some u → w.cell? (ad.add j) = some u) (h1 : ∀ u ∈ news, u.oneCell' = true) :
    Calls P (ρ.f 41) #[.slice (some ad) n c] w fun e w' => ∃ v', e = .returned v' ∧ w'.ownsRow w.heap.size (ρ.t 23) size v' n news ∧ v' ≠ .slice none 0 0 ∧ Below w.heap.size w w' := by
  have mixed := L.mixed; have t4 := L.t4; have a4 := L.a4; have z4 := L.z4; have v4 := L.v4; have t22 := L.t22; have a22 := L.a22; have z22 := L.z22; have v22 := L.v22
  have q22 : ∀ (w : World) (a : Option Addr) (n c n' c' : Nat), (binOp .eql (ρ.t 22) (.slice a n c) (.slice none n' c')).run P w = .ok (.bool a.isNone) w := fun w a n c n' c' => Lib.run_eql_slice_nil w _ _ a n c n' c' L.t22
  have u22 : ∀ w, Sem.run P (underlying (ρ.t 22)) w = .ok (TypeDesc.slice (ρ.t 23)) w := fun w => run_underlying t22
  have A : Aside (∀ j u, news[j]? = some u → w.cell? (ad.add j) = some u) := hc
  clear hc
  obtain ⟨_, _, FG⟩ := L.f41
  go_enter FG, SlBodyN.n41_ntmps ρ
  go_wp2_with (at_builtin; refine wpList_append_own _ rfl _ _ (ρ.t 22) rfl w.heap.size (ρ.t 23) i0 z size bytes t22 hi hz0 hz1 hz2 hzs hsz _ _ _ rfl (World.ownsRow_made w #[] 0 (Nat.le_refl _) (Nat.zero_le _) (by simp)) ad n c news rfl ?qc1 ?qc2 ?qc3 ?qc4 ?qc5 ?qc6 ?_)
  case qc1 => exact hl
  case qc2 =>
    intro j u hj
    exact Lib.cell?_alloc_some _ (A.out j u hj)
  case qc3 => exact h1
  case qc4 => rw [Nat.zero_add]; exact hn
  case qc5 => rw [Nat.zero_add]; exact hbig
  case qc6 => simp
  intro v' w1 hown hgrow hnil
  go_wp2
  go_ret
  refine ⟨v', rfl, by simpa using hown, hnil, ?_⟩
  exact ((Below.refl _ w).alloc (Nat.le_refl _) _).grown hgrow (by simp) (by intro k hk; simp [Value.ownBlock] at hk; omega)

/-- slices.Clone as an entry. -/
def cloneE (f : FuncId) (ty : Ty) (bytes : Nat) : Entry := ⟨f, ⟨[.c (.row ty)], []⟩, [⟨[.c (.own 0)], [.arr false ty]⟩], fun v => bif decide (v.1.length * bytes ≤ 140737488355328) then some (v.1, ()) else none⟩

theorem clone_ok (L : SlLaysE0.n41 P ρ) {i0 : TypeInfo} {z : Value} {ty : Ty} {bytes : Nat} (hi : P.info? (ρ.t 23) = some i0) (hz0 : i0.zero = some z) (hz1 : i0.size = ty.size) (hz2 : i0.bytes = bytes) (hzs : z.cells.size = ty.size) (hb : 0 < bytes) (hn : (SlBodyN.n41 ρ).body.isNone = false) :
    (cloneE (ρ.f 41) ty bytes).ok P := by
  obtain ⟨nm, hnm, hF⟩ := L.f41
  refine Entry.ok_of (hasFn hF hn hnm) ?_
  rintro ⟨xs, ⟨⟩⟩ r vs bs hm hg vs' bs' hr w Pr β ys hM hvs
  have e1 := PFn.mat_bld hm (fun vs bs => (vs, bs))
  obtain ⟨rfl, rfl⟩ := Prod.mk.inj e1
  obtain ⟨hroom, rfl⟩ := bif_ok hg
  obtain ⟨rfl, rfl⟩ := Prod.mk.inj (Option.some.inj hr)
  have hroom : xs.length * bytes ≤ 140737488355328 := of_decide_eq_true hroom
  cases hvs with
  | cons hx ht =>
    cases ht
    obtain ⟨A, n, c, rfl, hrow⟩ := hx
    have hxn := hrow.1
    subst hxn
    have hk : (([] : List BX)[·]?) 0 = none := rfl
    have hput : (([BX.arr false ty xs] : List BX)[·]?) = putB (([] : List BX)[·]?) 0 (.arr false ty xs) := by
      funext i
      cases i with
      | zero => rfl
      | succ i => simp [putB]
    cases A with
    | none =>
      refine (AnyE.slices_Clone_nil L _ c w).mono ?_
      rintro e w' ⟨rfl, rfl⟩
      have hx : xs = [] := by
        cases xs with
        | nil => rfl
        | cons x xs => obtain ⟨ad, _, e, _⟩ := hrow.2.2 0 x rfl; cases e
      subst hx
      refine ⟨[_], Pr, putβ β 0 none, rfl, ?_, .cons ?_ .nil⟩
      · rw [hput]; exact Step.nil hM hk ty
      · rw [hput]; exact own_nil (w := w') (Pr := Pr)
    | some ad =>
      obtain ⟨news, hL, hcell⟩ := concat_rows xs (fun j v => w.cell? (ad.add j) = some v) (fun i x hi => by
        obtain ⟨ad', es, e, h1, h2⟩ := hrow.2.2 i x hi
        cases e
        exact ⟨es, h1, fun j v hv => (h2 j v hv).1⟩)
      have hmax : xs.length ≤ maxLen := by
        have : xs.length * 1 ≤ xs.length * bytes := Nat.mul_le_mul_left _ hb
        have : (140737488355328 : Nat) ≤ maxLen := by decide
        omega
      refine (clone_calls L i0 z ty.size bytes hi hz0 hz1 hz2 hzs (size_pos ty) (fun w => by rw [run_sizeOf hi, hz1]) ad xs.length c news w hL.1 hmax hroom hcell (fun u hu => by have := hL.one u hu; revert this; cases u <;> simp [oneCell, Value.oneCell'])).mono ?_
      rintro e w' ⟨v', rfl, hown, _, hB⟩
      obtain ⟨β', h1, h2⟩ := own_back (k := 0) hM hB hk hL hown
      rw [← hput] at h1 h2
      exact ⟨[v'], Pr, β', rfl, h1, .cons h2 .nil⟩

theorem Entry.run_some {e : Entry} {vs : List SV} {bs : List BX} {v : e.pa.V} {r : e.al.R} {out : List SV × List BX} (hm : e.pa.mat vs bs = some v) (hg : e.g v = some r) (hr : (res e.al r).opt = some out) : (e.run vs bs).opt = some out := by
  unfold Entry.run
  rw [M.opt_bind, M.opt_ofO, hm, Option.bind_some, M.opt_bind, M.opt_ofO, hg, Option.bind_some]
  exact hr

/-- The same, where the copy will not be written. -/
theorem clone_row_ok {f : FuncId} {ty : Ty} {bytes : Nat} (h : (cloneE f ty bytes).ok P) (hf : HasFn P f) :
    Entry.ok P ⟨f, ⟨[.c (.row ty)], []⟩, [⟨[.c (.row ty)], [.arr true ty]⟩], fun v => bif decide (v.1.length * bytes ≤ 140737488355328) then some (v.1, v.1, ()) else none⟩ := by
  refine Entry.ok_of hf ?_
  rintro ⟨xs, ⟨⟩⟩ r vs bs hm hg vs' bs' hr w Pr β ys hM hvs
  obtain ⟨hroom, rfl⟩ := bif_ok hg
  obtain ⟨rfl, rfl⟩ := Prod.mk.inj (Option.some.inj hr)
  have e1 := PFn.mat_bld hm (fun vs bs => (vs, bs))
  obtain ⟨rfl, rfl⟩ := Prod.mk.inj e1
  have hrun : ((cloneE f ty bytes).run [.c (.row ty xs)] []).opt = some ([.c (.own 0)], [.arr false ty xs]) :=
    Entry.run_some (e := cloneE f ty bytes) (v := (xs, ())) (r := (xs, ())) hm (by show (bif decide (xs.length * bytes ≤ 140737488355328) then some (xs, ()) else none) = _; rw [show decide (xs.length * bytes ≤ 140737488355328) = true from hroom]; rfl) rfl
  refine ((h _ _ _ _ hrun).2 w Pr β ys hM hvs).mono ?_
  rintro e w' ⟨ys', Pr', β', rfl, hs, hv⟩
  have hb : (([BX.arr false ty xs] : List BX)[·]?) 0 = some (.arr false ty xs) := rfl
  obtain ⟨P2, hs2⟩ := Step.freeze hs.mem hb
  have hput : (([BX.arr true ty xs] : List BX)[·]?) = putB (([BX.arr false ty xs] : List BX)[·]?) 0 (.arr true ty xs) := by
    funext i
    cases i with
    | zero => rfl
    | succ i => simp [putB]
  cases hv with
  | cons hx ht =>
    cases ht
    have hx2 := SVR.ext hs2.since.keep hs2.since.grows hs2.since.shape hs2.since.ext hx
    obtain ⟨_, bx, hb2, ho⟩ := hx2
    simp only [putB, if_true] at hb2
    obtain rfl := Option.some.inj hb2
    refine ⟨_, P2, β', rfl, ?_, .cons ?_ .nil⟩
    · rw [hput]; exact hs.trans hs2
    · rw [hput]; exact own_row (hs2.mem.box 0 _ (by simp [putB])) (ho _ _ _ rfl)
end
end Go.Proofs.YtfgkcnoiplojkaaDoor.VI
