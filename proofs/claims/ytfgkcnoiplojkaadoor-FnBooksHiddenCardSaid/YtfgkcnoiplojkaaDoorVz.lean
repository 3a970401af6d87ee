/- The value interpreter: a law of two byte slices. -/
import Derived.Test.YtfgkcnoiplojkaaDoorVy
import Derived.Below
namespace Go.Proofs.YtfgkcnoiplojkaaDoor.VI
open Go

/-- A slice of numbers as a row's reading tells it. -/
def IsRow (k : IntKind) (w : World) (a : Option Addr) (len cap : Nat) (zs : List Int) : Prop :=
  (a = none ∧ len = 0 ∧ cap = 0 ∧ zs = []) ∨
  ∃ x, a = some x ∧ len ≤ cap ∧ cap ≤ maxLen ∧ zs.length = cap ∧ (∀ i, i < zs.length → w.cell? (x.add i) = some (.int k (zs.getD i 0))) ∧ ∀ n ∈ zs, (Lit.int k n).wf = true

def OldPr (w : World) (a : Addr) : Prop := a.block < w.heap.size

theorem cell_lt {w : World} {a : Addr} {v : Value} (h : w.cell? a = some v) : a.block < w.heap.size := by
  unfold World.cell? at h
  split at h
  · rename_i hb; exact heap_some_lt hb
  · cases h

theorem IsRow.val {k : IntKind} {w : World} {a : Option Addr} {len cap : Nat} {zs : List Int} (h : IsRow k w a len cap zs) {B : Nat → Option BX} {β : Nat → Option Nat} :
    SVR w (OldPr w) B β (.c (.row (.int k) (zs.take len))) (.slice a len cap) := by
  refine ⟨a, len, cap, rfl, ?_⟩
  rcases h with ⟨rfl, rfl, rfl, rfl⟩ | ⟨x, rfl, hl, _, hz, hc, _⟩
  · exact RowV.nil _
  · refine ⟨by simp; omega, hl, fun i n hn => ⟨x, [.int k n], rfl, rfl, fun j v hv => ?_⟩⟩
    rw [List.getElem?_take] at hn
    split at hn
    · cases j with
      | succ j => simp at hv
      | zero =>
        simp only [List.getElem?_cons_zero, Option.some.injEq] at hv
        subst hv
        have hi := (List.getElem?_eq_some_iff.1 hn).1
        have := hc i hi
        rw [List.getD_eq_getElem?_getD, hn] at this
        have e : i * (Ty.int k).size + 0 = i := by simp [Ty.size]
        rw [e]
        exact ⟨this, cell_lt this⟩
    · cases hn

theorem IsRow.wf {k : IntKind} {w : World} {a : Option Addr} {len cap : Nat} {zs : List Int} (h : IsRow k w a len cap zs) : ∀ n ∈ zs.take len, (Lit.int k n).wf = true := by
  rcases h with ⟨rfl, rfl, rfl, rfl⟩ | ⟨x, rfl, hl, _, hz, _, hw⟩
  · simp
  · exact fun n hn => hw n (List.mem_of_mem_take hn)

theorem oldMem (w : World) (β : Nat → Option Nat) : Mem w (OldPr w) (([] : List BX)[·]?) β := ⟨fun b bx h => by simp at h, fun b bx c cx g h => by simp at h, fun a h => h⟩

theorem Step.below {w w' : World} {Pr Pr' : Addr → Prop} {β β' : Nat → Option Nat} {B' : Nat → Option BX} (h : Step w Pr (([] : List BX)[·]?) β w' Pr' B' β') : RowKit.Below w.heap.size w w' :=
  ⟨h.since.same.1, h.since.same.2.1, h.since.same.2.2, h.since.size, fun k hk => h.since.frame k hk fun b bx hb => by simp at hb⟩

/-- A law of two byte slices answers true. -/
theorem law2 {P : Program} {f : FuncId} {g : (List Int × List Int × Unit) → Option (Bool × Unit)} (h : Entry.ok P ⟨f, ⟨[.c (.row (.int .u8)), .c (.row (.int .u8))], []⟩, [⟨[.c .bool], []⟩], g⟩)
    {w : World} {a0 a1 : Option Addr} {l0 c0 l1 c1 : Nat} {z0 z1 : List Int} (h0 : IsRow .u8 w a0 l0 c0 z0) (h1 : IsRow .u8 w a1 l1 c1 z1) (hg : g (z0.take l0, z1.take l1, ()) = some (true, ())) :
    Calls P f #[.slice a0 l0 c0, .slice a1 l1 c1] w fun e w' => e = .returned (.bool true) ∧ RowKit.Below w.heap.size w w' := by
  have hr : (Entry.run ⟨f, ⟨[.c (.row (.int .u8)), .c (.row (.int .u8))], []⟩, [⟨[.c .bool], []⟩], g⟩ [.c (.row (.int .u8) (z0.take l0)), .c (.row (.int .u8) (z1.take l1))] []).opt = some ([.c (.v (.bool true))], []) := by
    have : (Entry.run ⟨f, ⟨[.c (.row (.int .u8)), .c (.row (.int .u8))], []⟩, [⟨[.c .bool], []⟩], g⟩ [.c (.row (.int .u8) (z0.take l0)), .c (.row (.int .u8) (z1.take l1))] [])
      = .bind (.ofO (g (z0.take l0, z1.take l1, ()))) (res [⟨[.c .bool], []⟩]) := rfl
    rw [this, hg]
    rfl
  obtain ⟨_, hc⟩ := h _ _ _ _ hr
  refine (hc w (OldPr w) (fun _ => none) [.slice a0 l0 c0, .slice a1 l1 c1] (oldMem w _) (.cons h0.val (.cons h1.val .nil))).mono ?_
  rintro e w' ⟨ys, Pr', β', rfl, hs, hv⟩
  refine ⟨?_, hs.below⟩
  cases hv with
  | cons hx ht =>
    cases ht
    obtain ⟨rfl, _⟩ := hx
    rfl

end Go.Proofs.YtfgkcnoiplojkaaDoor.VI
