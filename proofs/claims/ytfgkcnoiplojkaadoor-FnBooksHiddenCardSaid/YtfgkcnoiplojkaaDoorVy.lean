/- The value interpreter: labels. Loops, and what follows where ways meet, told as functions of the values that live there. -/
import Derived.Test.YtfgkcnoiplojkaaDoorVx
namespace Go.Proofs.YtfgkcnoiplojkaaDoor.VI
open Go
universe u

/-- How a cell looks: what stands open is its value. -/
inductive PC where
  | int (k : IntKind)
  | bool
  | str
  | row (ty : Ty)
  | own (b : Nat)
  | view (b : Nat)
  | ptr (b off : Nat)
  | fn (f : FuncId) (caps : List Nat)
  | nil

/-- The values of such a cell, with others behind them. -/
@[reducible] def PC.dn : PC → Type → Type
  | .int _, R => Int × R
  | .bool, R => Bool × R
  | .str, R => ByteArray × R
  | .row ty, R => List ty.den × R
  | .view _, R => Nat × Nat × R
  | .own _, R => R
  | .ptr _ _, R => R
  | .fn _ _, R => R
  | .nil, R => R

def PC.bld {R : Type} {α : Type u} : (p : PC) → p.dn R → (Cell → R → α) → α
  | .int k, t, f => f (.v (.int k t.1)) t.2
  | .bool, t, f => f (.v (.bool t.1)) t.2
  | .str, t, f => f (.v (.string t.1)) t.2
  | .row ty, t, f => f (.row ty t.1) t.2
  | .view b, t, f => f (.view b t.1 t.2.1) t.2.2
  | .own b, t, f => f (.own b) t
  | .ptr b off, t, f => f (.ptr b off) t
  | .fn g caps, t, f => f (.fn g caps) t
  | .nil, t, f => f (.v (.slice none 0 0)) t

def sameNats : List Nat → List Nat → Bool
  | [], [] => true
  | a :: r, b :: s => Nat.beq a b && sameNats r s
  | _, _ => false

theorem sameNats_eq : ∀ {a b : List Nat}, sameNats a b = true → a = b
  | [], [], _ => rfl
  | x :: a, y :: b, h => by
    simp only [sameNats, Bool.and_eq_true] at h
    rw [Nat.eq_of_beq_eq_true h.1, sameNats_eq h.2]
  | [], _ :: _, h => by simp [sameNats] at h
  | _ :: _, [], h => by simp [sameNats] at h

def isNilC : Cell → Bool
  | .v (.slice none 0 0) => true
  | _ => false

theorem isNilC_eq {c : Cell} (h : isNilC c = true) : c = .v (.slice none 0 0) := by
  unfold isNilC at h
  split at h
  · rfl
  · cases h

def PC.mat {R : Type} : (p : PC) → Cell → R → Option (p.dn R)
  | .int k, .v (.int j x), r => bif kindEq j k then some (x, r) else none
  | .bool, .v (.bool x), r => some (x, r)
  | .str, .v (.string x), r => some (x, r)
  | .row ty, .row ty' xs, r => match castRow ty' ty xs with | some ys => some (ys, r) | none => none
  | .view b, .view b' off n, r => bif Nat.beq b' b then some (off, n, r) else none
  | .own b, .own b', r => bif Nat.beq b' b then some r else none
  | .ptr b off, .ptr b' off', r => bif Nat.beq b' b && Nat.beq off' off then some r else none
  | .fn g caps, .fn g' caps', r => bif Nat.beq g' g && sameNats caps' caps then some r else none
  | .nil, c, r => bif isNilC c then some r else none
  | _, _, _ => none

theorem bif_ok {α : Type} {b : Bool} {x y : α} (h : (bif b then some x else none) = some y) : b = true ∧ x = y := by
  cases b with
  | true => exact ⟨rfl, Option.some.inj h⟩
  | false => cases h

theorem PC.mat_bld {R : Type} {α : Type u} {p : PC} {c : Cell} {r : R} {t : p.dn R} (h : p.mat c r = some t) (f : Cell → R → α) : p.bld t f = f c r := by
  cases p with
  | int k =>
    cases c with
    | v x =>
      cases x with
      | int j x => obtain ⟨hk, rfl⟩ := bif_ok h; obtain rfl := kindEq_eq hk; rfl
      | _ => cases h
    | _ => cases h
  | bool =>
    cases c with
    | v x =>
      cases x with
      | bool x => obtain rfl := Option.some.inj h; rfl
      | _ => cases h
    | _ => cases h
  | str =>
    cases c with
    | v x =>
      cases x with
      | string x => obtain rfl := Option.some.inj h; rfl
      | _ => cases h
    | _ => cases h
  | row ty =>
    cases c with
    | row ty' xs =>
      simp only [PC.mat] at h
      split at h
      · rename_i ys hys
        obtain ⟨rfl, rfl⟩ := castRow_eq hys
        obtain rfl := Option.some.inj h; rfl
      · cases h
    | _ => cases h
  | view b =>
    cases c with
    | view b' off n => obtain ⟨hk, rfl⟩ := bif_ok h; obtain rfl := Nat.eq_of_beq_eq_true hk; rfl
    | _ => cases h
  | own b =>
    cases c with
    | own b' => obtain ⟨hk, rfl⟩ := bif_ok h; obtain rfl := Nat.eq_of_beq_eq_true hk; rfl
    | _ => cases h
  | ptr b off =>
    cases c with
    | ptr b' off' =>
      obtain ⟨hk, rfl⟩ := bif_ok h
      rw [Bool.and_eq_true] at hk
      obtain rfl := Nat.eq_of_beq_eq_true hk.1; obtain rfl := Nat.eq_of_beq_eq_true hk.2; rfl
    | _ => cases h
  | fn g caps =>
    cases c with
    | fn g' caps' =>
      obtain ⟨hk, rfl⟩ := bif_ok h
      rw [Bool.and_eq_true] at hk
      obtain rfl := Nat.eq_of_beq_eq_true hk.1; obtain rfl := sameNats_eq hk.2; rfl
    | _ => cases h
  | nil => obtain ⟨hk, rfl⟩ := bif_ok h; obtain rfl := isNilC_eq hk; rfl

@[reducible] def PCs.dn : List PC → Type → Type
  | [], R => R
  | p :: ps, R => p.dn (PCs.dn ps R)

def PCs.bld {R : Type} {α : Type u} : (ps : List PC) → PCs.dn ps R → (List Cell → R → α) → α
  | [], t, f => f [] t
  | p :: ps, t, f => p.bld t fun c t => PCs.bld ps t fun cs t => f (c :: cs) t

def PCs.mat {R : Type} : (ps : List PC) → List Cell → R → Option (PCs.dn ps R)
  | [], [], r => some r
  | p :: ps, c :: cs, r => match PCs.mat ps cs r with | some q => p.mat c q | none => none
  | [], _ :: _, _ => none
  | _ :: _, [], _ => none

theorem PCs.mat_bld {R : Type} {α : Type u} : ∀ {ps : List PC} {cs : List Cell} {r : R} {t : PCs.dn ps R}, PCs.mat ps cs r = some t → ∀ f : List Cell → R → α, PCs.bld ps t f = f cs r
  | [], [], r, t, h, f => by obtain rfl := Option.some.inj h; rfl
  | p :: ps, c :: cs, r, t, h, f => by
    unfold PCs.mat at h
    split at h
    · rename_i q hq
      unfold PCs.bld
      rw [PC.mat_bld h, PCs.mat_bld hq]
    · cases h
  | [], _ :: _, _, _, h, _ => by cases h
  | _ :: _, [], _, _, h, _ => by cases h

/-- How a value looks. -/
inductive PV where
  | c (p : PC)
  | agg (ps : List PC)

@[reducible] def PV.dn : PV → Type → Type
  | .c p, R => p.dn R
  | .agg ps, R => PCs.dn ps R

def PV.bld {R : Type} {α : Type u} : (p : PV) → p.dn R → (SV → R → α) → α
  | .c p, t, f => p.bld t fun c t => f (.c c) t
  | .agg ps, t, f => PCs.bld ps t fun cs t => f (.agg cs) t

def PV.mat {R : Type} : (p : PV) → SV → R → Option (p.dn R)
  | .c p, .c d, r => p.mat d r
  | .agg ps, .agg cs, r => PCs.mat ps cs r
  | .c _, .agg _, _ => none
  | .agg _, .c _, _ => none

theorem PV.mat_bld {R : Type} {α : Type u} {p : PV} {v : SV} {r : R} {t : p.dn R} (h : p.mat v r = some t) (f : SV → R → α) : p.bld t f = f v r := by
  cases p with
  | c p =>
    cases v with
    | c d => exact PC.mat_bld (p := p) h _
    | agg cs => cases h
  | agg ps =>
    cases v with
    | c d => cases h
    | agg cs => exact PCs.mat_bld (ps := ps) h _

@[reducible] def PVs.dn : List PV → Type → Type
  | [], R => R
  | p :: ps, R => p.dn (PVs.dn ps R)

def PVs.bld {R : Type} {α : Type u} : (ps : List PV) → PVs.dn ps R → (List SV → R → α) → α
  | [], t, f => f [] t
  | p :: ps, t, f => p.bld t fun c t => PVs.bld ps t fun cs t => f (c :: cs) t

def PVs.mat {R : Type} : (ps : List PV) → List SV → R → Option (PVs.dn ps R)
  | [], [], r => some r
  | p :: ps, c :: cs, r => match PVs.mat ps cs r with | some q => p.mat c q | none => none
  | [], _ :: _, _ => none
  | _ :: _, [], _ => none

theorem PVs.mat_bld {R : Type} {α : Type u} : ∀ {ps : List PV} {cs : List SV} {r : R} {t : PVs.dn ps R}, PVs.mat ps cs r = some t → ∀ f : List SV → R → α, PVs.bld ps t f = f cs r
  | [], [], r, t, h, f => by obtain rfl := Option.some.inj h; rfl
  | p :: ps, c :: cs, r, t, h, f => by
    unfold PVs.mat at h
    split at h
    · rename_i q hq
      unfold PVs.bld
      rw [PV.mat_bld h, PVs.mat_bld hq]
    · cases h
  | [], _ :: _, _, _, h, _ => by cases h
  | _ :: _, [], _, _, h, _ => by cases h

/-- How the temporaries look. -/
@[reducible] def PT.dn : List (Nat × PV) → Type → Type
  | [], R => R
  | p :: ps, R => p.2.dn (PT.dn ps R)

def PT.bld {R : Type} {α : Type u} : (ps : List (Nat × PV)) → PT.dn ps R → (Tab CV → R → α) → α
  | [], t, f => f [] t
  | p :: ps, t, f => p.2.bld t fun c t => PT.bld ps t fun cs t => f ((p.1, .s c) :: cs) t

def PT.mat {R : Type} : (ps : List (Nat × PV)) → Tab CV → R → Option (PT.dn ps R)
  | [], [], r => some r
  | p :: ps, (i, .s c) :: cs, r => bif Nat.beq i p.1 then (match PT.mat ps cs r with | some q => p.2.mat c q | none => none) else none
  | _, _, _ => none

theorem PT.mat_bld {R : Type} {α : Type u} : ∀ {ps : List (Nat × PV)} {cs : Tab CV} {r : R} {t : PT.dn ps R}, PT.mat ps cs r = some t → ∀ f : Tab CV → R → α, PT.bld ps t f = f cs r
  | [], [], r, t, h, f => by obtain rfl := Option.some.inj h; rfl
  | p :: ps, (i, .s c) :: cs, r, t, h, f => by
    unfold PT.mat at h
    cases hk : Nat.beq i p.1 with
    | false => rw [hk] at h; cases h
    | true =>
      rw [hk, cond_true] at h
      split at h
      · rename_i q hq
        unfold PT.bld
        rw [PV.mat_bld h, PT.mat_bld hq, Nat.eq_of_beq_eq_true hk]
      · cases h
  | [], _ :: _, _, _, h, _ => by cases h
  | _ :: _, [], _, _, h, _ => by cases h
  | _ :: _, (_, .tup _) :: _, _, _, h, _ => by cases h
  | _ :: _, (_, .eptr _ _) :: _, _, _, h, _ => by cases h
  | _ :: _, (_, .aptr _ _ _) :: _, _, _, h, _ => by cases h
  | _ :: _, (_, .und) :: _, _, _, h, _ => by cases h

/-- How a box looks. -/
inductive PB where
  | cells (ps : List PC)
  | arr (ro : Bool) (ty : Ty)
  | gone

@[reducible] def PB.dn : PB → Type → Type
  | .cells ps, R => PCs.dn ps R
  | .arr _ ty, R => List ty.den × R
  | .gone, R => R

def PB.bld {R : Type} {α : Type u} : (p : PB) → p.dn R → (BX → R → α) → α
  | .cells ps, t, f => PCs.bld ps t fun cs t => f (.cells cs) t
  | .arr ro ty, t, f => f (.arr ro ty t.1) t.2
  | .gone, t, f => f .gone t

def PB.mat {R : Type} : (p : PB) → BX → R → Option (p.dn R)
  | .cells ps, .cells cs, r => PCs.mat ps cs r
  | .arr ro ty, .arr ro' ty' xs, r => bif ro == ro' then (match castRow ty' ty xs with | some ys => some (ys, r) | none => none) else none
  | .gone, .gone, r => some r
  | _, _, _ => none

theorem PB.mat_bld {R : Type} {α : Type u} {p : PB} {c : BX} {r : R} {t : p.dn R} (h : p.mat c r = some t) (f : BX → R → α) : p.bld t f = f c r := by
  cases p with
  | cells ps =>
    cases c with
    | cells cs => exact PCs.mat_bld (ps := ps) h _
    | _ => cases h
  | arr ro ty =>
    cases c with
    | arr ro' ty' xs =>
      simp only [PB.mat] at h
      cases hk : ro == ro' with
      | false => rw [hk] at h; cases h
      | true =>
        rw [hk, cond_true] at h
        obtain rfl := eq_of_beq hk
        split at h
        · rename_i ys hys
          obtain ⟨rfl, rfl⟩ := castRow_eq hys
          obtain rfl := Option.some.inj h; rfl
        · cases h
    | _ => cases h
  | gone =>
    cases c with
    | gone => obtain rfl := Option.some.inj h; rfl
    | _ => cases h

@[reducible] def PBs.dn : List PB → Type → Type
  | [], R => R
  | p :: ps, R => p.dn (PBs.dn ps R)

def PBs.bld {R : Type} {α : Type u} : (ps : List PB) → PBs.dn ps R → (List BX → R → α) → α
  | [], t, f => f [] t
  | p :: ps, t, f => p.bld t fun c t => PBs.bld ps t fun cs t => f (c :: cs) t

def PBs.mat {R : Type} : (ps : List PB) → List BX → R → Option (PBs.dn ps R)
  | [], [], r => some r
  | p :: ps, c :: cs, r => match PBs.mat ps cs r with | some q => p.mat c q | none => none
  | [], _ :: _, _ => none
  | _ :: _, [], _ => none

theorem PBs.mat_bld {R : Type} {α : Type u} : ∀ {ps : List PB} {cs : List BX} {r : R} {t : PBs.dn ps R}, PBs.mat ps cs r = some t → ∀ f : List BX → R → α, PBs.bld ps t f = f cs r
  | [], [], r, t, h, f => by obtain rfl := Option.some.inj h; rfl
  | p :: ps, c :: cs, r, t, h, f => by
    unfold PBs.mat at h
    split at h
    · rename_i q hq
      unfold PBs.bld
      rw [PB.mat_bld h, PBs.mat_bld hq]
    · cases h
  | [], _ :: _, _, _, h, _ => by cases h
  | _ :: _, [], _, _, h, _ => by cases h

/-- The boxes of a state, by number. -/
def unnumber : Nat → Tab BX → Option (List BX)
  | _, [] => some []
  | i, p :: r => bif Nat.beq p.1 i then (match unnumber (i + 1) r with | some q => some (p.2 :: q) | none => none) else none

theorem unnumber_number : ∀ {i : Nat} {t : Tab BX} {l : List BX}, unnumber i t = some l → number i l = t
  | _, [], l, h => by obtain rfl := Option.some.inj h; rfl
  | i, (j, x) :: r, l, h => by
    unfold unnumber at h
    cases hk : Nat.beq j i with
    | false => rw [hk] at h; cases h
    | true =>
      rw [hk, cond_true] at h
      split at h
      · rename_i q hq
        obtain rfl := Option.some.inj h
        unfold number
        rw [unnumber_number hq, Nat.eq_of_beq_eq_true hk]
      · cases h

/-- How a state looks. -/
structure PSt where
  nt : Nat
  lent : Nat
  tmps : List (Nat × PV)
  boxes : List PB

@[reducible] def PSt.V (p : PSt) : Type := PT.dn p.tmps (PBs.dn p.boxes Unit)

def stOf (p : PSt) (t : p.V) : St := PT.bld p.tmps t fun ts t => PBs.bld p.boxes t fun bs _ => ⟨p.nt, p.lent, ts, number 0 bs, firstName⟩

def matSt (p : PSt) (s : St) : Option p.V :=
  bif Nat.beq s.nt p.nt && (Nat.beq s.lent p.lent && Nat.beq s.next firstName) then
    match unnumber 0 s.boxes with
    | some bs => match PBs.mat p.boxes bs () with
      | some q => PT.mat p.tmps s.tmps q
      | none => none
    | none => none
  else none

theorem matSt_of {p : PSt} {s : St} {t : p.V} (h : matSt p s = some t) : stOf p t = s := by
  unfold matSt at h
  cases hk : Nat.beq s.nt p.nt && (Nat.beq s.lent p.lent && Nat.beq s.next firstName) with
  | false => rw [hk] at h; cases h
  | true =>
    rw [hk, cond_true] at h
    rw [Bool.and_eq_true, Bool.and_eq_true] at hk
    split at h
    · rename_i bs hbs
      split at h
      · rename_i q hq
        unfold stOf
        rw [PT.mat_bld h, PBs.mat_bld hq, unnumber_number hbs, ← Nat.eq_of_beq_eq_true hk.1, ← Nat.eq_of_beq_eq_true hk.2.1, ← Nat.eq_of_beq_eq_true hk.2.2]
      · cases h
    · cases h

/-- How arguments, or results, look. -/
structure PFn where
  vs : List PV
  bs : List PB

@[reducible] def PFn.V (p : PFn) : Type := PVs.dn p.vs (PBs.dn p.bs Unit)

def PFn.bld {α : Type u} (p : PFn) (t : p.V) (f : List SV → List BX → α) : α := PVs.bld p.vs t fun vs t => PBs.bld p.bs t fun bs _ => f vs bs

def PFn.mat (p : PFn) (vs : List SV) (bs : List BX) : Option p.V :=
  match PBs.mat p.bs bs () with
  | some q => PVs.mat p.vs vs q
  | none => none

theorem PFn.mat_bld {α : Type u} {p : PFn} {vs : List SV} {bs : List BX} {t : p.V} (h : p.mat vs bs = some t) (f : List SV → List BX → α) : p.bld t f = f vs bs := by
  unfold PFn.mat at h
  split at h
  · rename_i q hq
    unfold PFn.bld
    rw [PVs.mat_bld h, PBs.mat_bld hq]
  · cases h

/-- One of several. -/
@[reducible] def Alts {A : Type} (V : A → Type) : List A → Type
  | [] => Empty
  | [a] => V a
  | a :: b :: r => Sum (V a) (Alts V (b :: r))

def embM {A β : Type} {V : A → Type} (f : (a : A) → V a → M β) : (l : List A) → Alts V l → M β
  | [], _ => .fail
  | [a], x => f a x
  | a :: b :: r, x => M.sum x (f a) (embM f (b :: r))

abbrev Exs := List (Ex × PSt)
@[reducible] def Exs.R (l : Exs) : Type := Alts (fun a : Ex × PSt => a.2.V) l
def exs (l : Exs) : l.R → M (Ex × St) := embM (fun a v => .ret (a.1, stOf a.2 v)) l

abbrev Res := List PFn
@[reducible] def Res.R (l : Res) : Type := Alts PFn.V l
def res (l : Res) : l.R → M (List SV × List BX) := embM (fun p v => p.bld v fun vs bs => .ret (vs, bs)) l

theorem M.ext {α : Type} : ∀ {m n : M α}, m.opt = n.opt → m = n
  | ⟨f, hf⟩, ⟨g, hg⟩, h => by
    have : f = g := by
      funext R F k
      rw [hf, hg]
      have h' : f (Option α) none some = g (Option α) none some := h
      rw [h']
    subst this
    rfl

theorem M.bind_ofO_opt {α β : Type} (m : M α) (f : α → M β) : M.bind (.ofO m.opt) f = M.bind m f := M.ext (by rw [M.opt_bind, M.opt_bind, M.opt_ofO])

/-- The codes of which 'again' may be asked. -/
def subs : Code → List (Bool × Code)
  | .seq a b => subs a ++ (true, b) :: subs b
  | .cond _ a b => subs a ++ subs b
  | .block _ c => subs c
  | .loop c => (false, c) :: subs c
  | _ => []

theorem subs_trans : ∀ (c : Code) (p : Bool × Code), p ∈ subs c → ∀ q ∈ subs p.2, q ∈ subs c
  | .seq a b, p, hp, q, hq => by
    simp only [subs, List.mem_append, List.mem_cons] at hp ⊢
    rcases hp with hp | rfl | hp
    · exact .inl (subs_trans a p hp q hq)
    · exact .inr (.inr hq)
    · exact .inr (.inr (subs_trans b p hp q hq))
  | .cond _ a b, p, hp, q, hq => by
    simp only [subs, List.mem_append] at hp ⊢
    rcases hp with hp | hp
    · exact .inl (subs_trans a p hp q hq)
    · exact .inr (subs_trans b p hp q hq)
  | .block _ c, p, hp, q, hq => by
    simp only [subs] at hp ⊢
    exact subs_trans c p hp q hq
  | .loop c, p, hp, q, hq => by
    simp only [subs, List.mem_cons] at hp ⊢
    rcases hp with rfl | hp
    · exact .inr hq
    · exact .inr (subs_trans c p hp q hq)
  | .skip, p, hp, _, _ => by simp [subs] at hp
  | .region _ _ _, p, hp, _, _ => by simp [subs] at hp
  | .exit _, p, hp, _, _ => by simp [subs] at hp
  | .label _, p, hp, _, _ => by simp [subs] at hp
  | .ret, p, hp, _, _ => by simp [subs] at hp
  | .rangeFunc _ _ _ _, p, hp, _, _ => by simp [subs] at hp
  | .scope _, p, hp, _, _ => by simp [subs] at hp
  | .goto _, p, hp, _, _ => by simp [subs] at hp
  | .refuse _, p, hp, _, _ => by simp [subs] at hp

abbrev Again := Bool → Code → St → M (Ex × St)

theorem evCode_mono {E : Env} {J K : Again} : ∀ (c : Code), (∀ p ∈ subs c, ∀ st r, (J p.1 p.2 st).opt = some r → (K p.1 p.2 st).opt = some r) → ∀ st r, (evCode E J c st).opt = some r → (evCode E K c st).opt = some r := by
  intro c
  induction c with
  | seq a b iha ihb =>
    intro hJ st r h
    unfold evCode at h ⊢
    replace h := bind_m h
    obtain ⟨⟨ex, s1⟩, h1, h⟩ := h
    rw [M.opt_bind, iha (fun p hp => hJ p (by simp [subs, hp])) _ _ h1, Option.bind_some]
    cases ex with
    | normal =>
      dsimp only at h ⊢
      split at h
      · replace h := bind_m h
        obtain ⟨s2, h2, h⟩ := h
        rw [M.opt_bind, h2, Option.bind_some]
        exact hJ (true, b) (by simp [subs]) _ _ h
      · exact ihb (fun p hp => hJ p (by simp [subs, hp])) _ _ h
    | exit id => exact h
    | ret => exact h
  | cond c a b iha ihb =>
    intro hJ st r h
    unfold evCode at h ⊢
    replace h := bind_ofO h
    obtain ⟨t, ht, h⟩ := h
    rw [M.opt_bind, M.opt_ofO, ht, Option.bind_some]
    rw [M.opt_ite] at h ⊢
    cases t with
    | true => exact iha (fun p hp => hJ p (by simp [subs, hp])) _ _ h
    | false => exact ihb (fun p hp => hJ p (by simp [subs, hp])) _ _ h
  | block id c ih =>
    intro hJ st r h
    unfold evCode at h ⊢
    replace h := bind_m h
    obtain ⟨s1, h1, h⟩ := h
    rw [M.opt_bind, ih (fun p hp => hJ p (by simpa [subs] using hp)) _ _ h1, Option.bind_some]
    exact h
  | loop c ih =>
    intro hJ st r h
    unfold evCode at h ⊢
    replace h := bind_m h
    obtain ⟨s1, h1, h⟩ := h
    rw [M.opt_bind, h1, Option.bind_some]
    exact hJ (false, c) (by simp [subs]) _ _ h
  | _ => intro _ st r h; unfold evCode at h ⊢; exact h

theorem evStep_mono {E : Env} {J K : Again} (j : Bool) (c : Code) (hl : j = false → ∀ st r, (J false c st).opt = some r → (K false c st).opt = some r)
    (hJ : ∀ p ∈ subs c, ∀ st r, (J p.1 p.2 st).opt = some r → (K p.1 p.2 st).opt = some r) (st : St) (r : Ex × St) (h : (evStep E J j c st).opt = some r) : (evStep E K j c st).opt = some r := by
  cases j with
  | true =>
    unfold evStep follow at h ⊢
    replace h := bind_m h
    obtain ⟨s1, h1, h⟩ := h
    rw [M.opt_bind, evCode_mono c hJ _ _ h1, Option.bind_some]
    exact h
  | false =>
    unfold evStep round at h ⊢
    replace h := bind_m h
    obtain ⟨⟨ex, s1⟩, h1, h⟩ := h
    rw [M.opt_bind, evCode_mono c hJ _ _ h1, Option.bind_some]
    cases ex with
    | normal =>
      replace h := bind_m h
      obtain ⟨s2, h2, h⟩ := h
      show (M.bind _ _).opt = _
      rw [M.opt_bind, h2, Option.bind_some]
      exact hl rfl _ _ h
    | exit id => exact h
    | ret => exact h

theorem evFnJ_mono {E : Env} {J K : Again} {fn : Func} {c : Code} (hJ : ∀ p ∈ subs c, ∀ st r, (J p.1 p.2 st).opt = some r → (K p.1 p.2 st).opt = some r) {vs : List SV} {bs : List BX} {r : List SV × List BX} (h : (evFnJ E J fn c vs bs).opt = some r) :
    (evFnJ E K fn c vs bs).opt = some r := by
  unfold evFnJ at h ⊢
  replace h := bif_some h
  obtain ⟨hc, h⟩ := h
  rw [hc, cond_true]
  replace h := bind_m h
  obtain ⟨s1, h1, h⟩ := h
  rw [M.opt_bind, evCode_mono c hJ _ _ h1, Option.bind_some]
  exact h

/-- A label: a loop's head (join = false), or a place where ways meet. -/
structure Lab where
  join : Bool
  id : Nat
  pat : PSt
  al : Exs
  f : pat.V → Option al.R

def Lab.run (l : Lab) (st : St) : M (Ex × St) := .bind (.ofO (matSt l.pat st)) fun v => .bind (.ofO (l.f v)) (exs l.al)

def hasKey (j : Bool) (id : Nat) (p : Bool × Code) : Bool := (p.1 == j) && Nat.beq (firstId p.2) id

def ask : List Lab → Again
  | [], _, _, _ => .fail
  | l :: r, j, c, st => bif hasKey l.join l.id (j, c) then l.run st else ask r j c st

def codeAt (C : Code) (j : Bool) (id : Nat) : Code := match (subs C).filter (hasKey j id) with | [a] => a.2 | _ => .skip

def keysOK (C : Code) : List Lab → Bool
  | [] => true
  | l :: r => (match (subs C).filter (hasKey l.join l.id) with | [_] => true | _ => false) && keysOK C r

/-- Each label does one round as its function says. -/
def Steps (E : Env) (C : Code) (H : List Lab) : List Lab → Prop
  | [] => True
  | l :: r => (∀ v, M.bind (.ofO (l.f v)) (exs l.al) = evStep E (ask H) l.join (codeAt C l.join l.id) (stOf l.pat v)) ∧ Steps E C H r

def Nones : List Lab → Prop
  | [] => True
  | l :: r => (∀ v, l.f v = none) ∧ Nones r

theorem ask_none : ∀ {H : List Lab}, Nones H → ∀ j c st r, (ask H j c st).opt ≠ some r
  | [], _, j, c, st, r, h => by cases h
  | l :: H, hn, j, c, st, r, h => by
    unfold ask at h
    cases hk : hasKey l.join l.id (j, c) with
    | false => rw [hk, cond_false] at h; exact ask_none hn.2 j c st r h
    | true =>
      rw [hk, cond_true] at h
      unfold Lab.run at h
      replace h := bind_ofO h
      obtain ⟨v, _, h⟩ := h
      rw [hn.1 v] at h
      cases h

theorem ask_step {E : Env} {C : Code} {H0 : List Lab} : ∀ {H : List Lab}, keysOK C H = true → Steps E C H0 H → ∀ p ∈ subs C, ∀ st r, (ask H p.1 p.2 st).opt = some r → (evStep E (ask H0) p.1 p.2 st).opt = some r
  | [], _, _, p, _, st, r, h => by cases h
  | l :: H, hk, hs, p, hp, st, r, h => by
    simp only [keysOK, Bool.and_eq_true] at hk
    unfold ask at h
    cases hq : hasKey l.join l.id (p.1, p.2) with
    | false => rw [hq, cond_false] at h; exact ask_step hk.2 hs.2 p hp st r h
    | true =>
      rw [hq, cond_true] at h
      unfold Lab.run at h
      replace h := bind_ofO h
      obtain ⟨v, hv, h⟩ := h
      rw [hs.1 v, matSt_of hv] at h
      have hm : p ∈ (subs C).filter (hasKey l.join l.id) := List.mem_filter.2 ⟨hp, hq⟩
      have hc : p.1 = l.join ∧ codeAt C l.join l.id = p.2 := by
        have h1 := hk.1
        unfold codeAt
        split at h1
        · rename_i a ha
          rw [ha] at hm
          simp only [List.mem_singleton] at hm
          subst hm
          simp only [ha, and_true]
          simp only [hasKey, Bool.and_eq_true] at hq
          exact eq_of_beq hq.1
        · cases h1
      rw [← hc.1, hc.1, hc.2] at h
      rw [hc.1]
      exact h

/-- The labels' functions tell what the code does. -/
theorem ask_sound {E : Env} {C : Code} {H : Nat → List Lab} (h0 : Nones (H 0)) (hk : ∀ k, keysOK C (H k) = true) (hs : ∀ k, Steps E C (H k) (H (k + 1))) :
    ∀ (k : Nat) (p : Bool × Code), p ∈ subs C → ∀ st r, (ask (H k) p.1 p.2 st).opt = some r → (evLoop E k p.1 p.2 st).opt = some r
  | 0, p, _, st, r, h => absurd h (ask_none h0 _ _ _ _)
  | k + 1, p, hp, st, r, h => by
    have h1 := ask_step (hk (k + 1)) (hs k) p hp st r h
    show (evStep E (evLoop E k) p.1 p.2 st).opt = some r
    refine evStep_mono p.1 p.2 ?_ (fun q hq => ask_sound h0 hk hs k q (subs_trans C p hp q hq)) st r h1
    intro hj s1 r1 h2
    have := ask_sound h0 hk hs k p hp s1 r1 (by rw [hj]; exact h2)
    rw [hj] at this
    exact this

/-- A function that is told by patterns. -/
structure Entry where
  f : FuncId
  pa : PFn
  al : Res
  g : pa.V → Option al.R

def Entry.run (e : Entry) (vs : List SV) (bs : List BX) : M (List SV × List BX) := .bind (.ofO (e.pa.mat vs bs)) fun v => .bind (.ofO (e.g v)) (res e.al)

def callT : List Entry → FuncId → List SV → List BX → M (List SV × List BX)
  | [], _, _, _ => .fail
  | e :: r, f, vs, bs => bif Nat.beq e.f f then
      match e.pa.mat vs bs with
      | some v => .bind (.ofO (e.g v)) (res e.al)
      | none => callT r f vs bs
    else callT r f vs bs

def Entry.ok (P : Program) (e : Entry) : Prop := Fulfils P e.f e.run

theorem Fulfils.of {P : Program} {f : FuncId} {F : List SV → List BX → M (List SV × List BX)} (h : ∀ vs bs r, (F vs bs).opt = some r → ∃ G, Fulfils P f G ∧ (G vs bs).opt = some r) : Fulfils P f F := by
  intro vs bs vs' bs' hr
  obtain ⟨G, hG, hg⟩ := h vs bs _ hr
  exact hG vs bs vs' bs' hg

theorem callT_ok {P : Program} : ∀ {l : List Entry}, (∀ e ∈ l, e.ok P) → ∀ f, Fulfils P f (callT l f)
  | [], _, f => by intro vs bs vs' bs' h; cases h
  | e :: l, h, f => by
    refine Fulfils.of fun vs bs r hr => ?_
    unfold callT at hr
    cases hk : Nat.beq e.f f with
    | false => rw [hk, cond_false] at hr; exact ⟨_, callT_ok (fun x hx => h x (by simp [hx])) f, hr⟩
    | true =>
      rw [hk, cond_true] at hr
      obtain rfl := Nat.eq_of_beq_eq_true hk
      split at hr
      · rename_i v hv
        refine ⟨_, h e (by simp), ?_⟩
        unfold Entry.run
        rw [M.opt_bind, M.opt_ofO, hv, Option.bind_some]
        exact hr
      · exact ⟨_, callT_ok (fun x hx => h x (by simp [hx])) e.f, hr⟩

theorem envOK {P : Program} {E : Env} {l : List Entry} (ht : ∀ t td, E.tt t = some td → TDok P t td) (hc : E.call = callT l) (h : ∀ e ∈ l, e.ok P) (hq : ∀ t ks, E.eqs t = some ks → EqOK P t ks) : EnvOK P E := ⟨ht, fun f => by rw [hc]; exact callT_ok h f, hq⟩

/-- A function's contract from its labels. -/
theorem fn_labs {P : Program} {E : Env} (hE : EnvOK P E) (hm : P.follows .mixedOrders = true) {e : Entry} {fn : Func} {C : Code} (hf : P.funcs[e.f]? = some fn) (hb : fn.body = some C) (hname : (fn.name == "runtime.NumGoroutine") = false)
    {H : Nat → List Lab} (h0 : Nones (H 0)) (hk : ∀ k, keysOK C (H k) = true) (hs : ∀ k, Steps E C (H k) (H (k + 1))) (k : Nat)
    (hg : ∀ v, M.bind (.ofO (e.g v)) (res e.al) = e.pa.bld v fun vs bs => evFnJ E (ask (H k)) fn C vs bs) : e.ok P := by
  refine Fulfils.of fun vs bs r hr => ⟨_, fn_sound hE hm hf hb hname k, ?_⟩
  unfold Entry.run at hr
  replace hr := bind_ofO hr
  obtain ⟨v, hv, hr⟩ := hr
  rw [hg v, PFn.mat_bld hv] at hr
  exact evFnJ_mono (ask_sound h0 hk hs k) hr

end Go.Proofs.YtfgkcnoiplojkaaDoor.VI
