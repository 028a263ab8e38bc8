/- Operations that only read: what they come to, symbolically; that the model says the same. No condition. -/
import Derived.Test.YtloinbebkhcndaaSxb
set_option linter.all false
namespace Go.Sx
open Go.RowKit

/-- Types, as far as they matter. -/
inductive TD where
  | int (k : IntKind) | bool | str | ptr (e : TypeId) | slice (e : TypeId) | arr (n : Nat) (e : TypeId) | struct (l : List (Nat × TypeId)) | map (k e : TypeId) | func

def TD.fits : TD → TypeDesc → Prop
  | .int k, d => d = .int k
  | .bool, d => d = .bool
  | .str, d => d = .string
  | .ptr e, d => d = .pointer e
  | .slice e, d => d = .slice e
  | .arr n e, d => d = .array n e
  | .struct l, d => ∃ fs, d = .struct fs ∧ fs.toList.map (fun f => (f.offset, f.type)) = l
  | .map k e, d => d = .map k e
  | .func, d => ∃ a b c, d = .func a b c

structure Ent where
  d : TD
  size : Nat
  bytes : Nat
  zero : SV
  zl : List SV

abbrev Tab := TypeId → Option Ent

structure Ent.Fits (P : Program) (t : TypeId) (e : Ent) : Prop where
  desc : ∃ d, P.underlying t = some d ∧ e.d.fits d
  info : ∃ i, P.info? t = some i ∧ i.size = e.size ∧ i.bytes = e.bytes ∧ ∀ ρ, i.zero = some (den ρ e.zero)
  zok : ok 0 e.zero
  zstor : stor e.zero
  zsz : sz e.zero = e.size
  zlok : okL 0 e.zl ∧ storL e.zl ∧ ∀ ρ, denC ρ e.zl = (den ρ e.zero).cells.toList
  fld : ∀ l, e.d = .struct l → ∀ p ∈ l, (P.info? p.2).isSome = true
  eld : ∀ n el, e.d = .arr n el → (P.info? el).isSome = true
  eqs : ∀ l, e.d = .struct l → (∀ fs, P.underlying t = some (.struct fs) → ∀ f ∈ fs.toList, f.name ≠ "_") ∧ P.stoodInHeld t = false ∧ P.eqGuardType P.depth t = false

def Tab.Ok (P : Program) (tab : Tab) : Prop := ∀ t e, tab t = some e → e.Fits P t

def Ent.row (e : Ent) : Bool := match e.d with | .struct _ | .arr .. => true | _ => false

theorem Ent.Fits.und {P : Program} {t : TypeId} {e : Ent} (h : e.Fits P t) (w : World) : ∃ d, (underlying t).run P w = .ok d w ∧ e.d.fits d :=
  let ⟨d, h1, h2⟩ := h.desc; ⟨d, run_underlying h1 w, h2⟩
theorem Ent.Fits.siz {P : Program} {t : TypeId} {e : Ent} (h : e.Fits P t) (w : World) : (sizeOf t).run P w = .ok e.size w := by
  obtain ⟨i, hi, hs, _⟩ := h.info
  simp [sizeOf, typeInfo, hi, hs]
theorem Ent.Fits.agg {P : Program} {t : TypeId} {e : Ent} (h : e.Fits P t) (w : World) : (isAgg t).run P w = .ok e.row w := by
  obtain ⟨d, hd, hf⟩ := h.und w
  unfold isAgg
  rw [Sem.run_bind, hd]
  cases he : e.d <;> simp only [he, TD.fits] at hf <;> (first | (subst hf; simp [Ent.row, he]) | (obtain ⟨_, rfl, _⟩ := hf; simp [Ent.row, he]) | (obtain ⟨_, _, _, rfl⟩ := hf; simp [Ent.row, he]))

/-! ### Numbers, bools, strings -/
def shlS (k : IntKind) (x y : Int) : Int := k.wrap (x * 2 ^ min y.toNat k.bits)
def shrS (k : IntKind) (x y : Int) : Int := x.fdiv (2 ^ min y.toNat k.bits)

def nilS : TD → SV → Option Bool
  | .ptr _, .ptr .. | .ptr _, .pix .. | .slice _, .sl .. | .map .., .mp _ | .func, .fn .. => some false
  | .ptr _, .v (.pointer a) => some a.isNone
  | .slice _, .v (.slice a _ _) => some a.isNone
  | .map .., .v (.map a) => some a.isNone
  | .func, .v .nilFunc => some true
  | .func, .v (.func ..) => some false
  | _, _ => none

def nilEq (d : TD) (x y : SV) : Option Bool :=
  match nilS d x, nilS d y with
  | some a, some true => some a
  | some true, some b => some b
  | _, _ => none

def valI : SV → Int
  | .int _ n => n
  | _ => 0
def isI (k : IntKind) : SV → Prop
  | .int k' _ => k' = k
  | _ => False
def famEq (m : Nat) (f g : Nat → SV) : Bool := decide (∀ i, i < m → valI (f i) = valI (g i))
/-- Two rows of numbers: are they the same? -/
def arrS (tab : Tab) (t : TypeId) (n s n' s' : Nat) (f g : Nat → SV) : Option (Prop × Bool) :=
  match tab t with
  | some e => match e.d with
    | .arr m el => match tab el with
      | some e2 => match e2.d with
        | .int k => some ((s = 1 ∧ s' = 1 ∧ n = m ∧ n' = m ∧ e2.size = 1) ∧ (∀ i, i < m → isI k (f i)) ∧ ∀ i, i < m → isI k (g i), famEq m f g)
        | _ => none
      | none => none
    | _ => none
  | none => none

def binS (tab : Tab) (op : BinOp) (t : TypeId) (x y : SV) : Option (Prop × SV) :=
  match x, y with
  | .int k a, .int k' b => match op with
    | .add => some (k = k', .int k (k.wrap (a + b)))
    | .sub => some (k = k', .int k (k.wrap (a - b)))
    | .mul => some (k = k', .int k (k.wrap (a * b)))
    | .quo => some (k = k' ∧ b ≠ 0, .int k (k.wrap (a.tdiv b)))
    | .rem => some (k = k' ∧ b ≠ 0, .int k (a.tmod b))
    | .and => some (k = k', .int k (bits .and k a b))
    | .or => some (k = k', .int k (bits .or k a b))
    | .xor => some (k = k', .int k (bits .xor k a b))
    | .andNot => some (k = k', .int k (bits .andNot k a b))
    | .shl => some (0 ≤ b, .int k (shlS k a b))
    | .shr => some (0 ≤ b, .int k (shrS k a b))
    | .eql => some (k = k', .bool (a == b))
    | .neq => some (k = k', .bool (a != b))
    | .lss => some (k = k', .bool (decide (a < b)))
    | .leq => some (k = k', .bool (decide (a ≤ b)))
    | .gtr => some (k = k', .bool (decide (a > b)))
    | .geq => some (k = k', .bool (decide (a ≥ b)))
  | .str a, .str b => match op with
    | .add => some (((a.size + b.size : Nat) : Int) ≤ 9223372036854775807, .str (a ++ b))
    | .eql => some (True, .bool (a.toList == b.toList))
    | .neq => some (True, .bool !(a.toList == b.toList))
    | .lss => some (True, .bool (Op.bytesLess a.toList b.toList))
    | .leq => some (True, .bool (Op.bytesLess a.toList b.toList || a.toList == b.toList))
    | .gtr => some (True, .bool !(Op.bytesLess a.toList b.toList || a.toList == b.toList))
    | .geq => some (True, .bool !(Op.bytesLess a.toList b.toList))
    | _ => none
  | .fam n s f, .fam n' s' g => match op with
    | .eql => match arrS tab t n s n' s' f g with
      | some (p, b) => some (p, .bool b)
      | none => none
    | .neq => match arrS tab t n s n' s' f g with
      | some (p, b) => some (p, .bool !b)
      | none => none
    | _ => none
  | x, y => match op, tab t with
    | .eql, some e => match x, y with
      | .bool a, .bool b => match e.d with
        | .bool => some (True, .bool (a == b))
        | _ => none
      | _, _ => match nilEq e.d x y with
        | some b => some (True, .bool b)
        | none => none
    | .neq, some e => match x, y with
      | .bool a, .bool b => match e.d with
        | .bool => some (True, .bool !(a == b))
        | _ => none
      | _, _ => match nilEq e.d x y with
        | some b => some (True, .bool !b)
        | none => none
    | _, _ => none

variable {P : Program}

theorem nilS_ptr {e : TypeId} {x : SV} {b : Bool} (ρ : Env) (h : nilS (.ptr e) x = some b) : ∃ a, den ρ x = .pointer a ∧ b = a.isNone := by
  cases x <;> simp only [nilS] at h <;> first | (cases h; exact ⟨_, rfl, rfl⟩) | (cases h; done) | skip
  rename_i x
  cases x <;> simp only [nilS] at h <;> first | (cases h; exact ⟨_, rfl, rfl⟩) | (cases h)
theorem nilS_slice {e : TypeId} {x : SV} {b : Bool} (ρ : Env) (h : nilS (.slice e) x = some b) : ∃ a l c, den ρ x = .slice a l c ∧ b = a.isNone := by
  cases x <;> simp only [nilS] at h <;> first | (cases h; exact ⟨_, _, _, rfl, rfl⟩) | (cases h; done) | skip
  rename_i x
  cases x <;> simp only [nilS] at h <;> first | (cases h; exact ⟨_, _, _, rfl, rfl⟩) | (cases h)
theorem nilS_map {k e : TypeId} {x : SV} {b : Bool} (ρ : Env) (h : nilS (.map k e) x = some b) : ∃ a, den ρ x = .map a ∧ b = a.isNone := by
  cases x <;> simp only [nilS] at h <;> first | (cases h; exact ⟨_, rfl, rfl⟩) | (cases h; done) | skip
  rename_i x
  cases x <;> simp only [nilS] at h <;> first | (cases h; exact ⟨_, rfl, rfl⟩) | (cases h)
theorem nilS_func {x : SV} {b : Bool} (ρ : Env) (h : nilS .func x = some b) : (den ρ x = .nilFunc ∧ b = true) ∨ ∃ f a c, den ρ x = .func f a c ∧ b = false := by
  cases x <;> simp only [nilS] at h <;> first | (cases h; exact .inr ⟨_, _, _, rfl, rfl⟩) | (cases h; done) | skip
  rename_i x
  cases x <;> simp only [nilS] at h <;> first | (cases h; exact .inl ⟨rfl, rfl⟩) | (cases h; exact .inr ⟨_, _, _, rfl, rfl⟩) | (cases h)

theorem nilEq_inv {d : TD} {x y : SV} {b : Bool} (h : nilEq d x y = some b) : (nilS d x = some b ∧ nilS d y = some true) ∨ (nilS d x = some true ∧ nilS d y = some b) := by
  unfold nilEq at h
  split at h
  · rename_i a h1 h2; cases h; exact .inl ⟨h1, h2⟩
  · rename_i b' h1 h2 h3; cases h; first | exact .inr ⟨h1, h2⟩ | exact .inr ⟨h2, h3⟩ | exact .inr ⟨by assumption, by assumption⟩
  · cases h

theorem equal_step {t : TypeId} {x y : Value} {w : World} {r : Result Bool} (h : ∀ n, (Op.equalIn (n + 1) t x y).run P w = r) : (Op.equal t x y).run P w = r := h 9999

theorem nilEq_run {tab : Tab} (hT : tab.Ok P) {t : TypeId} {e : Ent} (he : tab t = some e) (ρ : Env) {x y : SV} {b : Bool} (h : nilEq e.d x y = some b) (w : World) :
    (Op.equal t (den ρ x) (den ρ y)).run P w = .ok b w ∧ (∀ op a c, (eqGuard op t a c (den ρ x) (den ρ y)).run P w = .ok () w) ∧
    (binOp .eql t (den ρ x) (den ρ y) = (do pure (.bool (← Op.equal t (den ρ x) (den ρ y))))) ∧ (binOp .neq t (den ρ x) (den ρ y) = (do pure (.bool (!(← Op.equal t (den ρ x) (den ρ y)))))) := by
  obtain ⟨d, hd, hf⟩ := (hT t e he).und w
  have h2 := nilEq_inv h
  cases hed : e.d <;> rw [hed] at h2 hf <;> simp only [TD.fits] at hf
  case ptr el =>
    subst hf
    rcases h2 with ⟨hx, hy⟩ | ⟨hx, hy⟩ <;> obtain ⟨a, ha, hab⟩ := nilS_ptr ρ hx <;> obtain ⟨c, hc, hcb⟩ := nilS_ptr ρ hy <;> rw [ha, hc] <;> cases a <;> cases c <;> simp only [Option.isNone_none, Option.isNone_some, reduceCtorEq] at hab hcb <;>
      (refine ⟨equal_step fun n => (by simp only [Op.equalIn, Sem.run_bind, hd, Result.andThen_ok, Sem.run_pure]; try simp only [Option.isNone_none, Option.isNone_some, hab, hcb]), fun op _ _ => by cases op <;> simp [eqGuard], rfl, rfl⟩)
  case slice el =>
    subst hf
    rcases h2 with ⟨hx, hy⟩ | ⟨hx, hy⟩ <;> obtain ⟨a, _, _, ha, hab⟩ := nilS_slice ρ hx <;> obtain ⟨c, _, _, hc, hcb⟩ := nilS_slice ρ hy <;> rw [ha, hc] <;> cases a <;> cases c <;> simp only [Option.isNone_none, Option.isNone_some, reduceCtorEq] at hab hcb <;>
      (refine ⟨equal_step fun n => (by simp only [Op.equalIn, Sem.run_bind, hd, Result.andThen_ok, Sem.run_pure]; try simp only [Option.isNone_none, Option.isNone_some, hab, hcb]), fun op _ _ => by cases op <;> simp [eqGuard], rfl, rfl⟩)
  case map k el =>
    subst hf
    rcases h2 with ⟨hx, hy⟩ | ⟨hx, hy⟩ <;> obtain ⟨a, ha, hab⟩ := nilS_map ρ hx <;> obtain ⟨c, hc, hcb⟩ := nilS_map ρ hy <;> rw [ha, hc] <;> cases a <;> cases c <;> simp only [Option.isNone_none, Option.isNone_some, reduceCtorEq] at hab hcb <;>
      (refine ⟨equal_step fun n => (by simp only [Op.equalIn, Sem.run_bind, hd, Result.andThen_ok, Sem.run_pure]; try simp only [Option.isNone_none, Option.isNone_some, hab, hcb]), fun op _ _ => by cases op <;> simp [eqGuard], rfl, rfl⟩)
  case func =>
    obtain ⟨_, _, _, rfl⟩ := hf
    rcases h2 with ⟨hx, hy⟩ | ⟨hx, hy⟩ <;> rcases nilS_func ρ hx with ⟨ha, hab⟩ | ⟨_, _, _, ha, hab⟩ <;> rcases nilS_func ρ hy with ⟨hc, hcb⟩ | ⟨_, _, _, hc, hcb⟩ <;> simp only [reduceCtorEq] at hab hcb <;> rw [ha, hc] <;>
      (refine ⟨equal_step fun n => (by simp only [Op.equalIn, Sem.run_bind, hd, Result.andThen_ok, Sem.run_pure]; try simp only [Option.isNone_none, Option.isNone_some, hab, hcb]), fun op _ _ => by cases op <;> simp [eqGuard], rfl, rfl⟩)
  all_goals
    exfalso
    rcases h2 with ⟨hx, hy⟩ | ⟨hx, hy⟩ <;> (revert hx; cases x <;> simp [nilS])

theorem run_equalIn_ints (d : Nat) {t el : TypeId} {n : Nat} {k : IntKind} (ht : P.underlying t = some (.array n el)) (he : P.underlying el = some (.int k)) (hsz : ∀ w, (sizeOf el).run P w = .ok 1 w) (a b : Nat → Int) {xs ys : Array Value}
    (hx : ∀ i, i < n → xs[i]? = some (.int k (a i))) (hy : ∀ i, i < n → ys[i]? = some (.int k (b i))) (w : World) :
    (Op.equalIn (d + 2) t (.agg xs) (.agg ys)).run P w = .ok ((List.range n).all fun i => a i == b i) w := by
  rw [Op.equalIn]
  simp only [Sem.run_bind, run_underlying ht, Result.andThen_ok, hsz, Std.Legacy.Range.forIn_eq_forIn_range', Std.Legacy.Range.size, Nat.sub_zero, Nat.add_sub_cancel, Nat.div_one]
  have hl : ∀ i ∈ List.range n, i < n := fun i hi => by simpa using hi
  rw [show List.range' 0 n 1 = List.range n from (List.range_eq_range' ..).symm]
  generalize List.range n = l at hl ⊢
  induction l with
  | nil => simp
  | cons i l ih =>
    have hi : i < n := hl i (by simp)
    have px : (part el xs (i * 1)).run P w = .ok (.int k (a i)) w := by
      simp [part, isAgg, run_underlying he, hx i hi]
    have py : (part el ys (i * 1)).run P w = .ok (.int k (b i)) w := by
      simp [part, isAgg, run_underlying he, hy i hi]
    have pe : (Op.equalIn (d + 1) el (.int k (a i)) (.int k (b i))).run P w = .ok (a i == b i) w := run_equalIn_int w d el k k _ _ he
    simp only [List.forIn_cons, Sem.run_bind, px, py, pe, Result.andThen_ok, List.all_cons]
    cases hb : (a i == b i)
    · simp
    · simp only [Bool.not_true, Bool.false_eq_true, if_false, Sem.run_pure, Result.andThen_ok, Bool.true_and]
      exact ih fun j hj => hl j (by simp [hj])

theorem run_eqGuardIn_ints (d : Nat) {t el : TypeId} {n : Nat} {k : IntKind} (ht : P.underlying t = some (.array n el)) (he : P.underlying el = some (.int k)) (hsz : ∀ w, (sizeOf el).run P w = .ok 1 w) (a b : Nat → Int) {xs ys : Array Value}
    (hx : ∀ i, i < n → xs[i]? = some (.int k (a i))) (hy : ∀ i, i < n → ys[i]? = some (.int k (b i))) (w : World) :
    (Op.eqGuardIn (d + 2) t (.agg xs) (.agg ys)).run P w = .ok false w := by
  rw [Op.eqGuardIn]
  simp only [Sem.run_bind, run_underlying ht, Result.andThen_ok, hsz, Std.Legacy.Range.forIn_eq_forIn_range', Std.Legacy.Range.size, Nat.sub_zero, Nat.add_sub_cancel, Nat.div_one]
  have hl : ∀ i ∈ List.range n, i < n := fun i hi => by simpa using hi
  rw [show List.range' 0 n 1 = List.range n from (List.range_eq_range' ..).symm]
  generalize List.range n = l at hl ⊢
  induction l with
  | nil => simp
  | cons i l ih =>
    have hi : i < n := hl i (by simp)
    have px : (part el xs (i * 1)).run P w = .ok (.int k (a i)) w := by
      simp [part, isAgg, run_underlying he, hx i hi]
    have py : (part el ys (i * 1)).run P w = .ok (.int k (b i)) w := by
      simp [part, isAgg, run_underlying he, hy i hi]
    have pe : (Op.eqGuardIn (d + 1) el (.int k (a i)) (.int k (b i))).run P w = .ok false w := by
      simp [Op.eqGuardIn, run_underlying he]
    simp only [List.forIn_cons, Sem.run_bind, px, py, pe, Result.andThen_ok, Bool.false_eq_true, if_false, Sem.run_pure]
    exact ih fun j hj => hl j (by simp [hj])

theorem fam_ints {ρ : Env} {k : IntKind} {m : Nat} {f : Nat → SV} (h : ∀ i, i < m → isI k (f i)) : ∃ xs, den ρ (.fam m 1 f) = .agg xs ∧ ∀ i, i < m → xs[i]? = some (.int k (valI (f i))) := by
  refine ⟨_, rfl, fun i hi => ?_⟩
  have e : ((List.range m).flatMap fun i => (den ρ (f i)).cells.toList) = (List.range m).flatMap fun i => [Value.int k (valI (f i))] := flatMap_congr' _ _ m fun i hi => by
    have := h i hi
    cases hf : f i <;> rw [hf] at this <;> simp only [isI] at this
    subst this
    rfl
  rw [e, show ((List.range m).flatMap fun i => [Value.int k (valI (f i))]) = (List.range m).map fun i => Value.int k (valI (f i)) by
    generalize List.range m = l
    induction l with
    | nil => rfl
    | cons a l ih => rw [List.flatMap_cons, ih]; rfl]
  simp [hi]

theorem famEq_all (m : Nat) (f g : Nat → SV) : ((List.range m).all fun i => valI (f i) == valI (g i)) = famEq m f g := by
  rw [Bool.eq_iff_iff]
  simp [famEq]

theorem arrS_in {tab : Tab} (hT : tab.Ok P) {t : TypeId} {n s n' s' : Nat} {f g : Nat → SV} {p : Prop} {b : Bool} (h : arrS tab t n s n' s' f g = some (p, b)) (hp : p) (ρ : Env) (w : World) (d : Nat) :
    (Op.equalIn (d + 2) t (den ρ (.fam n s f)) (den ρ (.fam n' s' g))).run P w = .ok b w := by
  unfold arrS at h
  split at h
  · rename_i e he
    split at h
    · rename_i m el hd
      split at h
      · rename_i e2 he2
        split at h
        · rename_i k hd2
          simp only [Option.some.injEq, Prod.mk.injEq] at h
          obtain ⟨rfl, rfl⟩ := h
          obtain ⟨⟨rfl, rfl, rfl, rfl, hz⟩, h1, h2⟩ := hp
          obtain ⟨d', hu, hf⟩ := (hT t e he).desc
          rw [hd] at hf
          simp only [TD.fits] at hf
          subst hf
          obtain ⟨d2, hu2, hf2⟩ := (hT el e2 he2).desc
          rw [hd2] at hf2
          simp only [TD.fits] at hf2
          subst hf2
          have hsz : ∀ w, (sizeOf el).run P w = .ok 1 w := fun w => by rw [(hT el e2 he2).siz w, hz]
          obtain ⟨xs, ex, hx⟩ := fam_ints (ρ := ρ) h1
          obtain ⟨ys, ey, hy⟩ := fam_ints (ρ := ρ) h2
          rw [ex, ey, ← famEq_all]
          exact run_equalIn_ints d hu hu2 hsz _ _ hx hy w
        · cases h
      · cases h
    · cases h
  · cases h

theorem arrS_run {tab : Tab} (hT : tab.Ok P) {t : TypeId} {n s n' s' : Nat} {f g : Nat → SV} {p : Prop} {b : Bool} (h : arrS tab t n s n' s' f g = some (p, b)) (hp : p) (ρ : Env) (w : World) :
    (Op.equal t (den ρ (.fam n s f)) (den ρ (.fam n' s' g))).run P w = .ok b w ∧ (∀ op a c, (eqGuard op t a c (den ρ (.fam n s f)) (den ρ (.fam n' s' g))).run P w = .ok () w) ∧
    (binOp .eql t (den ρ (.fam n s f)) (den ρ (.fam n' s' g)) = (do pure (.bool (← Op.equal t (den ρ (.fam n s f)) (den ρ (.fam n' s' g)))))) ∧
    (binOp .neq t (den ρ (.fam n s f)) (den ρ (.fam n' s' g)) = (do pure (.bool (!(← Op.equal t (den ρ (.fam n s f)) (den ρ (.fam n' s' g))))))) := by
  unfold arrS at h
  split at h
  · rename_i e he
    split at h
    · rename_i m el hd
      split at h
      · rename_i e2 he2
        split at h
        · rename_i k hd2
          simp only [Option.some.injEq, Prod.mk.injEq] at h
          obtain ⟨rfl, rfl⟩ := h
          obtain ⟨⟨rfl, rfl, rfl, rfl, hz⟩, h1, h2⟩ := hp
          obtain ⟨d, hu, hf⟩ := (hT t e he).desc
          rw [hd] at hf
          simp only [TD.fits] at hf
          subst hf
          obtain ⟨d2, hu2, hf2⟩ := (hT el e2 he2).desc
          rw [hd2] at hf2
          simp only [TD.fits] at hf2
          subst hf2
          have hsz : ∀ w, (sizeOf el).run P w = .ok 1 w := fun w => by rw [(hT el e2 he2).siz w, hz]
          obtain ⟨xs, ex, hx⟩ := fam_ints (ρ := ρ) h1
          obtain ⟨ys, ey, hy⟩ := fam_ints (ρ := ρ) h2
          rw [ex, ey]
          refine ⟨?_, fun op a c => ?_, rfl, rfl⟩
          · rw [← famEq_all]
            exact run_equalIn_ints 9998 hu hu2 hsz _ _ hx hy w
          · have hg := run_eqGuardIn_ints 9998 hu hu2 hsz _ _ hx hy w
            cases op <;> simp [eqGuard]
            all_goals
              cases P.eqGuardType P.depth t
              · simp
              · simp [Op.maxDepth, hg]
        · cases h
      · cases h
    · cases h
  · cases h

theorem binS_run {tab : Tab} (hT : tab.Ok P) {op : BinOp} {t : TypeId} {x y v : SV} {p : Prop} (h : binS tab op t x y = some (p, v)) (hp : p) (ρ : Env) (a c : Operand) (w : World) :
    (do eqGuard op t a c (den ρ x) (den ρ y); binOp op t (den ρ x) (den ρ y) : Sem Value).run P w = .ok (den ρ v) w ∧ ∀ n, ok n v := by
  unfold binS at h
  split at h
  · rename_i k a' k' b'
    cases op <;> simp only [Option.some.injEq, Prod.mk.injEq] at h <;> obtain ⟨rfl, rfl⟩ := h <;>
      (refine ⟨?_, fun _ => trivial⟩) <;>
      (first
        | (subst hp; simp [den, eqGuard, binOp, Op.intArith, Op.intCmp, intBits_and, intBits_or, intBits_xor, intBits_andNot]; done)
        | (obtain ⟨rfl, h0⟩ := hp; simp [den, eqGuard, binOp, Op.intDiv, h0]; done)
        | (have h0 : ¬ b' < 0 := by omega
           simp [den, eqGuard, binOp, Op.shift, h0, shlS, shrS]))
  · rename_i a' b'
    cases op <;> simp only [Option.some.injEq, Prod.mk.injEq, reduceCtorEq] at h <;> obtain ⟨rfl, rfl⟩ := h <;>
      (refine ⟨?_, fun _ => trivial⟩) <;>
      (first
        | (simp [den, eqGuard, binOp, Op.stringOp]; done)
        | (have h0 : ¬ (((a'.size + b'.size : Nat) : Int) > IntKind.i64.max) := by
             have : IntKind.i64.max = 9223372036854775807 := by decide
             omega
           simp only [den, eqGuard, binOp, Op.stringOp]
           rw [if_neg h0]; simp))
  · split at h
    · split at h <;> simp only [Option.some.injEq, Prod.mk.injEq, reduceCtorEq] at h
      rename_i p' b hb
      obtain ⟨rfl, rfl⟩ := h
      obtain ⟨h1, h2, h3, h4⟩ := arrS_run hT hb hp ρ w
      exact ⟨by rw [h3, Sem.run_bind, h2, Result.andThen_ok, Sem.run_bind, h1, Result.andThen_ok]; rfl, fun _ => trivial⟩
    · split at h <;> simp only [Option.some.injEq, Prod.mk.injEq, reduceCtorEq] at h
      rename_i p' b hb
      obtain ⟨rfl, rfl⟩ := h
      obtain ⟨h1, h2, h3, h4⟩ := arrS_run hT hb hp ρ w
      exact ⟨by rw [h4, Sem.run_bind, h2, Result.andThen_ok, Sem.run_bind, h1, Result.andThen_ok]; rfl, fun _ => trivial⟩
    · cases h
  · split at h
    · rename_i e he
      split at h
      · rename_i a' b' _ _ _
        split at h <;> simp only [Option.some.injEq, Prod.mk.injEq, reduceCtorEq] at h
        rename_i hd
        obtain ⟨rfl, rfl⟩ := h
        obtain ⟨d, hu, hf⟩ := (hT t e he).und w
        rw [hd] at hf
        simp only [TD.fits] at hf
        subst hf
        have heq : (Op.equal t (.bool a') (.bool b')).run P w = .ok (a' == b') w := equal_step fun n => (by simp only [Op.equalIn, Sem.run_bind, hu, Result.andThen_ok, Sem.run_pure])
        exact ⟨by simp [den, eqGuard, binOp, heq], fun _ => trivial⟩
      · split at h <;> simp only [Option.some.injEq, Prod.mk.injEq, reduceCtorEq] at h
        rename_i b hb
        obtain ⟨rfl, rfl⟩ := h
        obtain ⟨h1, h2, h3, h4⟩ := nilEq_run hT he ρ hb w
        exact ⟨by rw [h3]; simp [h1, h2, den], fun _ => trivial⟩
    · rename_i e he
      split at h
      · rename_i a' b' _ _ _
        split at h <;> simp only [Option.some.injEq, Prod.mk.injEq, reduceCtorEq] at h
        rename_i hd
        obtain ⟨rfl, rfl⟩ := h
        obtain ⟨d, hu, hf⟩ := (hT t e he).und w
        rw [hd] at hf
        simp only [TD.fits] at hf
        subst hf
        have heq : (Op.equal t (.bool a') (.bool b')).run P w = .ok (a' == b') w := equal_step fun n => (by simp only [Op.equalIn, Sem.run_bind, hu, Result.andThen_ok, Sem.run_pure])
        exact ⟨by simp [den, eqGuard, binOp, heq], fun _ => trivial⟩
      · split at h <;> simp only [Option.some.injEq, Prod.mk.injEq, reduceCtorEq] at h
        rename_i b hb
        obtain ⟨rfl, rfl⟩ := h
        obtain ⟨h1, h2, h3, h4⟩ := nilEq_run hT he ρ hb w
        exact ⟨by rw [h4]; simp [h1, h2, den], fun _ => trivial⟩
    · cases h
end Go.Sx
