/- Texts put together: Pieces of bytes: rows, arrays, empty slices of whatever address. No condition. -/
import Derived.Test.YtloinbebkhcndaaMb
import Derived.RangeFuncSeq
import Derived.RangeFuncCalls
import Derived.RangeFuncRecord
import Derived.RangeFuncLeaves
import Derived.Sort.Row
import Derived.Sort.Grow
import Derived.Sort.EveryDepth
set_option linter.all false
namespace Go.Sx
open Go.RowKit

/-- Bytes that a slice shows: a row; an array; an empty slice of whatever address. -/
inductive Pc where
  | row (len : Nat) (B : Nat → BitVec 8)
  | arr (n : Nat) (B : Nat → BitVec 8)
  | nil (a : Option Addr) (c : Nat)

def Pc.sv : Pc → Nat → SV
  | .row len _, k => .osl k 0 0 1 len
  | .arr n _, k => .sl k 0 0 1 n n
  | .nil a c, _ => .v (.slice a 0 c)
def Pc.ch : Pc → Chunk
  | .row len B => .row false len 1 fun i => .int .u8 (nat (B i))
  | .arr n B => .cells false [.fam n 1 fun i => .int .u8 (nat (B i))]
  | .nil _ _ => .row false 0 1 fun _ => .int .u8 0
def Pc.len : Pc → Nat
  | .row len _ => len
  | .arr n _ => n
  | .nil _ _ => 0
def Pc.fn : Pc → Nat → BitVec 8
  | .row _ B => B
  | .arr _ B => B
  | .nil _ _ => fun _ => 0
def Pc.svO (p : Pc) : Option Nat → SV
  | some k => p.sv k
  | none => rnm (fun _ => none) (p.sv 0)

theorem Pc.svO_some (p : Pc) (k : Nat) : p.svO (some k) = p.sv k := rfl
theorem Pc.rnm_sv (p : Pc) (g : Nat → Option Nat) (k : Nat) : rnm g (p.sv k) = p.svO (g k) := by
  cases h : g k <;> cases p <;> simp [Pc.svO, Pc.sv, rnm, h]
theorem Pc.sz_sv (p : Pc) (k : Nat) : sz (p.sv k) = 1 := by cases p <;> rfl
theorem Pc.stor_sv (p : Pc) (k : Nat) : stor (p.sv k) = True := by cases p <;> simp [Pc.sv, stor, Value.oneCell']
theorem Pc.ok_sv (p : Pc) {n k : Nat} (h : k < n) : ok n (p.sv k) = True := by cases p <;> simp [Pc.sv, ok, h]
theorem Pc.chEq_ch (p : Pc) (g : Nat → Option Nat) : chEq g p.ch p.ch = True := by
  cases p <;> simp [Pc.ch, chEq, eqvL, eqv, rnmL, rnm]
theorem Pc.good_ch (p : Pc) (n : Nat) : p.ch.good n = True := by
  cases p <;> simp [Pc.ch, Chunk.good, ok, okL, sz, stor, storL]
theorem Pc.rnmC_ch (p : Pc) (g : Nat → Option Nat) : rnmC g p.ch = p.ch := by
  cases p <;> simp [Pc.ch, rnmC, rnmL, rnm]
theorem Pc.wr_ch (p : Pc) : p.ch.wr = false := by cases p <;> rfl
theorem Pc.live_ch (p : Pc) : p.ch.live = true := by cases p <;> rfl

/-! ### By constructors, so that what is opaque stays whole -/
section
variable {g : Nat → Option Nat} {c : Chunk} {wr wr' : Bool} {fs fs' : List SV} {n n' s s' : Nat} {f f' : Nat → SV} {m m' : Nat} {key val key' val' : Nat → SV} {born born' : Nat → Nat} {clock clock' : Nat}
theorem chEq_0 : chEq g c .none = True := rfl
theorem chEq_1 : chEq g (.cells wr fs) (.cells wr' fs') = ((wr' = true → wr = true) ∧ eqvL fs (rnmL g fs')) := rfl
theorem chEq_2 : chEq g (.row wr n s f) (.row wr' n' s' f') = ((wr' = true → wr = true) ∧ n = n' ∧ s = s' ∧ ∀ i, i < n' → eqv (f i) (rnm g (f' i))) := rfl
theorem chEq_3 : chEq g (.map m key val born clock) (.map m' key' val' born' clock') = (m = m' ∧ clock = clock' ∧ ∀ i, i < m' → eqv (key i) (rnm g (key' i)) ∧ eqv (val i) (rnm g (val' i)) ∧ born i = born' i) := rfl
theorem chEq_4 : chEq g (.rmap m key val born clock) (.rmap m' key' val' born' clock') = (m = m' ∧ clock = clock' ∧ ∀ i, i < m' → eqv (key i) (rnm g (key' i)) ∧ eqv (val i) (rnm g (val' i)) ∧ born i = born' i) := rfl
theorem chEq_5 {x x' : SV} {a a' : Nat} {l l' : List Nat} {b b' : Nat} : chEq g (.iter x a l b) (.iter x' a' l' b') = (a = a' ∧ l = l' ∧ b = b' ∧ eqv x (rnm g x')) := rfl
theorem live_0 : Chunk.none.live = false := rfl
theorem live_1 : (Chunk.cells wr fs).live = true := rfl
theorem live_2 : (Chunk.row wr n s f).live = true := rfl
theorem live_3 : (Chunk.map m key val born clock).live = true := rfl
theorem live_4 : (Chunk.rmap m key val born clock).live = true := rfl
theorem live_5 {x : SV} {a : Nat} {l : List Nat} {b : Nat} : (Chunk.iter x a l b).live = true := rfl
theorem wr_0 : Chunk.none.wr = false := rfl
theorem wr_1 : (Chunk.cells wr fs).wr = wr := rfl
theorem wr_2 : (Chunk.row wr n s f).wr = wr := rfl
theorem wr_3 : (Chunk.map m key val born clock).wr = true := rfl
theorem wr_4 : (Chunk.rmap m key val born clock).wr = false := rfl
theorem wr_5 {x : SV} {a : Nat} {l : List Nat} {b : Nat} : (Chunk.iter x a l b).wr = true := rfl
theorem good_0 : Chunk.none.good n = True := rfl
theorem good_1 : (Chunk.cells wr fs).good n = (okL n fs ∧ storL fs) := rfl
theorem good_2 : (Chunk.row wr m s f).good n = (ok n (.fam m s f) ∧ stor (.fam m s f)) := rfl
theorem good_3 : (Chunk.map m key val born clock).good n = ∀ i, i < m → ok n (key i) ∧ ok n (val i) := rfl
theorem good_4 : (Chunk.rmap m key val born clock).good n = ∀ i, i < m → ok n (key i) ∧ ok n (val i) := rfl
theorem good_5 {x : SV} {a : Nat} {l : List Nat} {b : Nat} : (Chunk.iter x a l b).good n = ok n x := rfl
theorem rnmC_0 : rnmC g .none = .none := rfl
theorem rnmC_1 : rnmC g (.cells wr fs) = .cells wr (rnmL g fs) := rfl
theorem rnmC_2 : rnmC g (.row wr n s f) = .row wr n s fun i => rnm g (f i) := rfl
theorem rnmC_3 : rnmC g (.map m key val born clock) = .map m (fun i => rnm g (key i)) (fun i => rnm g (val i)) born clock := rfl
theorem rnmC_4 : rnmC g (.rmap m key val born clock) = .rmap m (fun i => rnm g (key i)) (fun i => rnm g (val i)) born clock := rfl
theorem rnmC_5 {x : SV} {a : Nat} {l : List Nat} {b : Nat} : rnmC g (.iter x a l b) = .iter (rnm g x) a l b := rfl
end

theorem parts_agg (l : List SV) : parts (.agg l) = l := rfl
theorem parts_v (x : Value) : parts (.v x) = [.v x] := rfl
theorem parts_int (k : IntKind) (n : Int) : parts (.int k n) = [.int k n] := rfl
theorem parts_bool (b : Bool) : parts (.bool b) = [.bool b] := rfl
theorem parts_str (b : ByteArray) : parts (.str b) = [.str b] := rfl
theorem parts_ptr (k b : Nat) : parts (.ptr k b) = [.ptr k b] := rfl
theorem parts_pix (k b i s j : Nat) : parts (.pix k b i s j) = [.pix k b i s j] := rfl
theorem parts_sl (k b e s l c : Nat) : parts (.sl k b e s l c) = [.sl k b e s l c] := rfl
theorem parts_osl (k d e s n : Nat) : parts (.osl k d e s n) = [.osl k d e s n] := rfl
theorem parts_fam (n s : Nat) (f : Nat → SV) : parts (.fam n s f) = [.fam n s f] := rfl
theorem parts_tup (l : List SV) : parts (.tup l) = [.tup l] := rfl
theorem parts_fn (f : Fn) (a c : List SV) : parts (.fn f a c) = [.fn f a c] := rfl
theorem parts_mp (k : Nat) : parts (.mp k) = [.mp k] := rfl
theorem single_agg (l : List SV) : single (.agg l) = false := rfl
theorem single_v (x : Value) : single (.v x) = true := rfl
theorem single_int (k : IntKind) (n : Int) : single (.int k n) = true := rfl
theorem single_bool (b : Bool) : single (.bool b) = true := rfl
theorem single_str (b : ByteArray) : single (.str b) = true := rfl
theorem single_ptr (k b : Nat) : single (.ptr k b) = true := rfl
theorem single_pix (k b i s j : Nat) : single (.pix k b i s j) = true := rfl
theorem single_sl (k b e s l c : Nat) : single (.sl k b e s l c) = true := rfl
theorem single_osl (k d e s n : Nat) : single (.osl k d e s n) = true := rfl
theorem single_fam (n s : Nat) (f : Nat → SV) : single (.fam n s f) = false := rfl
theorem single_tup (l : List SV) : single (.tup l) = false := rfl
theorem single_fn (f : Fn) (a c : List SV) : single (.fn f a c) = true := rfl
theorem single_mp (k : Nat) : single (.mp k) = true := rfl
theorem Pc.parts_sv (p : Pc) (k : Nat) : parts (p.sv k) = [p.sv k] := by cases p <;> rfl
theorem Pc.single_sv (p : Pc) (k : Nat) : single (p.sv k) = true := by cases p <;> rfl
theorem cst1 : ((1 : Nat) : Int) = 1 := rfl
theorem cst2 : ((2 : Nat) : Int) = 2 := rfl
theorem cst32 : ((32 : Nat) : Int) = 32 := rfl
theorem cst0 : ((0 : Nat) : Int) = 0 := rfl
theorem inc0 : IntKind.i64.wrap (0 + 1) = 1 := by decide
theorem inc1 : IntKind.i64.wrap (1 + 1) = 2 := by decide

variable {P : Pr}
/-- What is known of rows of bytes that came in. -/
def rowsKnow (n : Nat) (V : Nat → Value) (Q : Nat → Pc) (w : World) (X : Nat → Prop) : Prop :=
  ∀ i, i < n → ∃ pl : Place, (∀ ρ k, ρ k = pl → V i = den ρ ((Q i).sv k) ∧ Holds ρ w k (Q i).ch) ∧ (pl.nil = false → pl.b < w.heap.size) ∧ (pl.nil = false → ¬ X pl.b)
/-- The rules in one. -/
def pcB := And.intro @Pc.rnm_sv (And.intro @Pc.svO_some (And.intro @Pc.sz_sv (And.intro @Pc.stor_sv (And.intro @Pc.ok_sv (And.intro @Pc.chEq_ch (And.intro @Pc.good_ch (And.intro @Pc.rnmC_ch (And.intro @Pc.wr_ch (@Pc.live_ch)))))))))
def psB := And.intro @parts_agg (And.intro @parts_v (And.intro @parts_int (And.intro @parts_bool (And.intro @parts_str (And.intro @parts_ptr (And.intro @parts_pix (And.intro @parts_sl (And.intro @parts_osl (And.intro @parts_fam (And.intro @parts_tup (And.intro @parts_fn (And.intro @parts_mp (And.intro @Pc.parts_sv (And.intro @single_agg (And.intro @single_v (And.intro @single_int (And.intro @single_bool (And.intro @single_str (And.intro @single_ptr (And.intro @single_pix (And.intro @single_sl (And.intro @single_osl (And.intro @single_fam (And.intro @single_tup (And.intro @single_fn (And.intro @single_mp (@Pc.single_sv)))))))))))))))))))))))))))
def csB := And.intro @cst0 (And.intro @cst1 (And.intro @cst2 (And.intro @cst32 (And.intro @inc0 (@inc1)))))
def chB := And.intro @chEq_0 (And.intro @chEq_1 (And.intro @chEq_2 (And.intro @chEq_3 (And.intro @chEq_4 (@chEq_5)))))
def lvB := And.intro @live_0 (And.intro @live_1 (And.intro @live_2 (And.intro @live_3 (And.intro @live_4 (@live_5)))))
def gdB := And.intro @good_0 (And.intro @good_1 (And.intro @good_2 (And.intro @good_3 (And.intro @good_4 (@good_5)))))
def wrB := And.intro @wr_0 (And.intro @wr_1 (And.intro @wr_2 (And.intro @wr_3 (And.intro @wr_4 (@wr_5)))))
def rcB := And.intro @rnmC_0 (And.intro @rnmC_1 (And.intro @rnmC_2 (And.intro @rnmC_3 (And.intro @rnmC_4 (@rnmC_5)))))
end Go.Sx

namespace Go.Sx
open Go.RowKit Go.WideShapes Go.ChangeShapes

theorem rowsKnow_keep {n : Nat} {V : Nat → Value} {Q : Nat → Pc} {w0 w : World} {X Y : Nat → Prop} (h : rowsKnow n V Q w0 X) (hk : Keep X w0 w) (hY : ∀ b, Y b → X b ∨ w0.heap.size ≤ b) : rowsKnow n V Q w Y := fun i hi => by
  obtain ⟨pl, h1, h2, h3⟩ := h i hi
  refine ⟨pl, fun ρ k hρ => ⟨(h1 ρ k hρ).1, holds_block (fun hn => ?_) (h1 ρ k hρ).2⟩, fun hn => Nat.lt_of_lt_of_le (h2 hn) hk.size, fun hn hy => ?_⟩
  · rw [hρ] at hn ⊢
    exact hk.block _ (h2 hn) (h3 hn)
  · rcases hY _ hy with h4 | h4
    · exact h3 hn h4
    · have := h2 hn
      omega

/-- The program, where rows of bytes that came in are known. -/
@[reducible] def rk (P : Program) (n : Nat) (V : Nat → Value) (Q : Nat → Pc) : Pr := ⟨P, rowsKnow n V Q, fun h hk hY => rowsKnow_keep h hk hY⟩

/-- The start, where what came in may be read only. -/
theorem models_ro {ρ : Env} {W : World} {H : List Chunk} (hh : ∀ k c, H[k]? = some c → c.wr = false ∧ Holds ρ W k c ∧ c.good H.length ∧ ((ρ k).nil = false → (ρ k).b < W.heap.size)) : Models (Ctx.start W ρ H.length) ρ H W where
  keep := Keep.refl _ _
  agree := fun _ _ => rfl
  len := Nat.le_refl _
  holds := fun k c h => (hh k c h).2.1
  okc := fun k c h => (hh k c h).2.2.1
  size := fun k c h hr => (hh k c h).2.2.2 hr.2
  wr := fun k c h hr => absurd hr.1 (by simp [(hh k c h).1])
  sep := fun k k' c c' h h' hne hr _ => absurd hr.1 (by simp [(hh k c h).1])

theorem calls_of_callPK {P : Pr} {f : FuncId} {fn : Func} {c : Code} (hf : P.p.funcs[f]? = some fn) (hname : (fn.name == "runtime.NumGoroutine") = false) (hb : fn.body = some c) {args : List SV} {h : List Chunk} {ρ : Env} {w : World} {b : Bool}
    (hkn : P.know w fun _ => False) (hM : Models (Ctx.start w ρ h.length) ρ h w) (ha : okL h.length args) (hc : callP P f args h fun _ v _ => v = .bool b) :
    Calls P.p f (denL ρ args).toArray w fun e w' => e = .returned (.bool b) ∧ Below w.heap.size w w' := by
  have h1 : fn.name ≠ "runtime.NumGoroutine" := by simpa using hname
  rcases hc _ ρ w hkn hM ha with ⟨w', ρ', sv, h', hr, _⟩ | ⟨_, h2⟩
  · simp [callFunc, hf, h1, hb] at hr
  · refine callsIn_wide.1 ((h2 Fence.wide 0 ⟨fun _ => trivial, rfl⟩ rfl).mono fun e w' => ?_)
    rintro ⟨ρ', sv, h', rfl, rfl, hM', _⟩
    exact ⟨rfl, hM'.keep.os, hM'.keep.tape, hM'.keep.output, hM'.keep.size, fun k hk => hM'.keep.block k hk fun h => h⟩

end Go.Sx

set_option linter.all false
namespace Go.Sx
open Go.RowKit
variable {P : Pr}

/-- How far a client's rounds are. -/
inductive Gh where
  | run (i : Nat)
  | stop (i : Nat)
abbrev Inv := Gh → World → (Nat → Prop) → Prop

def grow (Y : Nat → Prop) (w w' : World) (b : Nat) : Prop := Y b ∨ (w.heap.size ≤ b ∧ b < w'.heap.size)

/-- What a client says of its memory (Y: the new part of it) is not minded by steps beside it. -/
structure Client (X : Nat → Prop) (s0 : Nat) (J : Inv) : Prop where
  stable : ∀ {g : Gh} {w w' : World} {Y Z : Nat → Prop}, J g w Y → Keep Z w w' → (∀ b, Z b → (X b ∨ s0 ≤ b) ∧ ¬ Y b) → J g w' Y
  mono : ∀ {g : Gh} {w : World} {Y Y' : Nat → Prop}, J g w Y → (∀ b, Y b → Y' b) → J g w Y'

/-- A round of the client's. -/
def YieldsTo (P : Program) (l : Nat) (J : Inv) (V : Nat → Prop) (s0 n : Nat) (xs : Nat → Value) : Prop :=
  ∀ (i : Nat) (w : World) (Y : Nat → Prop) (F : Fence) (k : Nat), WideF F → i < n → s0 ≤ w.heap.size → (∀ b, Y b → s0 ≤ b ∧ b < w.heap.size) → J (.run i) w Y →
    YieldAt F k P l #[xs i] w fun e w' => Keep (fun b => Y b ∨ V b) w w' ∧ ((e = .returned (.bool true) ∧ J (.run (i + 1)) w' (grow Y w w')) ∨ (e = .returned (.bool false) ∧ J (.stop (i + 1)) w' (grow Y w w')))

/-- A round of the client's, where the next value is not settled ahead of time. -/
def YieldsR (P : Program) (l : Nat) (J : Inv) (V : Nat → Prop) (s0 : Nat) (R : Nat → Value → Nat → Prop) : Prop :=
  ∀ (i : Nat) (v : Value) (i' : Nat) (w : World) (Y : Nat → Prop) (F : Fence) (k : Nat), WideF F → R i v i' → s0 ≤ w.heap.size → (∀ b, Y b → s0 ≤ b ∧ b < w.heap.size) → J (.run i) w Y →
    YieldAt F k P l #[v] w fun e w' => Keep (fun b => Y b ∨ V b) w w' ∧ ((e = .returned (.bool true) ∧ J (.run i') w' (grow Y w w')) ∨ (e = .returned (.bool false) ∧ J (.stop i') w' (grow Y w w')))

/-- A function that turns nothing: what it gives here. -/
def PureAt (P : Program) (B : Nat → Prop) (fv : Value) (a : List Value) (r : Value) (w0 : World) : Prop :=
  ∃ f cap, fv = .func (.func f) #[] cap ∧ (∀ args w, (callFunc f args).run P w = .ok (.enter f args) w) ∧ (∀ b, B b → b < w0.heap.size) ∧
    ∀ (F : Fence) (m : Nat) (w : World), WideF F → F.round = none → w0.heap.size ≤ w.heap.size → (∀ b, B b → w.heap[b]? = w0.heap[b]?) →
      CallsIn F m P f (a.toArray ++ cap) w fun e w' => e = .returned r ∧ Keep (fun _ => False) w w'

/-- What a body is told of its client. -/
structure Sq where
  l : Nat
  n : Nat
  xs : Nat → Value
  A : Nat → Bool
  fv : Value
  fx : List SV → Option SV
  alt : Option (Nat → Value → Nat → Prop) := none
  pin : Option (Nat × Place) := none

def YieldsS (P : Program) (S : Sq) (J : Inv) (V : Nat → Prop) (s0 : Nat) : Prop :=
  match S.alt with
  | none => YieldsTo P S.l J V s0 S.n S.xs
  | some R => YieldsR P S.l J V s0 R

structure Ghost where
  C : Ctx
  V : Nat → Prop
  J : Inv
  s : Sq

structure Ghost.Ok (P : Pr) (G : Ghost) : Prop where
  cl : Client G.C.X G.C.w0.heap.size G.J
  yl : YieldsS P.p G.s G.J G.V G.C.w0.heap.size
  v : ∀ b, G.V b → b < G.C.w0.heap.size ∧ ¬ G.C.X b
  a : ∀ k, G.s.A k = true → k < G.C.n0 ∧ ((G.C.ρ0 k).nil = false → (G.C.ρ0 k).b < G.C.w0.heap.size ∧ ¬ G.V (G.C.ρ0 k).b)
  kn : P.know G.C.w0 fun b => G.C.X b ∨ G.V b
  fx : ∀ args r, G.s.fx args = some r → ok 0 r ∧ ∀ ρ w X, P.know w X → ∃ B, (∀ b, B b → ¬ X b) ∧ PureAt P.p B G.s.fv (denL ρ args) (den ρ r) w
  pn : ∀ k pl, G.s.pin = some (k, pl) → k < G.C.n0 ∧ G.C.ρ0 k = pl

structure MG (G : Ghost) (Ob : List (Nat × Obj)) (Y : Nat → Prop) (g : Gh) (ρ : Env) (H : List Chunk) (w : World) : Prop where
  m : Models ⟨G.C.w0, fun b => G.C.X b ∨ G.V b, G.C.ρ0, G.C.n0⟩ ρ H w
  own : ∀ k c, H[k]? = some c → RealW ρ k c → G.C.X (ρ k).b ∨ G.C.w0.heap.size ≤ (ρ k).b
  ny : ∀ k c, H[k]? = some c → RealW ρ k c → ¬ Y (ρ k).b
  no : ∀ k c, H[k]? = some c → RealW ρ k c → ∀ p ∈ Ob, (ρ k).b ≠ p.1
  ob : ∀ p ∈ Ob, w.heap[p.1]? = some p.2 ∧ ¬ G.V p.1 ∧ ¬ Y p.1
  yb : ∀ b, Y b → G.C.w0.heap.size ≤ b ∧ b < w.heap.size
  j : G.J g w Y

theorem heap_lt {w : World} {b : Nat} {o : Obj} (h : w.heap[b]? = some o) : b < w.heap.size := (Array.getElem?_eq_some_iff.1 h).1

/-- A step in which no round comes. -/
theorem MG.step {G : Ghost} {Ob : List (Nat × Obj)} {Y : Nat → Prop} {g : Gh} {ρ : Env} {H : List Chunk} {w : World} (hG : G.Ok P) (h : MG G Ob Y g ρ H w) :
    ∃ X, P.know w X ∧ (∀ b, X b → (G.C.X b ∨ G.C.w0.heap.size ≤ b) ∧ ¬ Y b) ∧ Models ⟨w, X, G.C.ρ0, G.C.n0⟩ ρ H w ∧ ∀ ρ' H' w', Models ⟨w, X, G.C.ρ0, G.C.n0⟩ ρ' H' w' → MG G Ob Y g ρ' H' w' := by
  refine ⟨fun b => (G.C.X b ∨ G.C.w0.heap.size ≤ b) ∧ ¬ Y b ∧ ∀ p ∈ Ob, b ≠ p.1, ?_, fun b hb => ⟨hb.1, hb.2.1⟩, ?_, ?_⟩
  · exact P.keep hG.kn h.m.keep fun b hb => hb.1.elim (fun h => .inl (.inl h)) .inr
  · exact ⟨Keep.refl _ _, h.m.agree, h.m.len, h.m.holds, h.m.okc, h.m.size, fun k c hc hr => .inl ⟨h.own k c hc hr, h.ny k c hc hr, h.no k c hc hr⟩, h.m.sep⟩
  · intro ρ' H' w' hm
    refine ⟨⟨?_, hm.agree, hm.len, hm.holds, hm.okc, hm.size, ?_, hm.sep⟩, ?_, ?_, ?_, ?_, ?_, ?_⟩
    · exact h.m.keep.step hm.keep fun b hb => hb.1.elim (fun h => .inl (.inl h)) .inr
    · intro k c hc hr
      rcases hm.wr k c hc hr with hb | hb
      · exact hb.1.elim (fun h => .inl (.inl h)) .inr
      · exact .inr (Nat.le_trans h.m.keep.size hb)
    · intro k c hc hr
      rcases hm.wr k c hc hr with hb | hb
      · exact hb.1
      · exact .inr (Nat.le_trans h.m.keep.size hb)
    · intro k c hc hr hy
      rcases hm.wr k c hc hr with hb | hb
      · exact hb.2.1 hy
      · have := (h.yb _ hy).2
        simp only at hb
        omega
    · intro k c hc hr p hp
      rcases hm.wr k c hc hr with hb | hb
      · exact hb.2.2 p hp
      · have := heap_lt (h.ob p hp).1
        simp only at hb
        omega
    · intro p hp
      obtain ⟨h1, h2, h3⟩ := h.ob p hp
      exact ⟨(hm.keep.block p.1 (heap_lt h1) fun hx => hx.2.2 p hp rfl).trans h1, h2, h3⟩
    · intro b hb
      exact ⟨(h.yb b hb).1, Nat.lt_of_lt_of_le (h.yb b hb).2 hm.keep.size⟩
    · exact hG.cl.stable h.j hm.keep fun b hb => ⟨hb.1, hb.2.1⟩

def roA (A : Nat → Bool) : Nat → List Chunk → Prop
  | _, [] => True
  | k, c :: r => (c.wr = true ∨ c.live = false ∨ A k = true) ∧ roA A (k + 1) r
theorem roA_spec {A : Nat → Bool} : ∀ {H : List Chunk} {k0 k : Nat} {c : Chunk}, roA A k0 H → H[k]? = some c → c.wr = true ∨ c.live = false ∨ A (k0 + k) = true
  | [], _, k, c, _, hc => by simp at hc
  | c0 :: H, k0, 0, c, h, hc => by simp at hc; subst hc; exact h.1
  | c0 :: H, k0, k + 1, c, h, hc => by
    have := roA_spec (k := k) h.2 (by simpa using hc)
    rwa [show k0 + 1 + k = k0 + (k + 1) by omega] at this

/-- The memory of each name lies outside what a round may turn. -/
theorem MG.away {G : Ghost} {Ob : List (Nat × Obj)} {Y : Nat → Prop} {g : Gh} {ρ : Env} {H : List Chunk} {w : World} (hG : G.Ok P) (h : MG G Ob Y g ρ H w) (hr : roA G.s.A 0 H) {k : Nat} {c : Chunk} (hc : H[k]? = some c) (hR : Real ρ k c) :
    ¬ Y (ρ k).b ∧ ¬ G.V (ρ k).b := by
  rcases roA_spec hr hc with hw | hl | ha
  · refine ⟨h.ny k c hc ⟨hw, hR.2⟩, fun hv => ?_⟩
    rcases h.own k c hc ⟨hw, hR.2⟩ with ho | ho
    · exact (hG.v _ hv).2 ho
    · have := (hG.v _ hv).1; omega
  · rw [hR.1] at hl; cases hl
  · rw [Nat.zero_add] at ha
    have h1 := hG.a k ha
    have he := h.m.agree k h1.1
    simp only at he
    have h2 := h1.2 (by rw [← he]; exact hR.2)
    rw [← he] at h2
    exact ⟨fun hy => (by have := (h.yb _ hy).1; omega), h2.2⟩

/-- Behind a round. -/
theorem MG.round {G : Ghost} {Ob : List (Nat × Obj)} {Y : Nat → Prop} {g g' : Gh} {ρ : Env} {H : List Chunk} {w w' : World} (hG : G.Ok P) (h : MG G Ob Y g ρ H w) (hr : roA G.s.A 0 H)
    (hk : Keep (fun b => Y b ∨ G.V b) w w') (hj : G.J g' w' (grow Y w w')) : MG G Ob (grow Y w w') g' ρ H w' := by
  refine ⟨⟨?_, h.m.agree, h.m.len, ?_, h.m.okc, ?_, h.m.wr, h.m.sep⟩, h.own, ?_, h.no, ?_, ?_, hj⟩
  · exact h.m.keep.step hk fun b hb => hb.elim (fun hy => .inr (h.yb b hy).1) fun hv => .inl (.inr hv)
  · intro k c hc
    by_cases hl : c.live = true
    · refine holds_block (fun hn => ?_) (h.m.holds k c hc)
      have := h.away hG hr hc ⟨hl, hn⟩
      exact hk.block _ (h.m.size k c hc ⟨hl, hn⟩) fun hx => hx.elim this.1 this.2
    · cases c <;> simp [Chunk.live] at hl
      trivial
  · exact fun k c hc hR => Nat.lt_of_lt_of_le (h.m.size k c hc hR) hk.size
  · intro k c hc hR hy
    rcases hy with hy | hy
    · exact h.ny k c hc hR hy
    · have := h.m.size k c hc hR.real; omega
  · intro p hp
    obtain ⟨h1, h2, h3⟩ := h.ob p hp
    refine ⟨(hk.block p.1 (heap_lt h1) fun hx => hx.elim h3 h2).trans h1, h2, fun hy => ?_⟩
    rcases hy with hy | hy
    · exact h3 hy
    · have := heap_lt h1; omega
  · intro b hb
    rcases hb with hb | hb
    · exact ⟨(h.yb b hb).1, Nat.lt_of_lt_of_le (h.yb b hb).2 hk.size⟩
    · exact ⟨Nat.le_trans h.m.keep.size hb.1, hb.2⟩

def mark (D : Nat) : Deferred := { target := .collected D, args := #[] }
def actY (ρ : Env) (t : Slots) (Ds : List Nat) : Act := ⟨(tmpsD ρ t).toArray, Ds.map mark⟩
theorem act_actY (ρ : Env) (t : Slots) (h : List Chunk) (Ds : List Nat) : act ρ ⟨t, h, Ds.map mark⟩ = actY ρ t Ds := rfl

/-- One operation. -/
def opY (P : Pr) (tab : Tab) (S : Sq) (g : Gh) (t : Slots) (h : List Chunk) (o : Op) (K : Tok → Gh → SV → List Chunk → Prop) : Prop :=
  match o with
  | .call ⟨.value gop, ⟨args⟩, tys⟩ => match ev t gop with
    | .v (.func (.yield l) first cap) => match args with
      | [a] => match g with
        | .run i => match S.alt with
          | none => (l = S.l ∧ first = #[] ∧ cap = #[] ∧ i < S.n ∧ (∀ ρ, den ρ (ev t a) = S.xs i) ∧ roA S.A 0 h) ∧ K .mk (.run (i + 1)) (.bool true) h ∧ K .mk (.stop (i + 1)) (.bool false) h
          | some R => ∃ i', (l = S.l ∧ first = #[] ∧ cap = #[] ∧ (∀ ρ, R i (den ρ (ev t a)) i') ∧ roA S.A 0 h) ∧ K .mk (.run i') (.bool true) h ∧ K .mk (.stop i') (.bool false) h
        | .stop _ => False
      | _ => False
    | .v (.func (.func f) first cap) => match S.fx (args.map (ev t)) with
      | some r => S.fv = .func (.func f) first cap ∧ K .mk g r h
      | none => False
    | _ => opP P tab t h (.call ⟨.value gop, ⟨args⟩, tys⟩) fun k v h' => K k g v h'
  | o => opP P tab t h o fun k v h' => K k g v h'

def OnwardY (G : Ghost) (Ob : List (Nat × Obj)) (Ds : List Nat) (ρ : Env) (t : Slots) (h : List Chunk) (dst : Option Nat) (K : Gh → SV → List Chunk → Prop) (next : Act → World → Prop) : Prop :=
  ∀ g' Y' ρ' sv h' w', K g' sv h' → MG G Ob Y' g' ρ' h' w' → Agree h.length ρ ρ' → ok h'.length sv → h.length ≤ h'.length → next (actY ρ' (putO t dst sv) Ds) w'

section
variable {F : Fence} {n : Nat} {ops : Array Oper} {tab : Tab} {G : Ghost} {Ob : List (Nat × Obj)} {Ds : List Nat}

theorem opP_runY {Y : Nat → Prop} {g : Gh} {ρ : Env} {t : Slots} {h : List Chunk} {o : Oper} {w : World} {K : Tok → Gh → SV → List Chunk → Prop} {next : Act → World → Prop} {Q : Exit → Act → World → Prop}
    (hF : WideF F) (hT : tab.Ok P) (hG : G.Ok P) (hM : MG G Ob Y g ρ h w) (hok : okS h.length t) (hn : OnwardY G Ob Ds ρ t h o.dst (K .mk) next)
    (ho : opP P tab t h o.op fun k v h' => K k g v h') : o.wpIn F n P (actY ρ t Ds) w next Q := by
  obtain ⟨X, hk, _, hm, back⟩ := hM.step hG
  exact opP_run (st := ⟨t, h, Ds.map mark⟩) (C := ⟨w, X, G.C.ρ0, G.C.n0⟩) hF hT hk ho hm hok fun ρ' sv h' w' hK hM' ha hs hl => hn g Y ρ' sv h' w' hK (back ρ' h' w' hM') ha hs hl

theorem opY_run {Y : Nat → Prop} {g : Gh} {ρ : Env} {t : Slots} {h : List Chunk} {o : Oper} {w : World} {K : Tok → Gh → SV → List Chunk → Prop} {next : Act → World → Prop} {Q : Exit → Act → World → Prop}
    (hF : WideF F) (hT : tab.Ok P) (hG : G.Ok P) (ho : opY P tab G.s g t h o.op K) (hM : MG G Ob Y g ρ h w) (hok : okS h.length t) (hn : OnwardY G Ob Ds ρ t h o.dst (K .mk) next) :
    o.wpIn F n P (actY ρ t Ds) w next Q := by
  unfold opY at ho
  split at ho
  · rename_i op gop args tys hop
    split at ho
    · rename_i l first cap hg
      split at ho
      · rename_i a
        split at ho
        · rename_i i
          have fin : ∀ (v : Value) (i' : Nat), den ρ (ev t a) = v → roA G.s.A 0 h → K .mk (.run i') (.bool true) h → K .mk (.stop i') (.bool false) h →
              (YieldAt F (n - 1) P.p G.s.l #[v] w fun e w' => Keep (fun b => Y b ∨ G.V b) w w' ∧ ((e = .returned (.bool true) ∧ G.J (.run i') w' (grow Y w w')) ∨ (e = .returned (.bool false) ∧ G.J (.stop i') w' (grow Y w w')))) →
              l = G.s.l → first = #[] → cap = #[] → o.wpIn F n P (actY ρ t Ds) w next Q := by
            rintro v i' hx hra h1 h2 hyy rfl rfl rfl
            obtain ⟨fn, tmps, assign, body, hy, hR⟩ := hyy
            refine ⟨fun f _ => hF.fn f, ?_⟩
            rw [Oper.semAt_eq F.round _ o (by simp [hop])]
            have hrun : (execOp (actY ρ t Ds).eval o).run P w = (Instr.yield G.s.l #[v]).run P w := by
              rw [← act_actY ρ t h Ds]
              unfold execOp
              simp only [hop, resolve, act_eval ρ ⟨t, h, Ds.map mark⟩ hok, hg, den, Deferred.ofValue, Sem.run_bind, Sem.run_pure, Result.andThen_ok, invoke]
              simp [act_eval ρ ⟨t, h, Ds.map mark⟩ hok, hx]
            rw [hrun, hy]
            simp only [Oper.uponIn]
            refine ⟨fun hd => absurd hd (by rw [hF.depth]; simp), RoundIn.mono hR ?_⟩
            rintro e w' ⟨hk, ⟨rfl, hj⟩ | ⟨rfl, hj⟩⟩
            · simp only
              have hm := hM.round hG hra hk hj
              have := hn _ _ ρ (.bool true) h w' h1 hm (fun _ _ => rfl) trivial (Nat.le_refl _)
              rw [← act_actY ρ t h Ds, show (Value.bool true) = den ρ (.bool true) from rfl, act_put]
              exact this
            · simp only
              have hm := hM.round hG hra hk hj
              have := hn _ _ ρ (.bool false) h w' h2 hm (fun _ _ => rfl) trivial (Nat.le_refl _)
              rw [← act_actY ρ t h Ds, show (Value.bool false) = den ρ (.bool false) from rfl, act_put]
              exact this
          have hyl := hG.yl
          unfold YieldsS at hyl
          split at ho
          · rename_i halt
            rw [halt] at hyl
            obtain ⟨⟨q1, q2, q3, hi, hx, hra⟩, h1, h2⟩ := ho
            exact fin _ _ (hx ρ) hra h1 h2 (hyl i w Y F (n - 1) hF hi hM.m.keep.size hM.yb hM.j) q1 q2 q3
          · rename_i R halt
            rw [halt] at hyl
            obtain ⟨i', ⟨q1, q2, q3, hx, hra⟩, h1, h2⟩ := ho
            exact fin _ i' rfl hra h1 h2 (hyl i _ i' w Y F (n - 1) hF (hx ρ) hM.m.keep.size hM.yb hM.j) q1 q2 q3
        · exact ho.elim
      · exact ho.elim
    · rename_i f first cap hg
      split at ho
      · rename_i r hr
        obtain ⟨hfv, hK⟩ := ho
        obtain ⟨X, hk, hX, hm, back⟩ := hM.step hG
        obtain ⟨hok0, hpure⟩ := hG.fx _ _ hr
        obtain ⟨B, hB, f', cap', hv, he, hBs, hc⟩ := hpure ρ w X hk
        rw [hfv] at hv
        obtain ⟨rfl, rfl, rfl⟩ : f = f' ∧ first = #[] ∧ cap = cap' := by
          simp only [Value.func.injEq, Fn.func.injEq] at hv
          exact hv
        refine ⟨fun f _ => hF.fn f, ?_⟩
        rw [Oper.semAt_eq F.round _ o (by simp [hop])]
        have hrun : (execOp (actY ρ t Ds).eval o).run P w = (callFunc f ((denL ρ (args.map (ev t))).toArray ++ cap)).run P w := by
          rw [← act_actY ρ t h Ds]
          unfold execOp
          simp only [hop, resolve, act_eval ρ ⟨t, h, Ds.map mark⟩ hok, hg, den, Deferred.ofValue, Sem.run_bind, Sem.run_pure, Result.andThen_ok, invoke]
          congr 2
          have := denL_map_ev ρ ⟨t, h, Ds.map mark⟩ hok args
          simp only at this
          rw [this]
          apply Array.ext'
          simp
        rw [hrun, he]
        simp only [Oper.uponIn]
        refine ⟨fun hd => absurd hd (by rw [hF.depth]; simp), ?_⟩
        have h2 := hc { F with round := none } (n - 1) w ⟨hF.fn, hF.depth⟩ rfl (Nat.le_refl _) (fun _ _ => rfl)
        refine CallsIn.mono (F := F) h2 ?_
        rintro e w' ⟨rfl, hkeep⟩
        simp only
        have := hn _ _ ρ r h w' hK (back ρ h w' (hm.same hkeep)) (fun _ _ => rfl) (ok_mono (Nat.zero_le _) _ hok0) (Nat.le_refl _)
        rw [← act_actY ρ t h Ds, act_put]
        exact this
      · exact ho.elim
    · refine opP_runY hF hT hG hM hok hn ?_
      rw [hop]
      exact ho
  · refine opP_runY hF hT hG hM hok hn ho
end
end Go.Sx

set_option linter.all false
namespace Go.Sx
open Go.RowKit
variable {P : Pr}

def RoundOk (F : Fence) (Ob : List (Nat × Obj)) : Prop := ∀ l0, F.round = some l0 → ∃ r, (l0, Obj.loop r) ∈ Ob
def Marked (s0 : Nat) (Ds : List Nat) (Ob : List (Nat × Obj)) : Prop := Ds.Nodup ∧ ∀ D ∈ Ds, (D, Obj.deferred (some [])) ∈ Ob ∧ s0 ≤ D

def QY (G : Ghost) (Ob : List (Nat × Obj)) (N : Gh → Slots → List Chunk → Prop) (E : Gh → Exit → Slots → List Chunk → Prop) (e : Exit) (a : Act) (w : World) : Prop :=
  ∃ g Y Ob' Ds ρ t h, (match e with | .normal => N g t h | e => E g e t h) ∧ MG G Ob' Y g ρ h w ∧ okS h.length t ∧ (∀ p ∈ Ob, p ∈ Ob') ∧ Marked G.C.w0.heap.size Ds Ob' ∧ a = actY ρ t Ds

def codeY (P : Pr) (nf : Nat) (S : Sq) (c : Code) (g : Gh) (t : Slots) (h : List Chunk) (N : Gh → Slots → List Chunk → Prop) (E : Gh → Exit → Slots → List Chunk → Prop) : Prop :=
  ∀ (G : Ghost) (Ob : List (Nat × Obj)) (Y : Nat → Prop) (Ds : List Nat) (ρ : Env) (w : World) (F : Fence) (m : Nat), G.Ok P → G.s = S → G.C.n0 ≤ nf → WideF F → RoundOk F Ob → MG G Ob Y g ρ h w → okS h.length t → Marked G.C.w0.heap.size Ds Ob →
    c.wpIn F m P.p (QY G Ob N E) (actY ρ t Ds) w

def rnY (k : Tok) (P : Pr) (tab : Tab) (S : Sq) (ops : Array Oper) : List Oper → Gh → Slots → List Chunk → (Tok → Gh → Slots → List Chunk → Prop) → Prop
  | [], g, t, h, K => K .mk g t h
  | o :: r, g, t, h, K => gd ops t o.guard (fun t => opY P tab S g t h o.op fun k g v h' => rnY k P tab S ops r g (putO t o.dst v) h' K) (fun t => rnY k P tab S ops r g (putO t o.dst (.tup [])) h K)

def rpY (k : Tok) (P : Pr) (tab : Tab) (S : Sq) (ops : Array Oper) : Plan → List (Nat × List Nat) → Gh → Slots → List Chunk → (Tok → Gh → Slots → List Chunk → Prop) → Prop
  | .nil, _, g, t, h, K => K .mk g t h
  | .q i p, rd, g, t, h, K => match ops[i]? with
    | some o => gd ops t o.guard (fun t => match qv tab t h o.op with
        | some (c, v) => c ∧ rpY k P tab S ops p ((i, qn t o.op) :: rd) g (putO t o.dst v) h K
        | none => False) (fun t => rpY k P tab S ops p rd g (putO t o.dst (.tup [])) h K)
    | none => False
  | .e1 i ws p, rd, g, t, h, K => match ops[i]? with
    | some o => gd ops t o.guard (fun t => opY P tab S g t h o.op fun k g v h' => stays ws h h' rd ∧ rpY k P tab S ops p rd g (putO t o.dst v) h' K) (fun t => rpY k P tab S ops p rd g (putO t o.dst (.tup [])) h K)
    | none => False
  | .e2 .., _, _, _, _, _ => False

def vcY (k : Tok) (P : Pr) (tab : Tab) (nf : Nat) (pl : Nat → Plan) (S : Sq) : Code → Gh → Slots → List Chunk → (Tok → Gh → Slots → List Chunk → Prop) → (Tok → Gh → Exit → Slots → List Chunk → Prop) → Prop
  | .skip, g, t, h, N, _ => N .mk g t h
  | .label _, g, t, h, N, _ => N .mk g t h
  | .region _ ops false, g, t, h, N, _ => rnY k P tab S ops ops.toList g t h fun k g t h => N k g t h
  | .region id ops true, g, t, h, N, _ => rpY k P tab S ops (pl id) [] g t h fun k g t h => N k g t h
  | .seq a b, g, t, h, N, E => vcY k P tab nf pl S a g t h (fun k g t h => vcY k P tab nf pl S b g t h N E) E
  | .cond c a b, g, t, h, N, E => match ev t c with
    | .bool x => imp (x = true) (vcY k P tab nf pl S a g t h N E) ∧ imp (x = false) (vcY k P tab nf pl S b g t h N E)
    | _ => False
  | .block id c, g, t, h, N, E => vcY k P tab nf pl S c g t h N fun k g e t h => match e with
    | .exit j => if j = id then N k g t h else E k g (.exit j) t h
    | e => E k g e t h
  | .exit id, g, t, h, _, E => E .mk g (.exit id) t h
  | .ret, g, t, h, _, E => E .mk g .ret t h
  | .loop c, g, t, h, N, E => codeY P nf S (.loop c) g t h (N .mk) (E .mk)
  | .rangeFunc f ps a b, g, t, h, N, E => codeY P nf S (.rangeFunc f ps a b) g t h (N .mk) (E .mk)
  | _, _, _, _, _, _ => False

section
variable {F : Fence} {n : Nat} {ops : Array Oper} {tab : Tab} {G : Ghost} {Ob : List (Nat × Obj)} {Ds : List Nat} {Q : Exit → Act → World → Prop}

theorem guard_runY {ρ : Env} {t : Slots} {h : List Chunk} {o : Oper} {yes no : Slots → Prop} {R : Prop} (hg : gd ops t o.guard yes no) (hok : okS h.length t)
    (hy : ∀ t', yes t' → actY ρ t' Ds = actY ρ t Ds → okS h.length t' → Region.wanted o (yielded ops (actY ρ t Ds).tmps) = true → R)
    (hno : ∀ t', no t' → actY ρ t' Ds = actY ρ t Ds → okS h.length t' → Region.wanted o (yielded ops (actY ρ t Ds).tmps) = false → R) : R :=
  gd_run (ρ := ρ) (st := ⟨t, h, Ds.map mark⟩) hg hok (fun t' h1 h2 h3 h4 => hy t' h1 (by unfold actY; rw [h2]) h3 h4) (fun t' h1 h2 h3 h4 => hno t' h1 (by unfold actY; rw [h2]) h3 h4)

theorem put_undefY (ρ : Env) (t : Slots) (h : List Chunk) (d : Option Nat) : (actY ρ t Ds).put d undef = actY ρ (putO t d (.tup [])) Ds := by
  rw [show (undef : Value) = den ρ (.tup []) from rfl, ← act_actY ρ t h Ds, act_put]
  rfl

theorem rnY_run (hF : WideF F) (hT : tab.Ok P) (hG : G.Ok P) {K : Tok → Gh → Slots → List Chunk → Prop}
    (hQ : ∀ g Y ρ t h w, K .mk g t h → MG G Ob Y g ρ h w → okS h.length t → Q .normal (actY ρ t Ds) w) :
    ∀ (l : List Oper) (g : Gh) (Y : Nat → Prop) (t : Slots) (h : List Chunk), rnY .mk P tab G.s ops l g t h K → ∀ ρ w, MG G Ob Y g ρ h w → okS h.length t → wpListIn F n P ops Q l (actY ρ t Ds) w
  | [], g, Y, t, h, hr, ρ, w, hM, hok => hQ g Y ρ t h w hr hM hok
  | o :: l, g, Y, t, h, hr, ρ, w, hM, hok => by
    simp only [rnY] at hr
    simp only [wpListIn]
    refine guard_runY (ρ := ρ) (Ds := Ds) hr hok ?_ ?_
    · intro t' hy he hok' hw
      rw [if_pos hw, ← he]
      refine opY_run hF hT hG hy hM hok' ?_
      intro g' Y' ρ' sv h' w' hK hM' ha hs hl
      exact rnY_run hF hT hG hQ l g' Y' _ h' hK ρ' w' hM' (okS_putO (okS_mono hl hok') hs)
    · intro t' hno he hok' hw
      rw [if_neg (by rw [hw]; simp), ← he, put_undefY ρ t' h]
      exact ⟨fun f _ => hF.fn f, rnY_run hF hT hG hQ l g Y _ h hno ρ w hM (okS_putO hok' trivial)⟩

theorem TrackY.alive {es : List Nat} {Fa : Facts} {L : Array Bool} {rd : List (Nat × List Nat)} {Y : Nat → Prop} {g : Gh} {ρ : Env} {h : List Chunk} {w : World} (ht : Track ops es Fa L rd ρ h) (hM : MG G Ob Y g ρ h w) :
    Alive .any ops (es.contains ·) Fa L w := ht.alive hM.m

theorem rpY_eff (hF : WideF F) (hT : tab.Ok P) (hG : G.Ok P) {es : List Nat} {i : Nat} {o : Oper} (ho : ops[i]? = some o) {Fa : Facts} {L : Array Bool} (hL : L.size = ops.size) {ws : List Nat} (hws : (ws.all fun k => waits .any ops i k) = true) (hei : es.contains i = true)
    {rd : List (Nat × List Nat)} {g : Gh} {Y : Nat → Prop} {t : Slots} {h : List Chunk} {ρ : Env} {w : World} {K1 : Tok → Gh → Slots → List Chunk → Prop} {N : Act → World → Prop}
    (hg : gd ops t o.guard (fun t => opY P tab G.s g t h o.op fun k g v h' => stays ws h h' rd ∧ K1 k g (putO t o.dst v) h') (fun t => K1 .mk g (putO t o.dst (.tup [])) h))
    (hM : MG G Ob Y g ρ h w) (hok : okS h.length t) (ht : Track ops es Fa L rd ρ h)
    (hN : ∀ g' Y' ρ' t' h' w', K1 .mk g' t' h' → MG G Ob Y' g' ρ' h' w' → okS h'.length t' → Track ops es Fa (setB L i) rd ρ' h' → N (actY ρ' t' Ds) w') :
    wpOpIn F n P ops Q i N (actY ρ t Ds) w := by
  unfold wpOpIn
  simp only [ho]
  have hlt : i < L.size := by rw [hL]; exact (Array.getElem?_eq_some_iff.1 ho).1
  refine guard_runY (ρ := ρ) (Ds := Ds) hg hok ?_ ?_
  · intro t' hy he hok' hw
    rw [if_pos hw, ← he]
    refine opY_run hF hT hG hy hM hok' ?_
    intro g' Y' ρ' sv h' w' hK hM' ha hs hl
    exact hN g' Y' ρ' _ h' w' hK.2 hM' (okS_putO (okS_mono hl hok') hs) (ht.eff hM.m ha hws hlt hei hK.1)
  · intro t' hno he hok' hw
    rw [if_neg (by rw [hw]; simp), ← he, put_undefY ρ t' h]
    exact ⟨fun f _ => hF.fn f, hN g Y ρ _ h w hno hM (okS_putO hok' trivial) (ht.set i)⟩

theorem rpY_run (hF : WideF F) (hT : tab.Ok P) (hG : G.Ok P) (hP : plainB ops = true) {es : List Nat} {K : Tok → Gh → Slots → List Chunk → Prop}
    (hQ : ∀ g Y ρ t h w, K .mk g t h → MG G Ob Y g ρ h w → okS h.length t → Q .normal (actY ρ t Ds) w) (hQp : ∀ c a w, ¬ Q (.panic c) a w) :
    ∀ (p : Plan) (fuel : Nat) (L : Array Bool) (rd : List (Nat × List Nat)) (g : Gh) (Y : Nat → Prop) (t : Slots) (h : List Chunk) (Fa : Facts) (ρ : Env) (w : World), Cl .any ops L → L.size = ops.size → planOk ops es p fuel L = true → rpY .mk P tab G.s ops p rd g t h K →
      MG G Ob Y g ρ h w → okS h.length t → Track ops es Fa L rd ρ h → wpAnyG F n P .any ops Q (es.contains ·) Fa fuel L (actY ρ t Ds) w := by
  have hsel : ∀ (j : Nat) (o : Oper) cs b, ops[j]? = some o → o.op ≠ .select cs b := fun j o cs b hj hx => by
    have := List.all_eq_true.1 hP o (by simpa using Array.mem_of_getElem? hj)
    rw [hx] at this
    cases this
  have hdef : ∀ (j : Nat) (o : Oper) c, ops[j]? = some o → o.op ≠ .defer c := fun j o c hj hx => by
    have := List.all_eq_true.1 hP o (by simpa using Array.mem_of_getElem? hj)
    rw [hx] at this
    cases this
  intro p
  induction p with
  | nil =>
    intro fuel L rd g Y t h Fa ρ w hcl hL hp hr hM hok ht
    have hre : Region.ready .any ops L = [] := by
      cases fuel <;> simpa [planOk] using hp
    have hq := hQ g Y ρ t h w hr hM hok
    cases fuel with
    | zero => exact ⟨hre, hq⟩
    | succ fuel => exact ⟨fun _ => hq, fun i hi => by rw [hre] at hi; cases hi⟩
  | q i p ih =>
    intro fuel L rd g Y t h Fa ρ w hcl hL hp hr hM hok ht
    cases fuel with
    | zero => simp [planOk] at hp
    | succ fuel =>
      simp only [planOk, Bool.and_eq_true, Bool.not_eq_true'] at hp
      obtain ⟨⟨⟨⟨h1, h2⟩, h3⟩, h4⟩, h5⟩ := hp
      simp only [rpY] at hr
      split at hr
      · rename_i o ho
        have hready : i ∈ Region.ready .any ops L := by simpa using h2
        refine guard_runY (ρ := ρ) (Ds := Ds) hr hok ?_ ?_
        · intro t' hy he hok' hw
          rw [← he] at hw ⊢
          split at hy
          · rename_i c v hq
            have hyl : YieldsG P ops (fun w' => ∀ nm ∈ qn t' o.op, Holds ρ w' nm (lookH h nm)) o (den ρ v) (actY ρ t' Ds) :=
              ⟨fun c => hdef i o c ho, .inl ⟨hw, fun w' hw' => (qv_run hT (st := ⟨t', h, Ds.map mark⟩) hq hy.1 ρ hok' w' hw' (lookH_good hM.m)).1⟩⟩
            refine wpAnyG_first hF ho hsel hdef h1 (fun c a w hx => absurd hx (hQp _ _ _)) fuel L _ w hcl (fun j oj hj hji hun hno => freeB_spec ho h3 j oj hj hji hun hno) (heldB_spec h4) hready hyl (fun nm _ => lookH_holds hM.m nm) (ht.alive hM.m) ?_
            rw [← act_actY ρ t' h, act_put]
            refine ih fuel (setB L i) _ g Y _ h _ ρ w (cl_set hcl hready) (by simp [setB, hL]) h5 hy.2 hM (okS_putO hok' (qv_run hT (st := ⟨t', h, Ds.map mark⟩) hq hy.1 ρ hok' w (fun nm _ => lookH_holds hM.m nm) (lookH_good hM.m)).2) ?_
            intro q hq'
            rcases List.mem_cons.1 hq' with rfl | hq'
            · exact .inr (.inr ⟨_, List.mem_cons_self .., fun _ hx => hx⟩)
            · rcases ht q hq' with ⟨j, g1, g2⟩ | g1 | ⟨ns, g1, g2⟩
              · exact .inl ⟨j, getD_set_true g1, g2⟩
              · exact .inr (.inl g1)
              · exact .inr (.inr ⟨ns, List.mem_cons_of_mem _ g1, g2⟩)
          · exact hy.elim
        · intro t' hno he hok' hw
          rw [← he] at hw ⊢
          have hyl : YieldsG P ops (fun _ => True) o undef (actY ρ t' Ds) := ⟨fun c => hdef i o c ho, .inr ⟨hw, rfl⟩⟩
          refine wpAnyG_first hF ho hsel hdef h1 (fun c a w hx => absurd hx (hQp _ _ _)) fuel L _ w hcl (fun j oj hj hji hun hno => freeB_spec ho h3 j oj hj hji hun hno) (heldB_spec h4) hready hyl trivial (ht.alive hM.m) ?_
          rw [put_undefY ρ t' h]
          refine ih fuel (setB L i) _ g Y _ h _ ρ w (cl_set hcl hready) (by simp [setB, hL]) h5 hno hM (okS_putO hok' trivial) ?_
          intro q hq'
          rcases List.mem_cons.1 hq' with rfl | hq'
          · exact .inr (.inl fun _ => trivial)
          · exact ht.set i q hq'
      · exact hr.elim
  | e1 i ws p ih =>
    intro fuel L rd g Y t h Fa ρ w hcl hL hp hr hM hok ht
    cases fuel with
    | zero => simp [planOk] at hp
    | succ fuel =>
      simp only [planOk, Bool.and_eq_true, beq_iff_eq] at hp
      obtain ⟨⟨⟨h0, h1⟩, h2⟩, h5⟩ := hp
      simp only [rpY] at hr
      split at hr
      · rename_i o ho
        refine ⟨fun hx => by (rw [h2] at hx; cases hx), fun j hj => ?_⟩
        have hcl' := cl_set hcl hj
        rw [h2, List.mem_singleton] at hj
        subst hj
        refine rpY_eff (K1 := fun k g t h => rpY k P tab G.s ops p rd g t h K) hF hT hG ho hL h0 h1 hr hM hok ht ?_
        intro g' Y' ρ' t' h' w' hk hM' hok' ht'
        exact ⟨ht'.alive hM'.m, ih fuel (setB L j) rd g' Y' t' h' Fa ρ' w' hcl' (by simp [setB, hL]) h5 hk hM' hok' ht'⟩
      · exact hr.elim
  | e2 i ws p j ws' p' ih ih' =>
    intro fuel L rd g Y t h Fa ρ w hcl hL hp hr hM hok ht
    exact hr.elim

variable {nf : Nat} {pl : Nat → Plan}

theorem QY.mono {G : Ghost} {Ob Ob' : List (Nat × Obj)} {N N' : Gh → Slots → List Chunk → Prop} {E E' : Gh → Exit → Slots → List Chunk → Prop} {e : Exit} {a : Act} {w : World} (h : QY G Ob' N E e a w) (ho : ∀ p ∈ Ob, p ∈ Ob')
    (hN : ∀ g t h, N g t h → N' g t h) (hE : ∀ g e t h, e ≠ .normal → E g e t h → E' g e t h) : QY G Ob N' E' e a w := by
  obtain ⟨g, Y, Ob2, Ds, ρ, t, h, hq, hM, hok, h1, h2, h3⟩ := h
  refine ⟨g, Y, Ob2, Ds, ρ, t, h, ?_, hM, hok, fun p hp => h1 p (ho p hp), h2, h3⟩
  cases e with
  | normal => exact hN _ _ _ hq
  | _ => exact hE _ _ _ _ (by simp) hq

theorem vcY_run (hT : tab.Ok P) (hm : P.p.follows .mixedOrders = true) (hC : G.C.n0 ≤ nf) (hG : G.Ok P) (hF : WideF F) :
    ∀ (c : Code) (g : Gh) (t : Slots) (h : List Chunk) (N : Tok → Gh → Slots → List Chunk → Prop) (E : Tok → Gh → Exit → Slots → List Chunk → Prop), fits pl c = true → vcY .mk P tab nf pl G.s c g t h N E →
      ∀ Ob Y Ds ρ w, RoundOk F Ob → MG G Ob Y g ρ h w → okS h.length t → Marked G.C.w0.heap.size Ds Ob → c.wpIn F n P (QY G Ob (N .mk) (E .mk)) (actY ρ t Ds) w := by
  intro c
  induction c with
  | skip => intro g t h N E _ hv Ob Y Ds ρ w hr hM hok hD; exact wpIn_skip ⟨g, Y, Ob, Ds, ρ, t, h, hv, hM, hok, fun _ h => h, hD, rfl⟩
  | label l => intro g t h N E _ hv Ob Y Ds ρ w hr hM hok hD; exact wpIn_label ⟨g, Y, Ob, Ds, ρ, t, h, hv, hM, hok, fun _ h => h, hD, rfl⟩
  | exit id => intro g t h N E _ hv Ob Y Ds ρ w hr hM hok hD; exact wpIn_exit ⟨g, Y, Ob, Ds, ρ, t, h, hv, hM, hok, fun _ h => h, hD, rfl⟩
  | ret => intro g t h N E _ hv Ob Y Ds ρ w hr hM hok hD; exact wpIn_ret ⟨g, Y, Ob, Ds, ρ, t, h, hv, hM, hok, fun _ h => h, hD, rfl⟩
  | region id ops draw =>
    intro g t h N E hf hv Ob Y Ds ρ w hr hM hok hD
    have hmono : ∀ e a w, (e = Exit.normal ∧ ∃ g Y ρ t h, N .mk g t h ∧ MG G Ob Y g ρ h w ∧ okS h.length t ∧ a = actY ρ t Ds) → QY G Ob (N .mk) (E .mk) e a w := by
      rintro e a w ⟨rfl, g, Y, ρ, t, h, h1, h2, h3, h4⟩
      exact ⟨g, Y, Ob, Ds, ρ, t, h, h1, h2, h3, fun _ h => h, hD, h4⟩
    cases draw with
    | false =>
      refine Code.wpIn_mono (fun e a w => hmono e a w) (wpIn_region_list ?_)
      exact rnY_run hF hT hG (K := N) (fun g Y ρ t h w hK hM hok => ⟨rfl, g, Y, ρ, t, h, hK, hM, hok, rfl⟩) _ _ _ _ _ hv ρ w hM hok
    | true =>
      refine Code.wpIn_mono (fun e a w => hmono e a w) (wpIn_region_any hm ?_)
      have hf' : planFit ops (pl id) = true := hf
      unfold planFit at hf'
      rw [Bool.and_eq_true] at hf'
      obtain ⟨X, _, _, hmm, back⟩ := hM.step hG
      have hM' : MG G Ob Y g ρ h { w with drawn := w.drawn + 1 } := back _ _ _ (hmm.same ⟨rfl, rfl, rfl, Nat.le_refl _, fun _ _ _ => rfl⟩)
      exact wpAnyIn_of_G _ _ _ _ (rpY_run hF hT hG hf'.1 (K := N) (fun g Y ρ t h w hK hM hok => ⟨rfl, g, Y, ρ, t, h, hK, hM, hok, rfl⟩) (fun c a w hx => by cases hx.1) (pl id) _ _ [] _ Y _ _ [] ρ _ (cl_none _) (by simp) hf'.2 hv hM' hok
        (fun p hp => by cases hp))
  | seq a b iha ihb =>
    intro g t h N E hf hv Ob Y Ds ρ w hr hM hok hD
    simp only [fits, Bool.and_eq_true] at hf
    refine wpIn_seq (Code.wpIn_mono ?_ (iha g t h _ E hf.1 hv Ob Y Ds ρ w hr hM hok hD))
    rintro e a w ⟨g', Y', Ob', Ds', ρ', t', h', hq, hM', hok', ho, hD', rfl⟩
    cases e with
    | normal =>
      refine Code.wpIn_mono (fun e a w hx => QY.mono hx ho (fun _ _ _ h => h) (fun _ _ _ _ _ h => h)) (ihb g' t' h' N E hf.2 hq Ob' Y' Ds' ρ' w ?_ hM' hok' hD')
      exact fun l0 hl => let ⟨r, h⟩ := hr l0 hl; ⟨r, ho _ h⟩
    | _ => exact ⟨g', Y', Ob', Ds', ρ', t', h', hq, hM', hok', ho, hD', rfl⟩
  | cond c a b iha ihb =>
    intro g t h N E hf hv Ob Y Ds ρ w hr hM hok hD
    simp only [fits, Bool.and_eq_true] at hf
    simp only [vcY] at hv
    split at hv
    · rename_i x hx
      refine wpIn_cond_split (t := x) (by rw [← act_actY ρ t h Ds, act_eval ρ ⟨t, h, Ds.map mark⟩ hok, hx]; rfl) (fun ht => iha g t h N E hf.1 (hv.1 ht) Ob Y Ds ρ w hr hM hok hD) (fun ht => ihb g t h N E hf.2 (hv.2 ht) Ob Y Ds ρ w hr hM hok hD)
    · exact hv.elim
  | block id c ih =>
    intro g t h N E hf hv Ob Y Ds ρ w hr hM hok hD
    refine wpIn_block (Code.wpIn_mono ?_ (ih g t h N _ hf hv Ob Y Ds ρ w hr hM hok hD))
    rintro e a w ⟨g', Y', Ob', Ds', ρ', t', h', hq, hM', hok', ho, hD', rfl⟩
    cases e with
    | exit j =>
      simp only at hq
      simp only [Exit.inBlock]
      split
      · rename_i hj; rw [if_pos hj] at hq; exact ⟨g', Y', Ob', Ds', ρ', t', h', hq, hM', hok', ho, hD', rfl⟩
      · rename_i hj; rw [if_neg hj] at hq; exact ⟨g', Y', Ob', Ds', ρ', t', h', hq, hM', hok', ho, hD', rfl⟩
    | _ => exact ⟨g', Y', Ob', Ds', ρ', t', h', hq, hM', hok', ho, hD', rfl⟩
  | loop c ih => intro g t h N E hf hv Ob Y Ds ρ w hr hM hok hD; exact hv G Ob Y Ds ρ w F n hG rfl hC hF hr hM hok hD
  | rangeFunc f ps a b iha ihb => intro g t h N E hf hv Ob Y Ds ρ w hr hM hok hD; exact hv G Ob Y Ds ρ w F n hG rfl hC hF hr hM hok hD
  | _ => intro g t h N E hf hv; exact hv.elim

theorem codeY_of_vc (hT : tab.Ok P) (hm : P.p.follows .mixedOrders = true) {S : Sq} {c : Code} (hf : fits pl c = true) {g : Gh} {t : Slots} {h : List Chunk} {N : Gh → Slots → List Chunk → Prop} {E : Gh → Exit → Slots → List Chunk → Prop}
    (hv : vcY .mk P tab nf pl S c g t h (fun _ => N) (fun _ => E)) : codeY P nf S c g t h N E := by
  intro G Ob Y Ds ρ w F m hG hs hC hF hr hM hok hD
  subst hs
  exact vcY_run hT hm hC hG hF c g t h (fun _ => N) (fun _ => E) hf hv Ob Y Ds ρ w hr hM hok hD

/-- A state may be taken for one of J. -/
def IntoY (nf : Nat) (t : Slots) (h : List Chunk) (J : Slots → List Chunk → Prop) : Prop := ∀ d, Into nf ⟨t, h, d⟩ fun st => st.d = d ∧ J st.t st.h

theorem IntoY.run {t : Slots} {h : List Chunk} {J : Slots → List Chunk → Prop} (hi : IntoY nf t h J) {Y : Nat → Prop} {g : Gh} {ρ : Env} {w : World} (hG : G.Ok P) (hC : G.C.n0 ≤ nf) (hM : MG G Ob Y g ρ h w) (hok : okS h.length t) :
    ∃ ρ' t' h', J t' h' ∧ MG G Ob Y g ρ' h' w ∧ okS h'.length t' ∧ ∀ Ds, actY ρ t Ds = actY ρ' t' Ds := by
  obtain ⟨X, _, _, hm, back⟩ := hM.step hG
  obtain ⟨ρ', st', ⟨hd, hJ⟩, hM', hok', he⟩ := hi [] ⟨w, X, G.C.ρ0, G.C.n0⟩ ρ w hC hm hok
  refine ⟨ρ', st'.t, st'.h, hJ, back _ _ _ hM', hok', fun Ds => ?_⟩
  simp only [act, hd] at he
  simp only [actY, Act.mk.injEq, and_true] at he ⊢
  exact he

theorem codeY_loop (hT : tab.Ok P) (hm : P.p.follows .mixedOrders = true) {S : Sq} {c : Code} (hfit : fits pl c = true) {g : Gh} {t : Slots} {h : List Chunk} {N : Gh → Slots → List Chunk → Prop} {E : Gh → Exit → Slots → List Chunk → Prop} (I : Nat → Gh → Slots → List Chunk → Prop)
    (h0 : IntoY nf t h fun t h => ∃ n, I n g t h) (hr : ∀ n g t h, I n g t h → vcY .mk P tab nf pl S c g t h (fun _ g t h => IntoY nf t h fun t h => ∃ m, m < n ∧ I m g t h) fun _ g e t h => e ≠ .normal ∧ E g e t h) : codeY P nf S (.loop c) g t h N E := by
  intro G Ob Y Ds ρ w F m hG hs hC hF hro hM hok hD
  subst hs
  obtain ⟨ρ', t', h', ⟨n0, hI⟩, hM', hok', he⟩ := h0.run hG hC hM hok
  rw [he]
  refine wpIn_loop_ghost (fun n a w => ∃ g Y Ob' Ds ρ t h, I n g t h ∧ MG G Ob' Y g ρ h w ∧ okS h.length t ∧ (∀ p ∈ Ob, p ∈ Ob') ∧ Marked G.C.w0.heap.size Ds Ob' ∧ a = actY ρ t Ds) n0 ⟨g, Y, Ob, Ds, ρ', t', h', hI, hM', hok', fun _ h => h, hD, rfl⟩ ?_
  rintro k a w ⟨g1, Y1, Ob1, Ds1, ρ1, t1, h1, hI1, hM1, hok1, ho1, hD1, rfl⟩
  refine Code.wpIn_mono ?_ (vcY_run hT hm hC hG hF c g1 t1 h1 _ _ hfit (hr k g1 t1 h1 hI1) Ob1 Y1 Ds1 ρ1 w (fun l0 hl => let ⟨r, h⟩ := hro l0 hl; ⟨r, ho1 _ h⟩) hM1 hok1 hD1)
  rintro e a w ⟨g2, Y2, Ob2, Ds2, ρ2, t2, h2, hq, hM2, hok2, ho2, hD2, rfl⟩
  have ho12 : ∀ p ∈ Ob, p ∈ Ob2 := fun p hp => ho2 p (ho1 p hp)
  cases e with
  | normal =>
    obtain ⟨ρ3, t3, h3, ⟨m, hlt, hI3⟩, hM3, hok3, he3⟩ := IntoY.run hq hG hC hM2 hok2
    exact ⟨m, hlt, g2, Y2, Ob2, Ds2, ρ3, t3, h3, hI3, hM3, hok3, ho12, hD2, he3 Ds2⟩
  | exit id => exact ⟨g2, Y2, Ob2, Ds2, ρ2, t2, h2, hq.2, hM2, hok2, ho12, hD2, rfl⟩
  | goto id => exact ⟨g2, Y2, Ob2, Ds2, ρ2, t2, h2, hq.2, hM2, hok2, ho12, hD2, rfl⟩
  | ret => exact ⟨g2, Y2, Ob2, Ds2, ρ2, t2, h2, hq.2, hM2, hok2, ho12, hD2, rfl⟩
  | panic id => exact ⟨g2, Y2, Ob2, Ds2, ρ2, t2, h2, hq.2, hM2, hok2, ho12, hD2, rfl⟩
  | outgrown => exact ⟨g2, Y2, Ob2, Ds2, ρ2, t2, h2, hq.2, hM2, hok2, ho12, hD2, rfl⟩
end
end Go.Sx

set_option linter.all false
namespace Go.Sx
open Go.RowKit
variable {P : Pr}

/-- A function value that may be ranged over: it gives these, one behind the other, as long as the blocks B stay as they are. -/
def Gives (P : Program) (f : FuncId) (lb : List Value) (B : Nat → Prop) (n : Nat) (xs : Nat → Value) (w0 : World) : Prop :=
  (∀ b, B b → b < w0.heap.size) ∧ (∀ args w, (callFunc f args).run P w = .ok (.enter f args) w) ∧
    ∀ (F : Fence) (m l : Nat) (J : Inv) (w : World), WideF F → F.round = none → w0.heap.size ≤ w.heap.size → (∀ b, B b → w.heap[b]? = w0.heap[b]?) → Client (fun _ => False) w.heap.size J →
      YieldsTo P l J (fun b => b < w.heap.size ∧ ¬ B b) w.heap.size n xs → J (.run 0) w (fun _ => False) →
      CallsIn F m P f (Value.func (.yield l) #[] #[] :: lb).toArray w fun e w' => ∃ v g Y, e = .returned v ∧ (g = .run n ∨ ∃ i, i ≤ n ∧ g = .stop i) ∧ J g w' Y

/-- As Gives, where the order is not settled ahead of time. -/
def GivesR (P : Program) (f : FuncId) (lb : List Value) (B : Nat → Prop) (R : Nat → Value → Nat → Prop) (fin : Gh → Prop) (w0 : World) : Prop :=
  (∀ b, B b → b < w0.heap.size) ∧ (∀ args w, (callFunc f args).run P w = .ok (.enter f args) w) ∧
    ∀ (F : Fence) (m l : Nat) (J : Inv) (w : World), WideF F → F.round = none → w0.heap.size ≤ w.heap.size → (∀ b, B b → w.heap[b]? = w0.heap[b]?) → Client (fun _ => False) w.heap.size J →
      YieldsR P l J (fun b => b < w.heap.size ∧ ¬ B b) w.heap.size R → J (.run 0) w (fun _ => False) →
      CallsIn F m P f (Value.func (.yield l) #[] #[] :: lb).toArray w fun e w' => ∃ v g Y, e = .returned v ∧ fin g ∧ J g w' Y
theorem Gives.toR {P : Program} {f : FuncId} {lb : List Value} {B : Nat → Prop} {n : Nat} {xs : Nat → Value} {w0 : World} (h : Gives P f lb B n xs w0) :
    GivesR P f lb B (fun i v i' => i < n ∧ v = xs i ∧ i' = i + 1) (fun g => g = .run n ∨ ∃ i, i ≤ n ∧ g = .stop i) w0 :=
  ⟨h.1, h.2.1, fun F m l J w hF hr hs hb hcl hyl hj => h.2.2 F m l J w hF hr hs hb hcl (fun i w Y F k hF hi hsz hY hJ => hyl i _ (i + 1) w Y F k hF ⟨hi, rfl, rfl⟩ hsz hY hJ) hj⟩

theorem Keep.mono {X Y : Nat → Prop} {w w' : World} (h : Keep X w w') (hXY : ∀ b, X b → Y b) : Keep Y w w' := ⟨h.os, h.tape, h.output, h.size, fun b hb hY => h.block b hb fun hx => hY (hXY b hx)⟩
theorem YieldAt.mono {F : Fence} {m : Nat} {Q : Program} {l : Nat} {args : Array Value} {w : World} {R R' : Ending → World → Prop} (h : YieldAt F m Q l args w R) (hr : ∀ e w', R e w' → R' e w') : YieldAt F m Q l args w R' := by
  obtain ⟨fn, tmps, assign, body, h1, h2⟩ := h
  exact ⟨fn, tmps, assign, body, h1, RoundIn.mono h2 hr⟩

theorem keep_putObj (w : World) (l : Nat) (o : Obj) : Keep (fun b => b = l) w (w.putObj l o) :=
  ⟨rfl, rfl, rfl, by simp, fun b _ hb => World.putObj_heap_other hb⟩

/-- An object that no name speaks of. -/
def dull : Obj → Bool
  | .loop _ => true
  | .deferred _ => true
  | _ => false
theorem cell_loop {w : World} {b o : Nat} {r : Obj} (hd : dull r = true) (h : w.heap[b]? = some r) : w.cell? ⟨b, o, none⟩ = none := by
  cases r <;> simp_all [World.cell?, dull]

theorem rangeAt_loop {w : World} {b o : Nat} {cs : List Value} {r : Obj} (hd : dull r = true) (h : w.heap[b]? = some r) (hr : w.rangeAt b o cs) (w' : World) : w'.rangeAt b o cs := fun j v hj => by
  have := hr j v hj
  rw [cell_loop hd h] at this
  cases this

theorem holds_loop {ρ : Env} {w : World} {k : Nat} {c : Chunk} {r : Obj} (hd : dull r = true) (h : w.heap[(ρ k).b]? = some r) (hw : c.wr = false) (hh : Holds ρ w k c) (w' : World) : Holds ρ w' k c := by
  cases c with
  | none => trivial
  | cells wr fs =>
    simp only [Chunk.wr] at hw
    exact ⟨hh.1, rangeAt_loop hd h hh.2.1 w', fun hx => by rw [hw] at hx; cases hx⟩
  | row wr n s f =>
    simp only [Chunk.wr] at hw
    simp only [Holds] at hh ⊢
    split
    · rename_i hn; rw [if_pos hn] at hh; exact hh
    · rename_i hn
      rw [if_neg hn] at hh
      exact ⟨rangeAt_loop hd h hh.1 w', hh.2.1, fun hx => by rw [hw] at hx; cases hx⟩
  | map n key val born clock =>
    have := hh.2
    rw [h] at this
    cases this
    cases hd
  | rmap n key val born clock =>
    have := hh.2
    rw [h] at this
    cases this
    cases hd
  | iter m since seen st =>
    have := hh.2.2
    rw [h] at this
    cases this
    cases hd

def rep (l : Nat) (o : Obj) (p : Nat × Obj) : Nat × Obj := if p.1 = l then (l, o) else p
theorem rep_fst (l : Nat) (o : Obj) (p : Nat × Obj) : (rep l o p).1 = p.1 := by
  unfold rep; split
  · rename_i h; exact h.symm
  · rfl

/-- The loop's record turns. -/
theorem MG.put {G : Ghost} {Ob : List (Nat × Obj)} {Y : Nat → Prop} {g : Gh} {ρ : Env} {H : List Chunk} {w : World} (hG : G.Ok P) (h : MG G Ob Y g ρ H w) {l : Nat} {r : Obj} (hd : dull r = true) (o' : Obj)
    (hl : (l, r) ∈ Ob) (hX : G.C.X l ∨ G.C.w0.heap.size ≤ l) : MG G (Ob.map (rep l o')) Y g ρ H (w.putObj l o') := by
  obtain ⟨hh, hV, hY⟩ := h.ob _ hl
  simp only at hh hV hY
  have hk := keep_putObj w l o'
  refine ⟨⟨?_, h.m.agree, h.m.len, ?_, h.m.okc, ?_, h.m.wr, h.m.sep⟩, h.own, h.ny, ?_, ?_, ?_, ?_⟩
  · exact h.m.keep.step hk fun b hb => by subst hb; exact hX.elim (fun h => .inl (.inl h)) .inr
  · intro k c hc
    by_cases hl' : c.live = true
    · cases hw : c.wr with
      | true => exact holds_block (fun hn => World.putObj_heap_other (h.no k c hc ⟨hw, hn⟩ _ hl)) (h.m.holds k c hc)
      | false =>
        by_cases hb : (ρ k).b = l
        · exact holds_loop (r := r) hd (by rw [hb]; exact hh) hw (h.m.holds k c hc) _
        · exact holds_block (fun _ => World.putObj_heap_other hb) (h.m.holds k c hc)
    · cases c <;> simp [Chunk.live] at hl'
      trivial
  · exact fun k c hc hR => by rw [World.putObj_size]; exact h.m.size k c hc hR
  · intro k c hc hR p hp
    obtain ⟨q, hq, rfl⟩ := List.mem_map.1 hp
    rw [rep_fst]
    exact h.no k c hc hR q hq
  · intro p hp
    obtain ⟨q, hq, rfl⟩ := List.mem_map.1 hp
    obtain ⟨h1, h2, h3⟩ := h.ob q hq
    rw [rep_fst]
    refine ⟨?_, h2, h3⟩
    unfold rep
    split
    · rename_i hql
      rw [hql]
      exact World.putObj_heap_same (heap_lt hh)
    · rename_i hql
      exact (World.putObj_heap_other hql).trans h1
  · intro b hb
    rw [World.putObj_size]
    exact h.yb b hb
  · exact hG.cl.stable h.j hk fun b hb => by subst hb; exact ⟨hX, hY⟩

theorem MG.sub {G : Ghost} {Ob Ob' : List (Nat × Obj)} {Y : Nat → Prop} {g : Gh} {ρ : Env} {H : List Chunk} {w : World} (h : MG G Ob Y g ρ H w) (hs : ∀ p ∈ Ob', p ∈ Ob) : MG G Ob' Y g ρ H w :=
  ⟨h.m, h.own, h.ny, fun k c hc hR p hp => h.no k c hc hR p (hs p hp), fun p hp => h.ob p (hs p hp), h.yb, h.j⟩

/-- A step of somebody else's. -/
theorem MG.beside {G : Ghost} {Ob : List (Nat × Obj)} {Y Z : Nat → Prop} {g : Gh} {ρ : Env} {H : List Chunk} {w w' : World} (hG : G.Ok P) (h : MG G Ob Y g ρ H w) (hk : Keep Z w w')
    (hZ : ∀ b, Z b → G.C.w0.heap.size ≤ b ∧ ¬ Y b ∧ (∀ p ∈ Ob, b ≠ p.1) ∧ ∀ k c, H[k]? = some c → Real ρ k c → (ρ k).b ≠ b) : MG G Ob Y g ρ H w' := by
  refine ⟨⟨?_, h.m.agree, h.m.len, ?_, h.m.okc, ?_, h.m.wr, h.m.sep⟩, h.own, h.ny, h.no, ?_, ?_, ?_⟩
  · exact h.m.keep.step hk fun b hb => .inr (hZ b hb).1
  · intro k c hc
    by_cases hl : c.live = true
    · exact holds_block (fun hn => hk.block _ (h.m.size k c hc ⟨hl, hn⟩) fun hz => (hZ _ hz).2.2.2 k c hc ⟨hl, hn⟩ rfl) (h.m.holds k c hc)
    · cases c <;> simp [Chunk.live] at hl
      trivial
  · exact fun k c hc hR => Nat.lt_of_lt_of_le (h.m.size k c hc hR) hk.size
  · intro p hp
    obtain ⟨h1, h2, h3⟩ := h.ob p hp
    exact ⟨(hk.block p.1 (heap_lt h1) fun hz => (hZ _ hz).2.2.1 p hp rfl).trans h1, h2, h3⟩
  · exact fun b hb => ⟨(h.yb b hb).1, Nat.lt_of_lt_of_le (h.yb b hb).2 hk.size⟩
  · exact hG.cl.stable h.j hk fun b hb => ⟨.inr (hZ b hb).1, (hZ b hb).2.1⟩

/-! ### What an iterator reads may not be written while it is under way -/
def frz1 : Chunk → Chunk
  | .cells _ fs => .cells false fs
  | .row _ n s f => .row false n s f
  | .map n key val born clock => .rmap n key val born clock
  | c => c
def frz (qs : List Nat) : Nat → List Chunk → List Chunk
  | _, [] => []
  | k, c :: r => (match inL qs k with | true => frz1 c | false => c) :: frz qs (k + 1) r
theorem frz_length (qs : List Nat) : ∀ (k : Nat) (h : List Chunk), (frz qs k h).length = h.length
  | _, [] => rfl
  | k, c :: r => by simp [frz, frz_length qs (k + 1) r]
theorem frz_get {qs : List Nat} : ∀ {h : List Chunk} {k0 k : Nat} {c : Chunk}, (frz qs k0 h)[k]? = some c → ∃ c0, h[k]? = some c0 ∧ (c = c0 ∧ inL qs (k0 + k) = false ∨ c = frz1 c0 ∧ inL qs (k0 + k) = true)
  | [], _, _, _, h => by simp [frz] at h
  | c0 :: r, k0, 0, c, h => by
    simp only [frz, List.getElem?_cons_zero, Option.some.injEq] at h
    refine ⟨c0, rfl, ?_⟩
    rw [Nat.add_zero]
    cases hq : inL qs k0 <;> rw [hq] at h <;> simp only at h
    · exact .inl ⟨h.symm, rfl⟩
    · exact .inr ⟨h.symm, rfl⟩
  | c0 :: r, k0, k + 1, c, h => by
    simp only [frz, List.getElem?_cons_succ] at h
    obtain ⟨c1, h1, h2⟩ := frz_get (k0 := k0 + 1) (k := k) h
    exact ⟨c1, by simpa using h1, by rwa [show k0 + (k + 1) = k0 + 1 + k by omega]⟩
theorem frz1_live (c : Chunk) : (frz1 c).live = c.live := by cases c <;> rfl
theorem frz1_wr {c : Chunk} (h : (frz1 c).wr = true) : c.wr = true := by cases c <;> simp_all [frz1, Chunk.wr]
theorem frz1_good {n : Nat} {c : Chunk} (h : c.good n) : (frz1 c).good n := by cases c <;> exact h
theorem frz1_holds {ρ : Env} {w : World} {k : Nat} {c : Chunk} (h : Holds ρ w k c) : Holds ρ w k (frz1 c) := by
  cases c with
  | none => trivial
  | cells wr fs => exact ⟨h.1, h.2.1, fun hx => by cases hx⟩
  | row wr n s f =>
    simp only [Holds, frz1] at h ⊢
    split
    · rename_i hn; rw [if_pos hn] at h; exact h
    · rename_i hn; rw [if_neg hn] at h; exact ⟨h.1, h.2.1, fun hx => by cases hx⟩
  | map n key val born clock => exact h
  | rmap n key val born clock => exact h
  | iter m since seen st => exact h

theorem frz_all {qs : List Nat} {h : List Chunk} {k : Nat} {c : Chunk} (hc : (frz qs 0 h)[k]? = some c) : ∃ c0, h[k]? = some c0 ∧ c.live = c0.live ∧ (c.wr = true → c0.wr = true) ∧ (∀ n, c0.good n → c.good n) ∧ (∀ ρ w, Holds ρ w k c0 → Holds ρ w k c) := by
  obtain ⟨c0, h1, h2⟩ := frz_get hc
  refine ⟨c0, h1, ?_⟩
  rcases h2 with ⟨rfl, _⟩ | ⟨rfl, _⟩
  · exact ⟨rfl, id, fun _ => id, fun _ _ => id⟩
  · exact ⟨frz1_live _, frz1_wr, fun _ => frz1_good, fun _ _ => frz1_holds⟩

theorem MG.freeze {G : Ghost} {Ob : List (Nat × Obj)} {Y : Nat → Prop} {g : Gh} {ρ : Env} {H : List Chunk} {w : World} (h : MG G Ob Y g ρ H w) (qs : List Nat) : MG G Ob Y g ρ (frz qs 0 H) w := by
  refine ⟨⟨h.m.keep, h.m.agree, by rw [frz_length]; exact h.m.len, ?_, ?_, ?_, ?_, ?_⟩, ?_, ?_, ?_, h.ob, h.yb, h.j⟩
  · intro k c hc; obtain ⟨c0, h1, h2, h3, h4, h5⟩ := frz_all hc; exact h5 _ _ (h.m.holds k c0 h1)
  · intro k c hc; obtain ⟨c0, h1, h2, h3, h4, h5⟩ := frz_all hc; rw [frz_length]; exact h4 _ (h.m.okc k c0 h1)
  · intro k c hc hR; obtain ⟨c0, h1, h2, h3, h4, h5⟩ := frz_all hc; exact h.m.size k c0 h1 ⟨by rw [← h2]; exact hR.1, hR.2⟩
  · intro k c hc hR; obtain ⟨c0, h1, h2, h3, h4, h5⟩ := frz_all hc; exact h.m.wr k c0 h1 ⟨h3 hR.1, hR.2⟩
  · intro k k' c c' hc hc' hne hR hR'
    obtain ⟨c0, h1, h2, h3, h4, h5⟩ := frz_all hc
    obtain ⟨c0', h1', h2', h3', h4', h5'⟩ := frz_all hc'
    exact h.m.sep k k' c0 c0' h1 h1' hne ⟨h3 hR.1, hR.2⟩ ⟨by rw [← h2']; exact hR'.1, hR'.2⟩
  · intro k c hc hR; obtain ⟨c0, h1, h2, h3, h4, h5⟩ := frz_all hc; exact h.own k c0 h1 ⟨h3 hR.1, hR.2⟩
  · intro k c hc hR; obtain ⟨c0, h1, h2, h3, h4, h5⟩ := frz_all hc; exact h.ny k c0 h1 ⟨h3 hR.1, hR.2⟩
  · intro k c hc hR; obtain ⟨c0, h1, h2, h3, h4, h5⟩ := frz_all hc; exact h.no k c0 h1 ⟨h3 hR.1, hR.2⟩

/-- The names that stay while a loop is under way. -/
def liveA (h : List Chunk) (k : Nat) : Bool := (lookH h k).live
theorem liveA_lt {h : List Chunk} {k : Nat} (hk : liveA h k = true) : ∃ c, h[k]? = some c ∧ c.live = true := by
  unfold liveA at hk
  exact ⟨lookH h k, lookH_some rfl (by intro e; rw [e] at hk; cases hk), hk⟩
theorem lookH_get? {h : List Chunk} {k : Nat} {c : Chunk} (hc : h[k]? = some c) : lookH h k = c := by
  induction h generalizing k with
  | nil => simp at hc
  | cons x h ih =>
    cases k with
    | zero => simp at hc; simpa [lookH] using hc
    | succ k => simpa [lookH] using ih (by simpa using hc)
theorem roA_live (h : List Chunk) : roA (liveA h) 0 h := by
  have : ∀ (r : List Chunk) (k0 : Nat), (∀ k c, r[k]? = some c → c.live = true → liveA h (k0 + k) = true) → roA (liveA h) k0 r := by
    intro r
    induction r with
    | nil => intro _ _; trivial
    | cons c r ih =>
      intro k0 hr
      refine ⟨?_, ih (k0 + 1) fun k c hc hl => ?_⟩
      · cases hl : c.live with
        | true => exact .inr (.inr (hr 0 c rfl hl))
        | false => exact .inr (.inl rfl)
      · have := hr (k + 1) c (by simpa using hc) hl
        rwa [show k0 + (k + 1) = k0 + 1 + k by omega] at this
  refine this h 0 fun k c hc hl => ?_
  rw [Nat.zero_add]
  unfold liveA
  rw [lookH_get? hc]
  exact hl

/-- How a round may leave the loop. -/
def leaves : Exit → Option Code
  | .ret => some .ret
  | .exit id => some (.exit id)
  | _ => none
end Go.Sx

set_option linter.all false
namespace Go.Sx
open Go.RowKit
variable {P : Pr}

/-- Entering: the loop's record (and at an outermost loop the block of the mark) are new. -/
theorem enter_loop {F : Fence} {Ob : List (Nat × Obj)} {Y : Nat → Prop} {g : Gh} {G : Ghost} {ρ : Env} {H : List Chunk} {w : World} (hM : MG G Ob Y g ρ H w) (hro : RoundOk F Ob) (fn : FuncId) (tmps : Array Value) (ps : Array Tmp) (assign body : Code) :
    ∃ (l : Nat) (Dn : List Nat) (dd : Nat) (w1 : World), (Instr.enterLoop fn tmps ps assign body F.round).run P.p w = .ok (l, Dn.map mark) w1 ∧ Keep (fun _ => False) w w1 ∧ w.heap.size ≤ l ∧ l < w1.heap.size ∧
      w1.heap[l]? = some (.loop { state := .ready, pending := none, fn, tmps, params := ps, assign, body, defers := dd }) ∧ Dn.Nodup ∧ ∀ D ∈ Dn, w.heap.size ≤ D ∧ D < w1.heap.size ∧ D ≠ l ∧ w1.heap[D]? = some (.deferred (some [])) := by
  cases hr : F.round with
  | none =>
    refine ⟨w.heap.size + 1, [w.heap.size], w.heap.size, _, run_enterLoop_outer fn tmps ps assign body, ?_, by omega, by simp, ?_, ?_⟩
    · exact (keep_alloc w _).step (keep_alloc _ _) fun _ h => h.elim
    · have := World.alloc_heap_new (w.alloc (.deferred (some []))) (.loop { state := .ready, pending := none, fn, tmps, params := ps, assign, body, defers := w.heap.size })
      rwa [World.size_alloc] at this
    · refine ⟨by simp, ?_⟩
      intro D hD
      obtain rfl : D = w.heap.size := by simpa using hD
      exact ⟨Nat.le_refl _, by simp; omega, by omega, (Below.heap_alloc _ _ _ (by simp)).trans (World.alloc_heap_new w _)⟩
  | some l0 =>
    obtain ⟨r, hr0⟩ := hro l0 hr
    have hl := (hM.ob _ hr0).1
    simp only at hl
    refine ⟨w.heap.size, [], r.defers, w.alloc (.loop { state := .ready, pending := none, fn, tmps, params := ps, assign, body, defers := r.defers }), ?_, keep_alloc w _, Nat.le_refl _, by simp, World.alloc_heap_new w _, by simp, fun D hD => by cases hD⟩
    unfold Instr.enterLoop
    simp only [Sem.run_bind, run_getLoop hl, Result.andThen, Sem.run_pure, run_newObj_alloc, List.map_nil]

theorem tmps_put (ρ : Env) {n : Nat} (t : Slots) (p : Nat) (v : SV) : ((#[p].zip #[den ρ v]).foldl (fun (tm : Array Value) (x : Nat × Value) => tm.setIfInBounds x.1 x.2) (tmpsD ρ t).toArray) = (tmpsD ρ (putS t p v)).toArray := by
  have := act_put ρ ⟨t, [], []⟩ (some p) v
  simp only [act, Act.put, putO, Act.mk.injEq, and_true] at this
  simpa using this

section
variable {F : Fence} {tab : Tab} {nf : Nat}

theorem codeY_rangeR {S : Sq} {gop : Operand} {p : Nat} {assign body : Code} {g : Gh} {t : Slots} {h : List Chunk} {N : Gh → Slots → List Chunk → Prop} {E : Gh → Exit → Slots → List Chunk → Prop}
    (qs : List Nat) (R' : Nat → SV → Nat → Prop) (finR finS : Nat → Prop) (hflat : ∀ i sv i', R' i sv i' → ok 0 sv) (hra : roA S.A 0 h) (hnm : ∀ k ∈ qs, (frz1 (lookH h k)).wr = false)
    (hgv : ∀ ρ w X, P.know w X → (∀ k ∈ qs, Holds ρ w k (lookH h k) ∧ (Real ρ k (lookH h k) → (ρ k).b < w.heap.size)) →
      ∃ f lb B, den ρ (ev t gop) = .func (.func f) #[] lb.toArray ∧ GivesR P.p f lb B (fun i v i' => ∃ sv, R' i sv i' ∧ v = den ρ sv) (fun g => (∃ i, finR i ∧ g = .run i) ∨ ∃ i, finS i ∧ g = .stop i) w ∧ ∀ b, B b → ¬ X b ∨ ∃ k ∈ qs, Real ρ k (lookH h k) ∧ (ρ k).b = b)
    (I : Nat → Gh → List Chunk → Prop) (Ix : Nat → Gh → Exit → List Chunk → Prop) (h0 : I 0 g (frz qs 0 h))
    (hround : ∀ i sv i' g h', R' i sv i' → I i g h' → codeY P h.length { S with A := liveA (frz qs 0 h) } assign g (putS t p sv) h'
      (fun g t1 h1 => codeY P h.length { S with A := liveA (frz qs 0 h) } body g t1 h1 (fun g t2 h2 => IntoY h.length t2 h2 fun _ h4 => I i' g h4 ∧ roA (liveA (frz qs 0 h)) 0 h4)
        (fun g e t2 h2 => (leaves e).isSome = true ∧ IntoY h.length t2 h2 fun _ h4 => Ix i' g e h4 ∧ roA (liveA (frz qs 0 h)) 0 h4)) (fun _ _ _ _ => False))
    (hdone : ∀ i g h', finR i → I i g h' → N g t h') (hstop : ∀ i g e h', finS i → Ix i g e h' → E g e t h') :
    codeY P nf S (.rangeFunc gop #[p] assign body) g t h N E := by
  intro G Ob Y Ds ρ w F m hG hs hC hF hro hM hok hD
  subst hs
  -- the iterator
  have hkX : P.know w fun b => G.C.X b ∨ G.V b ∨ G.C.w0.heap.size ≤ b := P.keep hG.kn hM.m.keep fun b hb => by
    rcases hb with h | h | h
    · exact .inl (.inl h)
    · exact .inl (.inr h)
    · exact .inr h
  obtain ⟨f, lb, B, hden, ⟨hBs, hent, hgive⟩, hB⟩ := hgv ρ w _ hkX fun k hk => ⟨lookH_holds hM.m k, fun hR => hM.m.size k _ (lookH_some rfl (by intro e; rw [e] at hR; cases hR.1)) hR⟩
  have hget : ∀ k, Real ρ k (lookH h k) → h[k]? = some (lookH h k) := fun k hR => lookH_some rfl (by intro e; rw [e] at hR; cases hR.1)
  have hBV : ∀ b, B b → ¬ G.V b := fun b hb => by
    rcases hB b hb with h1 | ⟨k, hk, hR, rfl⟩
    · exact fun hv => h1 (.inr (.inl hv))
    · exact (hM.away hG hra (hget k hR) hR).2
  have hBY : ∀ b, B b → ¬ Y b := fun b hb => by
    rcases hB b hb with h1 | ⟨k, hk, hR, rfl⟩
    · exact fun hy => h1 (.inr (.inr (hM.yb b hy).1))
    · exact (hM.away hG hra (hget k hR) hR).1
  have hM1 := hM.freeze qs
  have hBR : ∀ k c, (frz qs 0 h)[k]? = some c → RealW ρ k c → ¬ B (ρ k).b := fun k c hc hR hb => by
    rcases hB _ hb with h1 | ⟨k', hk', hR', he⟩
    · rcases hM1.own k c hc hR with ho | ho
      · exact h1 (.inl ho)
      · exact h1 (.inr (.inr ho))
    · obtain ⟨c0, g1, g2⟩ := frz_get hc
      have hmem : inL qs (0 + k') = true := by
        rw [Nat.zero_add]
        have : ∀ (l : List Nat), k' ∈ l → inL l k' = true := by
          intro l
          induction l with
          | nil => intro h; cases h
          | cons x l ih =>
            intro h
            simp only [inL]
            split
            · rfl
            · rename_i hx
              rcases List.mem_cons.1 h with h | h
              · exact absurd h.symm hx
              · exact ih h
        exact this qs hk'
      by_cases hkk : k = k'
      · subst hkk
        rcases g2 with ⟨_, g3⟩ | ⟨rfl, _⟩
        · rw [hmem] at g3; cases g3
        · have := hnm k hk'
          rw [lookH_get? g1] at this
          have h5 := hR.1
          rw [this] at h5; cases h5
      · obtain ⟨c1, q1, q2, q3, _, _⟩ := frz_all hc
        exact hM.m.sep k k' c1 _ q1 (hget k' hR') hkk ⟨q3 hR.1, hR.2⟩ hR' he.symm
  have hsw : G.C.w0.heap.size ≤ w.heap.size := hM.m.keep.size
  refine wpIn_rangeFunc ?_
  intro fn hfn
  obtain ⟨l, Dn, dd, w1, hent1, hk1, hwl, hl1, hrec, hDnn, hDn⟩ := enter_loop (P := P) hM hro fn (actY ρ t Ds).tmps #[p] assign body
  obtain ⟨rec, hrecdef⟩ : ∃ rec : LoopState → Option Code → Loop, rec = fun st pe => { state := st, pending := pe, fn, tmps := (tmpsD ρ t).toArray, params := #[p], assign, body, defers := dd } := ⟨_, rfl⟩
  have hrec' : w1.heap[l]? = some (.loop (rec .ready none)) := by rw [hrecdef]; exact hrec
  have hlt1 : w.heap.size ≤ w1.heap.size := hk1.size
  have hwlt : ∀ b, B b → b < w.heap.size := hBs
  refine ⟨l, Dn.map mark, w1, { target := .fn (.func f) lb.toArray, args := #[.func (.yield l) #[] #[]] }, w1, f, (Value.func (.yield l) #[] #[] :: lb).toArray, w1, hent1, ?_, ?_, ?_, ?_, ?_⟩
  · have he : (actY ρ t Ds).eval gop = .func (.func f) #[] lb.toArray := by rw [← act_actY ρ t h Ds, act_eval ρ ⟨t, h, Ds.map mark⟩ hok]; exact hden
    simp only [resolve, he]
    simp [go_sem]
  · intro f' _; exact hF.fn f'
  · simp only [invoke]
    rw [show ((#[Value.func (.yield l) #[] #[]] : Array Value) ++ lb.toArray) = (Value.func (.yield l) #[] #[] :: lb).toArray from by apply Array.ext'; simp]
    exact hent _ _
  · exact fun hd => absurd hd (by rw [hF.depth]; simp)
  · let A1 := liveA (frz qs 0 h)
    let Ob1 : List (Nat × Obj) := Dn.map (fun D => (D, Obj.deferred (some []))) ++ Ob
    let J : Inv := fun gh W Yc => ∃ gO Yo ρ' h',
      (match gh with
        | .run i => I i gO h' ∧ MG G ((l, Obj.loop (rec .ready none)) :: Ob1) Yo gO ρ' h' W
        | .stop i => ∃ e c, Ix i gO e h' ∧ leaves e = some c ∧ MG G ((l, Obj.loop (rec .done (some c))) :: Ob1) Yo gO ρ' h' W) ∧
      Agree h.length ρ ρ' ∧ h.length ≤ h'.length ∧ roA A1 0 h' ∧ (∀ k c, h'[k]? = some c → RealW ρ' k c → ¬ B (ρ' k).b ∧ ((ρ' k).b < w1.heap.size ∨ Yc (ρ' k).b)) ∧ (∀ b, Yo b → ¬ B b ∧ (b < w1.heap.size ∨ Yc b)) ∧
      (∀ k, A1 k = true → (ρ k).nil = false → ¬ Yo (ρ k).b)
    have hplace : ∀ k, A1 k = true → (ρ k).nil = false → k < h.length ∧ (ρ k).b < w.heap.size ∧ ¬ Y (ρ k).b ∧ ¬ G.V (ρ k).b := fun k hk hn => by
      obtain ⟨c, hc, hl⟩ := liveA_lt hk
      obtain ⟨c0, q1, q2, _⟩ := frz_all hc
      have hR : Real ρ k c0 := ⟨by rw [← q2]; exact hl, hn⟩
      exact ⟨get_lt q1, hM.m.size k c0 q1 hR, hM.away hG hra q1 hR⟩
    have hlB : ¬ B l := fun hb => by have := hwlt l hb; omega
    have hObl : ∀ q ∈ Ob1, q.1 < w1.heap.size ∧ q.1 ≠ l := fun q hq => by
      rcases List.mem_append.1 hq with hq | hq
      · obtain ⟨D, hD', rfl⟩ := List.mem_map.1 hq
        exact ⟨(hDn D hD').2.1, (hDn D hD').2.2.1⟩
      · have := heap_lt (hM.ob q hq).1
        exact ⟨by omega, by omega⟩
    have hls0 : G.C.w0.heap.size ≤ l := by omega
    -- the memory as the loop begins
    have hJ0 : J (.run 0) w1 (fun _ => False) := by
      obtain ⟨X, _, _, hm, back⟩ := hM1.step hG
      have hMw1 := back _ _ _ (hm.same hk1)
      refine ⟨g, Y, ρ, frz qs 0 h, ⟨h0, ⟨hMw1.m, hMw1.own, hMw1.ny, ?_, ?_, hMw1.yb, hMw1.j⟩⟩, fun _ _ => rfl, by rw [frz_length]; exact Nat.le_refl _, roA_live _, ?_, ?_, ?_⟩
      · intro k c hc hR q hq
        have hb := hM1.m.size k c hc hR.real
        rcases List.mem_cons.1 hq with rfl | hq
        · simp only; omega
        · rcases List.mem_append.1 hq with hq | hq
          · obtain ⟨D, hD', rfl⟩ := List.mem_map.1 hq
            have := (hDn D hD').1
            simp only; omega
          · exact hM1.no k c hc hR q hq
      · intro q hq
        rcases List.mem_cons.1 hq with rfl | hq
        · exact ⟨hrec', fun hv => by have := (hG.v _ hv).1; simp only at this; omega, fun hy => by have := (hM.yb _ hy).2; simp only at this; omega⟩
        · rcases List.mem_append.1 hq with hq | hq
          · obtain ⟨D, hD', rfl⟩ := List.mem_map.1 hq
            have hd := hDn D hD'
            exact ⟨hd.2.2.2, fun hv => by have := (hG.v _ hv).1; simp only at this; omega, fun hy => by have := (hM.yb _ hy).2; simp only at this; omega⟩
          · exact hMw1.ob q hq
      · intro k c hc hR
        exact ⟨hBR k c hc hR, .inl (by have := hM1.m.size k c hc hR.real; omega)⟩
      · intro b hb
        exact ⟨fun hx => hBY b hx hb, .inl (by have := (hM.yb b hb).2; omega)⟩
      · intro k hk hn
        exact (hplace k hk hn).2.2.1
    -- the names of a round
    have hkeepA : ∀ {gO Yo ρ' h' W Ob' }, MG G Ob' Yo gO ρ' h' W → Agree h.length ρ ρ' → roA A1 0 h' → ∀ {Yc : Nat → Prop}, (∀ k c, h'[k]? = some c → RealW ρ' k c → ¬ B (ρ' k).b ∧ ((ρ' k).b < w1.heap.size ∨ Yc (ρ' k).b)) →
        ∀ k c, h'[k]? = some c → Real ρ' k c → (ρ' k).b < w1.heap.size ∨ Yc (ρ' k).b := by
      intro gO Yo ρ' h' W Ob' hMG ag hra' Yc hrw k c hc hR
      rcases roA_spec hra' hc with hw | hl | ha
      · exact (hrw k c hc ⟨hw, hR.2⟩).2
      · rw [hR.1] at hl; cases hl
      · rw [Nat.zero_add] at ha
        obtain ⟨c1, hc1, _⟩ := liveA_lt ha
        have hkl : k < h.length := by rw [← frz_length qs 0 h]; exact get_lt hc1
        have hn : (ρ k).nil = false := by rw [← ag k hkl]; exact hR.2
        have := (hplace k ha hn).2.1
        rw [ag k hkl]
        exact .inl (by omega)
    have hcl : Client (fun _ => False) w1.heap.size J := by
      constructor
      · rintro gh W W' Yc Z ⟨gO, Yo, ρ', h', hcase, ag, hlen, hra', hrw, hyo, ha⟩ hk hZ
        have hz : ∀ {Ob'}, MG G Ob' Yo gO ρ' h' W → (∀ q ∈ Ob', q.1 < w1.heap.size) → MG G Ob' Yo gO ρ' h' W' := fun hMG hq => hMG.beside hG hk fun b hb => by
          have hb1 := (hZ b hb).1.resolve_left id
          refine ⟨by omega, fun hy => ?_, fun q hq' he => ?_, fun k c hc hR he => ?_⟩
          · exact (hyo b hy).2.elim (fun h => by omega) (hZ b hb).2
          · have := hq q hq'; omega
          · have := hkeepA hMG ag hra' hrw k c hc hR
            rw [he] at this
            exact this.elim (fun h => by omega) (hZ b hb).2
        have hq1 : ∀ (o : Obj), ∀ q ∈ (l, o) :: Ob1, q.1 < w1.heap.size := fun o q hq => by
          rcases List.mem_cons.1 hq with rfl | hq
          · exact hl1
          · exact (hObl q hq).1
        refine ⟨gO, Yo, ρ', h', ?_, ag, hlen, hra', hrw, hyo, ha⟩
        cases gh with
        | run i => exact ⟨hcase.1, hz hcase.2 (hq1 _)⟩
        | stop i =>
          obtain ⟨e, c, h1, h2, h3⟩ := hcase
          exact ⟨e, c, h1, h2, hz h3 (hq1 _)⟩
      · rintro gh W Yc Yc' ⟨gO, Yo, ρ', h', hcase, ag, hlen, hra', hrw, hyo, ha⟩ hyy
        exact ⟨gO, Yo, ρ', h', hcase, ag, hlen, hra', fun k c hc hR => ⟨(hrw k c hc hR).1, (hrw k c hc hR).2.imp id (hyy _)⟩, fun b hb => ⟨(hyo b hb).1, (hyo b hb).2.imp id (hyy _)⟩, ha⟩
    -- a round
    have hyl : YieldsR P.p l J (fun b => b < w1.heap.size ∧ ¬ B b) w1.heap.size (fun i v i' => ∃ sv, R' i sv i' ∧ v = den ρ sv) := by
      rintro i _ i' W Yc F' k hF' ⟨sv, hR, rfl⟩ hsW hYc ⟨gO, Yo, ρ', h', ⟨hI, hMG⟩, ag, hlen, hra', hrw, hyo, ha⟩
      have hlW := (hMG.ob _ (List.mem_cons_self ..)).1
      simp only at hlW
      have hy := run_yield (P := P.p) (args := #[den ρ sv]) hlW (by rw [hrecdef]; rfl)
      have hden' : den ρ sv = den ρ' sv := (den_agree (n := 0) (fun k hk => absurd hk (by omega)) _ (hflat i sv i' hR)).symm
      have htmp : ((rec .ready none).params.zip #[den ρ sv]).foldl (fun (tm : Array Value) (x : Nat × Value) => tm.setIfInBounds x.1 x.2) (rec .ready none).tmps = (tmpsD ρ' (putS t p sv)).toArray := by
        rw [hrecdef]
        simp only
        rw [← tmps_put ρ' (n := 0) t p sv, hden', tmpsD_agree ag hok]
      refine ⟨_, _, _, _, hy, ?_⟩
      rw [show (rec .ready none).fn = fn by rw [hrecdef], show (rec .ready none).assign = assign by rw [hrecdef], show (rec .ready none).body = body by rw [hrecdef]]
      rw [show (((rec .ready none).params.zip #[den ρ sv]).foldl (fun tmps (t, a) => tmps.setIfInBounds t a) (rec .ready none).tmps) = (tmpsD ρ' (putS t p sv)).toArray from htmp]
      -- the round's own context
      let X2 : Nat → Prop := fun b => (b < w1.heap.size ∨ Yc b) ∧ (G.C.X b ∨ G.C.w0.heap.size ≤ b) ∧ ¬ Yo b ∧ ¬ B b
      let G2 : Ghost := { C := ⟨W, X2, ρ', h.length⟩, V := fun b => G.V b ∨ Yo b, J := fun gh w Yn => G.J gh w (fun b => Yo b ∨ Yn b), s := { G.s with A := A1 } }
      have hWs0 : G.C.w0.heap.size ≤ W.heap.size := hMG.m.keep.size
      have hls : ¬ Yo l ∧ ¬ G.V l := ⟨(hMG.ob _ (List.mem_cons_self ..)).2.2, (hMG.ob _ (List.mem_cons_self ..)).2.1⟩
      have hX2l : X2 l := ⟨.inl hl1, .inr hls0, hls.1, hlB⟩
      have hG2 : G2.Ok P := by
        refine ⟨⟨?_, ?_⟩, ?_, ?_, ?_, ?_, ?_, ?_⟩
        · intro gh w w' Yn Z hj hk hZ
          refine hG.cl.stable hj hk fun b hb => ?_
          obtain ⟨h1, h2⟩ := hZ b hb
          rcases h1 with h1 | h1
          · exact ⟨h1.2.1, fun hx => hx.elim h1.2.2.1 h2⟩
          · simp only [G2] at h1
            exact ⟨.inr (by omega), fun hx => hx.elim (fun hy => by have := (hMG.yb b hy).2; omega) h2⟩
        · intro gh w Yn Yn' hj hyy
          exact hG.cl.mono hj fun b hb => hb.imp id (hyy b)
        · have step : ∀ (v : Value) (j' : Nat) (w2 : World) (Yn : Nat → Prop) (F2 : Fence) (k2 : Nat), W.heap.size ≤ w2.heap.size → (∀ b, Yn b → W.heap.size ≤ b ∧ b < w2.heap.size) →
              (((∀ b, (Yo b ∨ Yn b) → G.C.w0.heap.size ≤ b ∧ b < w2.heap.size) → YieldAt F2 k2 P.p G.s.l #[v] w2 fun e w' => Keep (fun b => (Yo b ∨ Yn b) ∨ G.V b) w2 w' ∧ ((e = .returned (.bool true) ∧ G.J (.run j') w' (grow (fun b => Yo b ∨ Yn b) w2 w')) ∨ (e = .returned (.bool false) ∧ G.J (.stop j') w' (grow (fun b => Yo b ∨ Yn b) w2 w'))))) →
              YieldAt F2 k2 P.p G.s.l #[v] w2 fun e w' => Keep (fun b => Yn b ∨ (G.V b ∨ Yo b)) w2 w' ∧ ((e = .returned (.bool true) ∧ G.J (.run j') w' (fun b => Yo b ∨ grow Yn w2 w' b)) ∨ (e = .returned (.bool false) ∧ G.J (.stop j') w' (fun b => Yo b ∨ grow Yn w2 w' b))) := by
            intro v j' w2 Yn F2 k2 hs2 hYn hy
            refine YieldAt.mono (hy fun b hb => ?_) ?_
            · rcases hb with hb | hb
              · have := hMG.yb b hb; exact ⟨this.1, by omega⟩
              · have := hYn b hb; exact ⟨by omega, this.2⟩
            · rintro e w3 ⟨hk, hjj⟩
              refine ⟨hk.mono fun b hb => ?_, ?_⟩
              · rcases hb with (hb | hb) | hb
                · exact .inr (.inr hb)
                · exact .inl hb
                · exact .inr (.inl hb)
              · have hgr : ∀ b, grow (fun b => Yo b ∨ Yn b) w2 w3 b → Yo b ∨ grow Yn w2 w3 b := fun b hb => by
                  rcases hb with (hb | hb) | hb
                  · exact .inl hb
                  · exact .inr (.inl hb)
                  · exact .inr (.inr hb)
                exact hjj.imp (fun h => ⟨h.1, hG.cl.mono h.2 hgr⟩) fun h => ⟨h.1, hG.cl.mono h.2 hgr⟩
          have hyl0 := hG.yl
          show YieldsS P.p { G.s with A := A1 } (fun gh w Yn => G.J gh w (fun b => Yo b ∨ Yn b)) (fun b => G.V b ∨ Yo b) W.heap.size
          unfold YieldsS at hyl0 ⊢
          cases halt : G.s.alt with
          | none =>
            rw [halt] at hyl0
            intro i2 w2 Yn F2 k2 hF2 hi2 hs2 hYn hj
            exact step _ (i2 + 1) w2 Yn F2 k2 hs2 hYn fun hyy => hyl0 i2 w2 _ F2 k2 hF2 hi2 (by omega) hyy hj
          | some R =>
            rw [halt] at hyl0
            intro i2 v i2' w2 Yn F2 k2 hF2 hi2 hs2 hYn hj
            exact step _ i2' w2 Yn F2 k2 hs2 hYn fun hyy => hyl0 i2 v i2' w2 _ F2 k2 hF2 hi2 (by omega) hyy hj
        · intro b hb
          rcases hb with hb | hb
          · have h1 := hG.v b hb
            refine ⟨by simp only [G2]; omega, fun hx => ?_⟩
            exact hx.2.1.elim h1.2 fun h => by omega
          · exact ⟨(hMG.yb b hb).2, fun hx => hx.2.2.1 hb⟩
        · intro k2 hk2
          obtain ⟨c1, hc1, _⟩ := liveA_lt hk2
          have hkl : k2 < h.length := by rw [← frz_length qs 0 h]; exact get_lt hc1
          refine ⟨hkl, fun hn => ?_⟩
          have hn' : (ρ k2).nil = false := by rw [← ag k2 hkl]; exact hn
          have h1 := hplace k2 hk2 hn'
          simp only [G2]
          rw [ag k2 hkl]
          exact ⟨by omega, fun hx => hx.elim h1.2.2.2 (ha k2 hk2 hn')⟩
        · refine P.keep hG.kn hMG.m.keep fun b hb => ?_
          rcases hb with hb | hb | hb
          · exact hb.2.1.elim (fun h => .inl (.inl h)) .inr
          · exact .inl (.inr hb)
          · exact .inr (hMG.yb b hb).1
        · exact hG.fx
        · intro k pl hp
          obtain ⟨q1, q2⟩ := hG.pn k pl hp
          have hkl : k < h.length := Nat.lt_of_lt_of_le q1 hM.m.len
          exact ⟨hkl, (ag k hkl).trans ((hM.m.agree k q1).trans q2)⟩
      have hMG2 : MG G2 ((l, Obj.loop (rec .ready none)) :: Ob1) (fun _ => False) gO ρ' h' W := by
        have hown : ∀ k c, h'[k]? = some c → RealW ρ' k c → X2 (ρ' k).b := fun k c hc hR => ⟨(hrw k c hc hR).2, hMG.own k c hc hR, hMG.ny k c hc hR, (hrw k c hc hR).1⟩
        refine ⟨⟨Keep.refl _ _, fun _ _ => rfl, hlen, hMG.m.holds, hMG.m.okc, hMG.m.size, fun k c hc hR => .inl (.inl (hown k c hc hR)), hMG.m.sep⟩, fun k c hc hR => .inl (hown k c hc hR), fun _ _ _ _ h => h, hMG.no, ?_, fun b hb => hb.elim, hG.cl.mono hMG.j fun b hb => .inl hb⟩
        intro q hq
        have := hMG.ob q hq
        exact ⟨this.1, fun hx => hx.elim this.2.1 this.2.2, fun h => h⟩
      have hF2 : WideF (F'.inRound l) := ⟨hF'.fn, hF'.depth⟩
      refine roundIn_of_wpIn (hF'.fn fn) ?_
      refine Code.wpIn_mono ?_ (hround i sv i' gO h' hR hI G2 _ (fun _ => False) [] ρ' W (F'.inRound l) k hG2 rfl (Nat.le_refl _) hF2 (fun l0 hl0 => by obtain rfl : l = l0 := (by simpa using hl0); exact ⟨_, List.mem_cons_self ..⟩) hMG2
        (okS_put (okS_mono hlen hok) (ok_mono (Nat.zero_le _) _ (hflat i sv i' hR))) ⟨List.nodup_nil, fun D hD => by cases hD⟩)
      rintro e a W2 ⟨g2, Y2, Ob2, Ds2, ρ2, t2, h2, hq2, hM2, hok2, hob2, hD2, rfl⟩
      cases e with
      | normal =>
        have hr2 := (hM2.ob _ (hob2 _ (List.mem_cons_self ..))).1
        simp only at hr2
        refine ⟨_, run_beginRound hr2 (by rw [hrecdef]), ?_⟩
        have hM3 := hM2.put hG2 rfl (.loop { rec .ready none with state := .busy }) (hob2 _ (List.mem_cons_self ..)) (.inl hX2l)
        have hmem3 : ∀ q ∈ (l, Obj.loop { rec .ready none with state := .busy }) :: Ob1, q ∈ Ob2.map (rep l (.loop { rec .ready none with state := .busy })) := fun q hq => by
          rcases List.mem_cons.1 hq with rfl | hq
          · exact List.mem_map.2 ⟨_, hob2 _ (List.mem_cons_self ..), by simp [rep]⟩
          · exact List.mem_map.2 ⟨q, hob2 q (List.mem_cons_of_mem _ hq), by simp [rep, (hObl q hq).2]⟩
        have hD3 : Marked G2.C.w0.heap.size Ds2 (Ob2.map (rep l (.loop { rec .ready none with state := .busy }))) := ⟨hD2.1, fun D hD => by
          have h1 := hD2.2 D hD
          refine ⟨List.mem_map.2 ⟨_, h1.1, ?_⟩, h1.2⟩
          have h3 := (hM2.ob _ h1.1).1
          simp only at h3
          have : D ≠ l := fun he => by rw [he, hr2] at h3; cases h3
          simp [rep, this]⟩
        refine Code.wpIn_mono ?_ (hq2 G2 _ Y2 Ds2 ρ2 _ (F'.inRound l) k hG2 rfl (Nat.le_refl _) hF2 (fun l0 hl0 => by obtain rfl : l = l0 := (by simpa using hl0); exact ⟨_, hmem3 _ (List.mem_cons_self ..)⟩) hM3 hok2 hD3)
        rintro e a W3 ⟨g3, Y3, Ob3, Ds3, ρ3, t3, h3, hq3, hMM3, hok3, hob3, hD3', rfl⟩
        have hr3 := (hMM3.ob _ (hob3 _ (hmem3 _ (List.mem_cons_self ..)))).1
        simp only at hr3
        -- how a round ends
        have fin : ∀ (jump : Option Code) (J4 : List Chunk → Prop), IntoY h.length t3 h3 (fun _ h4 => J4 h4 ∧ roA A1 0 h4) →
            ∃ W4, (Instr.endRound l jump).run P.p W3 = .ok (.bool jump.isNone) W4 ∧ Keep (fun b => Yc b ∨ (b < w1.heap.size ∧ ¬ B b)) W W4 ∧ ∃ Yo4 ρ4 h4, J4 h4 ∧ MG G ((l, Obj.loop (rec (if jump.isNone then .ready else .done) jump)) :: Ob1) Yo4 g3 ρ4 h4 W4 ∧
              Agree h.length ρ ρ4 ∧ h.length ≤ h4.length ∧ roA A1 0 h4 ∧ (∀ k c, h4[k]? = some c → RealW ρ4 k c → ¬ B (ρ4 k).b ∧ ((ρ4 k).b < w1.heap.size ∨ grow Yc W W4 (ρ4 k).b)) ∧ (∀ b, Yo4 b → ¬ B b ∧ (b < w1.heap.size ∨ grow Yc W W4 b)) ∧
              (∀ k, A1 k = true → (ρ k).nil = false → ¬ Yo4 (ρ k).b) := by
          intro jump J4 hinto
          obtain ⟨ρ4, t4, h4, ⟨hJ4, hra4⟩, hM4, _, _⟩ := hinto.run hG2 (Nat.le_refl _) hMM3 hok3
          have hendr := run_endRound (P := P.p) jump hr3
          have hM5 := hM4.put hG2 rfl (.loop (rec (if jump.isNone then .ready else .done) jump)) (hob3 _ (hmem3 _ (List.mem_cons_self ..))) (.inl hX2l)
          have hrr : ({ ({ rec .ready none with state := .busy } : Loop) with state := if jump.isNone then .ready else .done, pending := jump } : Loop) = rec (if jump.isNone then .ready else .done) jump := by rw [hrecdef]
          rw [hrr] at hendr
          obtain ⟨W4, hW4⟩ : ∃ W4, W3.putObj l (.loop (rec (if jump.isNone then .ready else .done) jump)) = W4 := ⟨_, rfl⟩
          rw [hW4] at hendr hM5
          have hkeep : Keep (fun b => X2 b ∨ (G.V b ∨ Yo b)) W W4 := hM5.m.keep
          have hs4 : W.heap.size ≤ W4.heap.size := hkeep.size
          refine ⟨W4, hendr, hkeep.mono fun b hb => ?_, fun b => Yo b ∨ Y3 b, ρ4, h4, hJ4, ?_, ?_, hM5.m.len, hra4, ?_, ?_, ?_⟩
          · rcases hb with hb | hb | hb
            · exact hb.1.elim (fun h => .inr ⟨h, hb.2.2.2⟩) .inl
            · have := (hG.v b hb).1
              exact .inr ⟨by omega, fun hx => hBV b hx hb⟩
            · exact (hyo b hb).2.elim (fun h => .inr ⟨h, (hyo b hb).1⟩) .inl
          · have hown4 : ∀ k c, h4[k]? = some c → RealW ρ4 k c → X2 (ρ4 k).b ∨ W.heap.size ≤ (ρ4 k).b := hM5.own
            refine ⟨⟨?_, ?_, ?_, hM5.m.holds, hM5.m.okc, hM5.m.size, ?_, hM5.m.sep⟩, ?_, ?_, ?_, ?_, ?_, ?_⟩
            · refine hMG.m.keep.step hkeep fun b hb => ?_
              rcases hb with hb | hb | hb
              · exact hb.2.1.elim (fun h => .inl (.inl h)) .inr
              · exact .inl (.inr hb)
              · exact .inr (hMG.yb b hb).1
            · intro k hk
              have h1 := hM5.m.agree k (Nat.lt_of_lt_of_le hk hM.m.len)
              simp only [G2] at h1
              rw [h1]
              exact hMG.m.agree k hk
            · exact Nat.le_trans hM.m.len hM5.m.len
            · intro k c hc hR
              rcases hown4 k c hc hR with hb | hb
              · exact hb.2.1.elim (fun h => .inl (.inl h)) .inr
              · exact .inr (by simp only; omega)
            · intro k c hc hR
              rcases hown4 k c hc hR with hb | hb
              · exact hb.2.1
              · exact .inr (by omega)
            · intro k c hc hR hy
              rcases hy with hy | hy
              · rcases hown4 k c hc hR with hb | hb
                · exact hb.2.2.1 hy
                · have := (hMG.yb _ hy).2; omega
              · exact hM5.ny k c hc hR hy
            · intro k c hc hR q hq
              rcases List.mem_cons.1 hq with rfl | hq
              · exact hM5.no k c hc hR (l, _) (List.mem_map.2 ⟨_, hob3 _ (hmem3 _ (List.mem_cons_self ..)), by simp [rep]⟩)
              · refine hM5.no k c hc hR q (List.mem_map.2 ⟨q, hob3 _ (hmem3 q (List.mem_cons_of_mem _ hq)), by simp [rep, (hObl q hq).2]⟩)
            · intro q hq
              have h6 : q ∈ Ob3.map (rep l (.loop (rec (if jump.isNone then .ready else .done) jump))) := by
                rcases List.mem_cons.1 hq with rfl | hq
                · exact List.mem_map.2 ⟨_, hob3 _ (hmem3 _ (List.mem_cons_self ..)), by simp [rep]⟩
                · exact List.mem_map.2 ⟨q, hob3 _ (hmem3 q (List.mem_cons_of_mem _ hq)), by simp [rep, (hObl q hq).2]⟩
              obtain ⟨h7, h8, h9⟩ := hM5.ob q h6
              exact ⟨h7, fun hv => h8 (.inl hv), fun hy => hy.elim (fun hy => h8 (.inr hy)) h9⟩
            · intro b hb
              rcases hb with hb | hb
              · have := hMG.yb b hb; exact ⟨this.1, by omega⟩
              · have := hM5.yb b hb; simp only [G2] at this; exact ⟨by omega, this.2⟩
            · exact hM5.j
          · intro k hk
            have h1 := hM5.m.agree k hk
            simp only [G2] at h1
            rw [h1]
            exact ag k hk
          · intro k c hc hR
            rcases hM5.own k c hc hR with hb | hb
            · exact ⟨hb.2.2.2, hb.1.imp id fun h => .inl h⟩
            · simp only [G2] at hb
              exact ⟨fun hx => (by have := hwlt _ hx; omega), .inr (.inr ⟨hb, hM5.m.size k c hc hR.real⟩)⟩
          · intro b hb
            rcases hb with hb | hb
            · exact ⟨(hyo b hb).1, (hyo b hb).2.imp id fun h => .inl h⟩
            · have := hM5.yb b hb
              simp only [G2] at this
              exact ⟨fun hx => (by have := hwlt _ hx; omega), .inr (.inr this)⟩
          · intro k hk hn hy
            rcases hy with hy | hy
            · exact ha k hk hn hy
            · have h1 := hM5.yb _ hy
              have h2 := (hplace k hk hn).2.1
              simp only [G2] at h1
              omega
        cases e with
        | normal =>
          obtain ⟨W4, h1, h2, Yo4, ρ4, h4, h5, h6, h7, h8, h9, h10, h11, h12⟩ := fin none (I i' g3) hq3
          exact ⟨_, W4, h1, h2, .inl ⟨rfl, g3, Yo4, ρ4, h4, ⟨h5, h6⟩, h7, h8, h9, h10, h11, h12⟩⟩
        | ret =>
          obtain ⟨W4, h1, h2, Yo4, ρ4, h4, h5, h6, h7, h8, h9, h10, h11, h12⟩ := fin (some .ret) (Ix i' g3 .ret) hq3.2
          exact ⟨_, W4, h1, h2, .inr ⟨rfl, g3, Yo4, ρ4, h4, ⟨.ret, .ret, h5, rfl, h6⟩, h7, h8, h9, h10, h11, h12⟩⟩
        | exit id =>
          obtain ⟨W4, h1, h2, Yo4, ρ4, h4, h5, h6, h7, h8, h9, h10, h11, h12⟩ := fin (some (.exit id)) (Ix i' g3 (.exit id)) hq3.2
          exact ⟨_, W4, h1, h2, .inr ⟨rfl, g3, Yo4, ρ4, h4, ⟨.exit id, .exit id, h5, rfl, h6⟩, h7, h8, h9, h10, h11, h12⟩⟩
        | goto id => exact absurd hq3.1 (by simp [leaves])
        | panic c => exact absurd hq3.1 (by simp [leaves])
        | outgrown => exact absurd hq3.1 (by simp [leaves])
      | exit id => exact hq2.elim
      | goto id => exact hq2.elim
      | ret => exact hq2.elim
      | panic id => exact hq2.elim
      | outgrown => exact hq2.elim
    have hcall := hgive { F with round := none } (m - 1) l J w1 ⟨hF.fn, hF.depth⟩ rfl hlt1 (fun b hb => hk1.block b (hwlt b hb) fun h => h) hcl hyl hJ0
    refine CallsIn.mono (F := F) hcall ?_
    rintro e W4 ⟨v, gh, Yc, rfl, hgh, hJ4⟩
    have hact : ∀ ρ', Agree h.length ρ ρ' → ({ actY ρ t Ds with defers := Dn.map mark ++ (actY ρ t Ds).defers } : Act) = actY ρ' t (Dn ++ Ds) := fun ρ' ag => by
      simp only [actY, tmpsD_agree ag hok, List.map_append]
    have hDD : Marked G.C.w0.heap.size (Dn ++ Ds) Ob1 := ⟨List.nodup_append.2 ⟨hDnn, hD.1, fun a ha b hb e => by
      have h1 := (hDn a ha).1
      have h2 := heap_lt (hM.ob _ (hD.2 b hb).1).1
      simp only at h2
      omega⟩, fun D hD' => by
      rcases List.mem_append.1 hD' with h1 | h1
      · exact ⟨List.mem_append.2 (.inl (List.mem_map.2 ⟨D, h1, rfl⟩)), by have := (hDn D h1).1; omega⟩
      · exact ⟨List.mem_append.2 (.inr (hD.2 D h1).1), (hD.2 D h1).2⟩⟩
    have hsub : ∀ (o o' : Obj), ∀ q ∈ Ob1, q ∈ ((l, o) :: Ob1).map (rep l o') := fun o o' q hq => List.mem_map.2 ⟨q, List.mem_cons_of_mem _ hq, by simp [rep, (hObl q hq).2]⟩
    obtain ⟨gO, Yo, ρ', h', hcase, ag, hlen, hra', hrw, hyo, ha⟩ := hJ4
    rcases hgh with ⟨i, hi, rfl⟩ | ⟨i, hi, rfl⟩
    · obtain ⟨hI, hMG⟩ := hcase
      have hlW := (hMG.ob _ (List.mem_cons_self ..)).1
      simp only at hlW
      refine ⟨none, _, by have := run_endLoop (P := P.p) hlW (by rw [hrecdef]; simp); rw [hrecdef] at this; exact this, ?_⟩
      have hM5 := (hMG.put hG rfl (.loop { rec .ready none with state := .exhausted }) (List.mem_cons_self ..) (.inr hls0)).sub (hsub _ _)
      rw [hrecdef] at hM5
      exact ⟨gO, Yo, Ob1, Dn ++ Ds, ρ', t, h', hdone i gO h' hi hI, hM5, okS_mono hlen hok, fun q hq => List.mem_append.2 (.inr hq), hDD, hact ρ' ag⟩
    · obtain ⟨e, c, hIx, hle, hMG⟩ := hcase
      have hlW := (hMG.ob _ (List.mem_cons_self ..)).1
      simp only at hlW
      refine ⟨some c, _, by have := run_endLoop (P := P.p) hlW (by rw [hrecdef]; simp); rw [hrecdef] at this; exact this, ?_⟩
      have hM5 := (hMG.put hG rfl (.loop { rec .done (some c) with state := .exhausted }) (List.mem_cons_self ..) (.inr hls0)).sub (hsub _ _)
      rw [hrecdef] at hM5
      have hE := hstop i gO e h' hi hIx
      simp only
      rw [hact ρ' ag]
      cases e with
      | ret =>
        obtain rfl : Code.ret = c := by simpa [leaves] using hle
        exact wpIn_ret ⟨gO, Yo, Ob1, Dn ++ Ds, ρ', t, h', hE, hM5, okS_mono hlen hok, fun q hq => List.mem_append.2 (.inr hq), hDD, rfl⟩
      | exit id =>
        obtain rfl : Code.exit id = c := by simpa [leaves] using hle
        exact wpIn_exit ⟨gO, Yo, Ob1, Dn ++ Ds, ρ', t, h', hE, hM5, okS_mono hlen hok, fun q hq => List.mem_append.2 (.inr hq), hDD, rfl⟩
      | normal => simp [leaves] at hle
      | goto id => simp [leaves] at hle
      | panic c => simp [leaves] at hle
      | outgrown => simp [leaves] at hle
theorem codeY_range {S : Sq} {gop : Operand} {p : Nat} {assign body : Code} {g : Gh} {t : Slots} {h : List Chunk} {N : Gh → Slots → List Chunk → Prop} {E : Gh → Exit → Slots → List Chunk → Prop}
    (qs : List Nat) (n' : Nat) (xs' : Nat → SV) (hflat : ∀ i, ok 0 (xs' i)) (hra : roA S.A 0 h) (hnm : ∀ k ∈ qs, (frz1 (lookH h k)).wr = false)
    (hgv : ∀ ρ w X, P.know w X → (∀ k ∈ qs, Holds ρ w k (lookH h k) ∧ (Real ρ k (lookH h k) → (ρ k).b < w.heap.size)) →
      ∃ f lb B, den ρ (ev t gop) = .func (.func f) #[] lb.toArray ∧ Gives P.p f lb B n' (fun i => den ρ (xs' i)) w ∧ ∀ b, B b → ¬ X b ∨ ∃ k ∈ qs, Real ρ k (lookH h k) ∧ (ρ k).b = b)
    (I : Nat → Gh → List Chunk → Prop) (Ix : Nat → Gh → Exit → List Chunk → Prop) (h0 : I 0 g (frz qs 0 h))
    (hround : ∀ i g h', i < n' → I i g h' → codeY P h.length { S with A := liveA (frz qs 0 h) } assign g (putS t p (xs' i)) h'
      (fun g t1 h1 => codeY P h.length { S with A := liveA (frz qs 0 h) } body g t1 h1 (fun g t2 h2 => IntoY h.length t2 h2 fun _ h4 => I (i + 1) g h4 ∧ roA (liveA (frz qs 0 h)) 0 h4)
        (fun g e t2 h2 => (leaves e).isSome = true ∧ IntoY h.length t2 h2 fun _ h4 => Ix (i + 1) g e h4 ∧ roA (liveA (frz qs 0 h)) 0 h4)) (fun _ _ _ _ => False))
    (hdone : ∀ g h', I n' g h' → N g t h') (hstop : ∀ i g e h', i ≤ n' → Ix i g e h' → E g e t h') :
    codeY P nf S (.rangeFunc gop #[p] assign body) g t h N E := by
  refine codeY_rangeR qs (fun i sv i' => i < n' ∧ sv = xs' i ∧ i' = i + 1) (fun i => i = n') (fun i => i ≤ n') ?_ hra hnm ?_ I Ix h0 ?_ ?_ hstop
  · rintro i sv i' ⟨_, rfl, _⟩
    exact hflat i
  · intro ρ w X hk hH
    obtain ⟨f, lb, B, h1, h2, h3⟩ := hgv ρ w X hk hH
    refine ⟨f, lb, B, h1, ?_, h3⟩
    obtain ⟨q1, q2, q3⟩ := h2.toR
    refine ⟨q1, q2, fun F m l J w hF hr hs hb hcl hyl hj => (q3 F m l J w hF hr hs hb hcl (fun i v i' w Y F k hF hR => ?_) hj).mono ?_⟩
    · obtain ⟨hi, rfl, rfl⟩ := hR
      exact hyl i _ (i + 1) w Y F k hF ⟨_, ⟨hi, rfl, rfl⟩, rfl⟩
    · rintro e w' ⟨v, g, Y, e1, hg, hj⟩
      exact ⟨v, g, Y, e1, hg.imp (fun h => ⟨n', rfl, h⟩) fun h => h, hj⟩
  · rintro i sv i' g h' ⟨hi, rfl, rfl⟩ hI
    exact hround i g h' hi hI
  · rintro i g h' rfl hI
    exact hdone g h' hI
end
end Go.Sx

set_option linter.all false
namespace Go.Sx
open Go.RowKit
variable {P : Pr}

def endsG (n : Nat) (g : Gh) : Prop := g = .run n ∨ ∃ i, i ≤ n ∧ g = .stop i

/-- On the way out the marks are taken off. -/
theorem leaves_marks {G : Ghost} (hG : G.Ok P) {F : Fence} {n : Nat} {fn : Func} {tmps : Array Value} {R : Ending → World → Prop} {Y : Nat → Prop} {g : Gh} {ρ : Env} {H : List Chunk} :
    ∀ (Ds : List Nat) {Ob : List (Nat × Obj)} {w : World}, MG G Ob Y g ρ H w → Marked G.C.w0.heap.size Ds Ob → (∀ w', MG G [] Y g ρ H w' → LeavesIn F n P.p fn tmps R [] .returning w') → LeavesInM F n P.p fn tmps R (Ds.map mark) .returning w
  | [], Ob, w, hM, _, hk => hk w (hM.sub fun p hp => by cases hp)
  | D :: Ds, Ob, w, hM, hD, hk => by
    obtain ⟨h1, h2⟩ := hD.2 D (List.mem_cons_self ..)
    have hn := List.nodup_cons.1 hD.1
    refine ⟨by simp, .inl ⟨D, _, rfl, run_takeDeferred (hM.ob _ h1).1, ?_⟩⟩
    refine leaves_marks hG Ds (hM.put hG rfl (.deferred none) h1 (.inr h2)) ⟨hn.2, fun D' hD' => ?_⟩ hk
    obtain ⟨q1, q2⟩ := hD.2 D' (List.mem_cons_of_mem _ hD')
    have hne : D' ≠ D := fun e => hn.1 (e ▸ hD')
    exact ⟨List.mem_map.2 ⟨_, q1, by simp [rep, hne]⟩, q2⟩

theorem enter_eq {P : Program} {f : FuncId} {fn : Func} {c : Code} (hf : P.funcs[f]? = some fn) (hname : (fn.name == "runtime.NumGoroutine") = false) (hb : fn.body = some c) (args : Array Value) (w : World) : (callFunc f args).run P w = .ok (.enter f args) w := by
  have h1 : fn.name ≠ "runtime.NumGoroutine" := by simpa using hname
  simp [callFunc, hf, h1, hb]

theorem init_eq (ρ : Env) (nt : Nat) (args : List SV) (hn : args.length ≤ nt) :
    ({ tmps := (denL ρ args).toArray ++ Array.replicate (nt - (denL ρ args).toArray.size) undef, defers := [] } : Act) = actY ρ ⟨nt, argsL 0 args, fun _ => undef⟩ [] := by
  simp only [actY, List.map_nil]
  congr 1
  apply Array.ext'
  simp only [Array.toList_append, Array.toList_replicate, List.size_toArray, denL_length, tmpsD]
  apply List.ext_getElem?
  intro i
  rw [List.getElem?_map]
  rcases Nat.lt_or_ge i nt with hi | hi
  · rw [List.getElem?_range hi, Option.map_some]
    show _ = some (den ρ (lkL (argsL 0 args) (fun _ => undef) i))
    rw [argsL_get ρ args 0 i (by omega)]
    rcases Nat.lt_or_ge i args.length with h1 | h1
    · rw [List.getElem?_append_left (by rw [denL_length]; exact h1), Nat.sub_zero, ← den_look, List.getElem?_eq_getElem (by rw [denL_length]; exact h1)]
      rfl
    · rw [List.getElem?_append_right (by rw [denL_length]; exact h1), denL_length, List.getElem?_replicate, if_pos (by omega), Nat.sub_zero, ← den_look, List.getElem?_eq_none (by rw [denL_length]; exact h1)]
      rfl
  · rw [List.getElem?_eq_none (by simp [denL_length]; omega), List.getElem?_eq_none (by simpa using hi)]
    rfl

theorem gives_gen {tab : Tab} (hT : tab.Ok P) {f : FuncId} {fn : Func} {c : Code} (hf : P.p.funcs[f]? = some fn) (hname : (fn.name == "runtime.NumGoroutine") = false) (hb : fn.body = some c) (hres : fn.results.toList = [])
    {caps : List SV} {h0 : List Chunk} {n : Nat} {xs : Nat → Value} {fv : Value} {fx : List SV → Option SV} {alt : Option (Nat → Value → Nat → Prop)} {fin' : Gh → Prop} (hlen : caps.length + 1 ≤ fn.ntmps) (hgood : goodH h0.length h0) (hcaps : okL h0.length caps) (hro : ∀ c ∈ h0, c.wr = false)
    (hv : ∀ l, codeY P h0.length ⟨l, n, xs, liveA h0, fv, fx, alt, none⟩ c (.run 0) ⟨fn.ntmps, argsL 0 (.v (.func (.yield l) #[] #[]) :: caps), fun _ => undef⟩ h0 (fun g _ _ => fin' g) (fun g e _ _ => e = .ret ∧ fin' g))
    {ρ : Env} {B : Nat → Prop} {w0 : World} (hB : ∀ b, B b → b < w0.heap.size) (hH : ∀ k c, h0[k]? = some c → Holds ρ w0 k c ∧ (Real ρ k c → B (ρ k).b))
    (hkn : ∀ w, w0.heap.size ≤ w.heap.size → (∀ b, B b → w.heap[b]? = w0.heap[b]?) → P.know w fun b => False ∨ (b < w.heap.size ∧ ¬ B b))
    (hfx : ∀ args r, fx args = some r → ok 0 r ∧ ∀ ρ w X, P.know w X → ∃ B, (∀ b, B b → ¬ X b) ∧ PureAt P.p B fv (denL ρ args) (den ρ r) w) : (∀ b, B b → b < w0.heap.size) ∧ (∀ args w, (callFunc f args).run P.p w = .ok (.enter f args) w) ∧
    ∀ (F : Fence) (m l : Nat) (J : Inv) (w : World), WideF F → F.round = none → w0.heap.size ≤ w.heap.size → (∀ b, B b → w.heap[b]? = w0.heap[b]?) → Client (fun _ => False) w.heap.size J →
      YieldsS P.p ⟨l, n, xs, liveA h0, fv, fx, alt, none⟩ J (fun b => b < w.heap.size ∧ ¬ B b) w.heap.size → J (.run 0) w (fun _ => False) →
      CallsIn F m P.p f (Value.func (.yield l) #[] #[] :: denL ρ caps).toArray w fun e w' => ∃ v g Y, e = .returned v ∧ fin' g ∧ J g w' Y := by
  refine ⟨hB, enter_eq hf hname hb, ?_⟩
  intro F m l J w hF hr hs hag hcl hyl hj
  let G : Ghost := { C := ⟨w, fun _ => False, ρ, h0.length⟩, V := fun b => b < w.heap.size ∧ ¬ B b, J := J, s := ⟨l, n, xs, liveA h0, fv, fx, alt, none⟩ }
  have hlive : ∀ k, liveA h0 k = true → (ρ k).nil = false → k < h0.length ∧ B (ρ k).b := fun k hk hn => by
    obtain ⟨c, hc, hl⟩ := liveA_lt hk
    exact ⟨get_lt hc, (hH k c hc).2 ⟨hl, hn⟩⟩
  have hG : G.Ok P := by
    refine ⟨hcl, hyl, fun b hb => ⟨hb.1, fun h => h⟩, fun k hk => ?_, hkn w hs hag, hfx, fun _ _ h => by cases h⟩
    obtain ⟨c, hc, _⟩ := liveA_lt hk
    refine ⟨get_lt hc, fun hn => ?_⟩
    have := (hlive k hk hn).2
    exact ⟨Nat.lt_of_lt_of_le (hB _ this) hs, fun hv => hv.2 this⟩
  have hM : MG G [] (fun _ => False) (.run 0) ρ h0 w := by
    refine ⟨⟨Keep.refl _ _, fun _ _ => rfl, Nat.le_refl _, fun k c hc => ?_, fun k c hc => goodH_get hgood hc, fun k c hc hR => ?_, fun k c hc hR => ?_, fun k k' c c' hc _ _ hR => ?_⟩, fun k c hc hR => ?_, fun k c hc hR => ?_, fun k c hc hR => ?_, fun p hp => (by cases hp), fun b hb => hb.elim, hj⟩
    · by_cases hl : c.live = true
      · exact holds_block (fun hn => hag _ ((hH k c hc).2 ⟨hl, hn⟩)) (hH k c hc).1
      · cases c <;> simp [Chunk.live] at hl
        trivial
    · exact Nat.lt_of_lt_of_le (hB _ ((hH k c hc).2 hR)) hs
    all_goals
      have h1 := hR.1
      rw [hro c (List.mem_of_getElem? hc)] at h1
      cases h1
  have hok : okS h0.length ⟨fn.ntmps, argsL 0 (.v (.func (.yield l) #[] #[]) :: caps), fun _ => undef⟩ := ⟨fun _ _ => rfl, argsL_ok _ 0 fn.ntmps ⟨trivial, hcaps⟩ (by simp; omega)⟩
  have hw := hv l G [] (fun _ => False) [] ρ w F m hG rfl (Nat.le_refl _) hF (fun l0 h => by rw [hr] at h; cases h) hM hok ⟨List.nodup_nil, fun D hD => by cases hD⟩
  refine callsIn_of_wp_marks hf hb (hF.fn f) ?_ hr
  have hd : (Value.func (.yield l) #[] #[] :: denL ρ caps).toArray = (denL ρ (.v (.func (.yield l) #[] #[]) :: caps)).toArray := rfl
  rw [hd, init_eq ρ fn.ntmps _ (by simp; omega)]
  refine Code.wpIn_mono ?_ hw
  have fin : ∀ {g Y Ob' Ds ρ' t h'} {w' : World}, MG G Ob' Y g ρ' h' w' → Marked G.C.w0.heap.size Ds Ob' → fin' g → okS h'.length t → LeavesInM F m P.p fn (actY ρ' t Ds).tmps (fun e w' => ∃ v g Y, e = .returned v ∧ fin' g ∧ J g w' Y) (actY ρ' t Ds).defers .returning w' := by
    intro g Y Ob' Ds ρ' t h' w' hM' hD hg hok'
    refine leaves_marks hG Ds hM' hD fun w2 hM2 => ?_
    obtain ⟨v, _, _, h4⟩ := results_run hT hM2.m hok' (fn := fn) (K := fun _ => True) (by rw [hres]; trivial)
    exact ⟨_, h4, _, g, Y, rfl, hg, hM2.j⟩
  rintro e a w' ⟨g, Y, Ob', Ds, ρ', t, h', hq, hM', hok', _, hD, rfl⟩
  cases e with
  | normal => exact fin hM' hD hq hok'
  | ret => exact fin hM' hD hq.2 hok'
  | _ => exact absurd hq.1 (by simp)

theorem gives_of_codeY {tab : Tab} (hT : tab.Ok P) {f : FuncId} {fn : Func} {c : Code} (hf : P.p.funcs[f]? = some fn) (hname : (fn.name == "runtime.NumGoroutine") = false) (hb : fn.body = some c) (hres : fn.results.toList = [])
    {caps : List SV} {h0 : List Chunk} {n : Nat} {xs : Nat → Value} {fv : Value} {fx : List SV → Option SV} (hlen : caps.length + 1 ≤ fn.ntmps) (hgood : goodH h0.length h0) (hcaps : okL h0.length caps) (hro : ∀ c ∈ h0, c.wr = false)
    (hv : ∀ l, codeY P h0.length ⟨l, n, xs, liveA h0, fv, fx, none, none⟩ c (.run 0) ⟨fn.ntmps, argsL 0 (.v (.func (.yield l) #[] #[]) :: caps), fun _ => undef⟩ h0 (fun g _ _ => endsG n g) (fun g e _ _ => e = .ret ∧ endsG n g))
    {ρ : Env} {B : Nat → Prop} {w0 : World} (hB : ∀ b, B b → b < w0.heap.size) (hH : ∀ k c, h0[k]? = some c → Holds ρ w0 k c ∧ (Real ρ k c → B (ρ k).b))
    (hkn : ∀ w, w0.heap.size ≤ w.heap.size → (∀ b, B b → w.heap[b]? = w0.heap[b]?) → P.know w fun b => False ∨ (b < w.heap.size ∧ ¬ B b))
    (hfx : ∀ args r, fx args = some r → ok 0 r ∧ ∀ ρ w X, P.know w X → ∃ B, (∀ b, B b → ¬ X b) ∧ PureAt P.p B fv (denL ρ args) (den ρ r) w) : Gives P.p f (denL ρ caps) B n xs w0 := by
  exact gives_gen hT hf hname hb hres hlen hgood hcaps hro (fin' := endsG n) hv hB hH hkn hfx
theorem givesR_of_codeY {tab : Tab} (hT : tab.Ok P) {f : FuncId} {fn : Func} {c : Code} (hf : P.p.funcs[f]? = some fn) (hname : (fn.name == "runtime.NumGoroutine") = false) (hb : fn.body = some c) (hres : fn.results.toList = [])
    {caps : List SV} {h0 : List Chunk} {R : Nat → Value → Nat → Prop} {fin' : Gh → Prop} {fv : Value} {fx : List SV → Option SV} (hlen : caps.length + 1 ≤ fn.ntmps) (hgood : goodH h0.length h0) (hcaps : okL h0.length caps) (hro : ∀ c ∈ h0, c.wr = false)
    (hv : ∀ l, codeY P h0.length ⟨l, 0, fun _ => undef, liveA h0, fv, fx, some R, none⟩ c (.run 0) ⟨fn.ntmps, argsL 0 (.v (.func (.yield l) #[] #[]) :: caps), fun _ => undef⟩ h0 (fun g _ _ => fin' g) (fun g e _ _ => e = .ret ∧ fin' g))
    {ρ : Env} {B : Nat → Prop} {w0 : World} (hB : ∀ b, B b → b < w0.heap.size) (hH : ∀ k c, h0[k]? = some c → Holds ρ w0 k c ∧ (Real ρ k c → B (ρ k).b))
    (hkn : ∀ w, w0.heap.size ≤ w.heap.size → (∀ b, B b → w.heap[b]? = w0.heap[b]?) → P.know w fun b => False ∨ (b < w.heap.size ∧ ¬ B b))
    (hfx : ∀ args r, fx args = some r → ok 0 r ∧ ∀ ρ w X, P.know w X → ∃ B, (∀ b, B b → ¬ X b) ∧ PureAt P.p B fv (denL ρ args) (den ρ r) w) : GivesR P.p f (denL ρ caps) B R fin' w0 := by
  exact gives_gen hT hf hname hb hres hlen hgood hcaps hro hv hB hH hkn hfx

theorem callP_of_codeY {tab : Tab} (hT : tab.Ok P) {f : FuncId} {fn : Func} {c : Code} (hf : P.p.funcs[f]? = some fn) (hname : (fn.name == "runtime.NumGoroutine") = false) (hb : fn.body = some c)
    {args : List SV} {h : List Chunk} {K : Tok → SV → List Chunk → Prop} {fv : Value} {fx : List SV → Option SV} (hn : args.length ≤ fn.ntmps)
    (hfx : ∀ args r, fx args = some r → ok 0 r ∧ ∀ ρ w X, P.know w X → ∃ B, (∀ b, B b → ¬ X b) ∧ PureAt P.p B fv (denL ρ args) (den ρ r) w)
    (hv : codeY P h.length ⟨0, 0, fun _ => undef, liveA h, fv, fx, none, none⟩ c (.run 0) ⟨fn.ntmps, argsL 0 args, fun _ => undef⟩ h (fun _ t h' => resS tab t h' (fun l => IntoR h.length (tupS l) h' K) fn.results.toList)
      (fun _ e t h' => e = .ret ∧ resS tab t h' (fun l => IntoR h.length (tupS l) h' K) fn.results.toList)) : callP P f args h K := by
  intro C ρ w hkn hM hargs
  refine .inr ⟨enter_eq hf hname hb _ _, fun F m hF hr => ?_⟩
  let X' : Nat → Prop := fun b => C.X b ∨ C.w0.heap.size ≤ b
  let G : Ghost := { C := ⟨w, X', ρ, h.length⟩, V := fun _ => False, J := fun g _ _ => g = .run 0, s := ⟨0, 0, fun _ => undef, liveA h, fv, fx, none, none⟩ }
  have hG : G.Ok P := by
    refine ⟨⟨fun h _ _ => h, fun h _ => h⟩, fun i _ _ _ _ _ hi => absurd hi (by simp [G]), fun b hb => hb.elim, fun k hk => ?_, ?_, hfx, fun _ _ h => by cases h⟩
    · obtain ⟨c, hc, hl⟩ := liveA_lt hk
      exact ⟨get_lt hc, fun hn => ⟨hM.size k c hc ⟨hl, hn⟩, fun h => h⟩⟩
    · exact P.keep hkn hM.keep fun b hb => hb.elim (fun h => h) fun h => h.elim
  have hMG : MG G [] (fun _ => False) (.run 0) ρ h w :=
    ⟨⟨Keep.refl _ _, fun _ _ => rfl, Nat.le_refl _, hM.holds, hM.okc, hM.size, fun k c hc hR => .inl (.inl (hM.wr k c hc hR)), hM.sep⟩, fun k c hc hR => .inl (hM.wr k c hc hR), fun _ _ _ _ h => h, fun _ _ _ _ p hp => (by cases hp), fun p hp => (by cases hp), fun b hb => hb.elim, rfl⟩
  have hok : okS h.length ⟨fn.ntmps, argsL 0 args, fun _ => undef⟩ := ⟨fun _ _ => rfl, argsL_ok args 0 fn.ntmps hargs (by omega)⟩
  have hw := hv G [] (fun _ => False) [] ρ w F m hG rfl (Nat.le_refl _) hF (fun l0 h => by rw [hr] at h; cases h) hMG hok ⟨List.nodup_nil, fun D hD => by cases hD⟩
  refine callsIn_of_wp_marks hf hb (hF.fn f) ?_ hr
  rw [init_eq ρ fn.ntmps args hn]
  refine Code.wpIn_mono ?_ hw
  have fin : ∀ {g Y Ob' Ds ρ' t h'} {w' : World}, MG G Ob' Y g ρ' h' w' → Marked G.C.w0.heap.size Ds Ob' → resS tab t h' (fun l => IntoR h.length (tupS l) h' K) fn.results.toList → okS h'.length t →
      LeavesInM F m P.p fn (actY ρ' t Ds).tmps (Ret C h ρ (K .mk)) (actY ρ' t Ds).defers .returning w' := by
    intro g Y Ob' Ds ρ' t h' w' hM' hD hr hok'
    refine leaves_marks hG Ds hM' hD fun w2 hM2 => ?_
    obtain ⟨v, h1, h3, h4⟩ := results_run hT hM2.m hok' (K := fun v => IntoR h.length v h' K) hr
    obtain ⟨ρ3, v3, h3', q1, q2, q3, q4, q5⟩ := h1 _ ρ' w2 (Nat.le_refl _) hM2.m h3
    refine ⟨_, h4, ρ3, v3, h3', by rw [q4], q1, ?_, q2.agree, q3, q5⟩
    refine ⟨?_, fun k hk => (q2.agree k (Nat.lt_of_lt_of_le hk hM.len)).trans (hM.agree k hk), Nat.le_trans hM.len q5, q2.holds, q2.okc, q2.size, fun k c hc hR => ?_, q2.sep⟩
    · exact hM.keep.step q2.keep fun b hb => hb.elim (fun h => h) fun h => h.elim
    · rcases q2.wr k c hc hR with hx | hx
      · exact hx.elim (fun h => h) fun h => h.elim
      · exact .inr (Nat.le_trans hM.keep.size hx)
  rintro e a w' ⟨g, Y, Ob', Ds, ρ', t, h', hq, hM', hok', _, hD, rfl⟩
  cases e with
  | normal => exact fin hM' hD hq hok'
  | ret => exact fin hM' hD hq.2 hok'
  | _ => exact absurd hq.1 (by simp)

/-- A contract of a callee that is handed no memory of the caller's by name, but may know of it. -/
theorem callP_open {f : FuncId} {args : List SV} {h : List Chunk} {K KL : Tok → SV → List Chunk → Prop}
    (hc : ∀ (C : Ctx) ρ w, P.know C.w0 C.X → Models C ρ h w → ∃ (P' : Pr) (argsL : List SV), P'.p = P.p ∧ P'.know w (fun _ => False) ∧ okL 0 argsL ∧ (∀ ρ', denL ρ args = denL ρ' argsL) ∧ callP P' f argsL [] KL)
    (hk : ∀ v hl', KL .mk v hl' → (∀ c ∈ hl', c.live = true → c.wr = true) ∧ K .mk (rnm (upG [] h.length) v) (h ++ hl'.map (rnmC (upG [] h.length)))) : callP P f args h K := by
  intro C ρ w hkn hM hok
  obtain ⟨⟨p', kn', kp'⟩, argsL, rfl, hkn', hol, hden, hcall⟩ := hc C ρ w hkn hM
  have hML : Models ⟨w, fun _ => False, ρ, 0⟩ ρ [] w := ⟨Keep.refl _ _, fun _ _ => rfl, Nat.le_refl _, fun k c h => by simp at h, fun k c h => by simp at h, fun k c h => by simp at h, fun k c h => by simp at h, fun k k' c c' h => by simp at h⟩
  have hgoes := hcall ⟨w, fun _ => False, ρ, 0⟩ ρ w hkn' hML hol
  rw [hden ρ]
  have fin : ∀ ρ' sv hl' w', KL .mk sv hl' → Models ⟨w, fun _ => False, ρ, 0⟩ ρ' hl' w' → ok hl'.length sv →
      ∃ ρ'', den ρ' sv = den ρ'' (rnm (upG [] h.length) sv) ∧ K .mk (rnm (upG [] h.length) sv) (h ++ hl'.map (rnmC (upG [] h.length))) ∧ Models C ρ'' (h ++ hl'.map (rnmC (upG [] h.length))) w' ∧ Agree h.length ρ ρ'' ∧
        ok (h ++ hl'.map (rnmC (upG [] h.length))).length (rnm (upG [] h.length) sv) ∧ h.length ≤ (h ++ hl'.map (rnmC (upG [] h.length))).length := by
    intro ρ' sv hl' w' hK hM' hs
    obtain ⟨q1, q3⟩ := hk sv hl' hK
    have hM2 : Models ⟨w, fun _ => False, viaG ρ (upG [] h.length), 0⟩ ρ' hl' w' := ⟨hM'.keep, fun k hk => absurd hk (by simp), hM'.len, hM'.holds, hM'.okc, hM'.size, hM'.wr, hM'.sep⟩
    obtain ⟨ρ'', m1, m2, m3⟩ := frame_models hM (r := []) (hl := []) List.nodup_nil trivial (X := fun _ => False) (fun b hb => hb.elim) hM2 (fun k hk => absurd hk (by simp)) (Nat.zero_le _) (by cases hl' <;> exact q1) (by cases hl' <;> trivial)
    have e : lay (upG [] h.length) [] [] hl' h = h ++ hl'.map (rnmC (upG [] h.length)) := by cases hl' <;> rfl
    rw [e] at m1
    refine ⟨ρ'', m3 sv hs, q3, m1, m2, ?_, by simp⟩
    refine (ok_rnm (n := hl'.length) (fun k hk => ⟨h.length + k, by simp [upG, up, nth], by simp; omega⟩) sv hs).2
  rcases hgoes with ⟨w', ρ', sv, hl', h1, h2, h3, h4, h5, h6⟩ | ⟨h1, h2⟩
  · obtain ⟨ρ'', e1, e2, e3, e4, e5, e6⟩ := fin ρ' sv hl' w' h2 h3 h5
    refine .inl ⟨w', ρ'', _, _, ?_, e2, e3, e4, e5, e6⟩
    rcases h1 with h1 | ⟨h1, rfl⟩
    · exact .inl (by rw [h1, e1])
    · exact .inr ⟨h1, rfl⟩
  · refine .inr ⟨h1, fun F n hF hro => CallsIn.mono (h2 F n hF hro) ?_⟩
    rintro e w' ⟨ρ', sv, hl', rfl, q2, q3, q4, q5, q6⟩
    obtain ⟨ρ'', e1, e2, e3, e4, e5, e6⟩ := fin ρ' sv hl' w' q2 q3 q5
    exact ⟨ρ'', _, _, by rw [e1], e2, e3, e4, e5, e6⟩

/-- A function that only reads, as a value. -/
theorem pure_of_callP {p : Program} {f : FuncId} {fn : Func} {c : Code} (hf : p.funcs[f]? = some fn) (hname : (fn.name == "runtime.NumGoroutine") = false) (hb : fn.body = some c)
    {caps args : List SV} {r : SV} {h0 : List Chunk} (hgood : goodH h0.length h0) (hro : ∀ c ∈ h0, c.wr = false) (ho : okL h0.length (args ++ caps)) (hr : ok 0 r) (hc : callP (Pr.of p) f (args ++ caps) h0 fun _ v _ => v = r)
    {ρ : Env} {B : Nat → Prop} {w0 : World} (hB : ∀ b, B b → b < w0.heap.size) (hH : ∀ k c, h0[k]? = some c → Holds ρ w0 k c ∧ (Real ρ k c → B (ρ k).b)) :
    PureAt p B (.func (.func f) #[] (denL ρ caps).toArray) (denL ρ args) (den ρ r) w0 := by
  refine ⟨f, _, rfl, enter_eq hf hname hb, hB, ?_⟩
  intro F m w hF hround hs hag
  have hM : Models ⟨w, fun _ => False, ρ, h0.length⟩ ρ h0 w := by
    refine ⟨Keep.refl _ _, fun _ _ => rfl, Nat.le_refl _, fun k c hc => ?_, fun k c hc => goodH_get hgood hc, fun k c hc hR => ?_, fun k c hc hR => ?_, fun k k' c c' hc _ _ hR => ?_⟩
    · by_cases hl : c.live = true
      · exact holds_block (fun hn => hag _ ((hH k c hc).2 ⟨hl, hn⟩)) (hH k c hc).1
      · cases c <;> simp [Chunk.live] at hl
        trivial
    · exact Nat.lt_of_lt_of_le (hB _ ((hH k c hc).2 hR)) hs
    all_goals
      have h1 := hR.1
      rw [hro c (List.mem_of_getElem? hc)] at h1
      cases h1
  have hargs : (denL ρ args).toArray ++ (denL ρ caps).toArray = (denL ρ (args ++ caps)).toArray := by rw [denL_append]; simp
  rw [hargs]
  rcases hc ⟨w, fun _ => False, ρ, h0.length⟩ ρ w trivial hM ho with ⟨w', ρ', sv, h', h1, _⟩ | ⟨_, h2⟩
  · rw [enter_eq hf hname hb] at h1
    simp at h1
  · refine (h2 F m hF hround).mono ?_
    rintro e w' ⟨ρ', sv, h', rfl, rfl, hM', _⟩
    exact ⟨by rw [den_agree (n := 0) (ρ := ρ) (ρ' := ρ') (fun k hk => absurd hk (by omega)) _ hr], hM'.keep⟩

/-- A nil slice may have a name. -/
theorem intoR_nil {nf : Nat} {h : List Chunk} {K : Tok → SV → List Chunk → Prop} {s : Nat} {f : Nat → SV} (hle : nf ≤ h.length) (hk : K .mk (.osl h.length 0 0 s 0) (h ++ [.row true 0 s f])) : IntoR nf (.v (.slice none 0 0)) h K := fun C ρ w hC hM hok => by
  refine ⟨upd ρ h.length ⟨0, 0, 0, true⟩, _, _, hk, ?_, ?_, ?_, by simp; omega⟩
  · exact hM.alloc (Keep.refl _ _) (fun h => by cases h) ⟨fun i hi => absurd hi (by omega), fun i hi => absurd hi (by omega)⟩ (by simp [Holds, upd])
  · simp [ok]
  · simp [den, upd]
end Go.Sx

set_option linter.all false
namespace Go.Sx
open Go.RowKit
variable {P : Pr}
section
variable {tab : Tab} {nf : Nat} {pl : Nat → Plan} {S : Sq} {g : Gh} {t : Slots} {h : List Chunk} {N : Tok → Gh → Slots → List Chunk → Prop} {E : Tok → Gh → Exit → Slots → List Chunk → Prop} {ops : Array Oper} {K : Tok → Gh → Slots → List Chunk → Prop}
theorem vcY_skip : vcY .mk P tab nf pl S .skip g t h N E = N .mk g t h := rfl
theorem vcY_label {l : Nat} : vcY .mk P tab nf pl S (.label l) g t h N E = N .mk g t h := rfl
theorem vcY_plain {id : Nat} {l : List Oper} : vcY .mk P tab nf pl S (.region id l.toArray false) g t h N E = rnY .mk P tab S l.toArray l g t h fun k g t h => N k g t h := rfl
theorem vcY_drawn {id : Nat} : vcY .mk P tab nf pl S (.region id ops true) g t h N E = rpY .mk P tab S ops (pl id) [] g t h fun k g t h => N k g t h := rfl
theorem vcY_seq {a b : Code} : vcY .mk P tab nf pl S (.seq a b) g t h N E = vcY .mk P tab nf pl S a g t h (fun k g t h => vcY k P tab nf pl S b g t h N E) E := rfl
theorem vcY_cond {c : Operand} {a b : Code} : vcY .mk P tab nf pl S (.cond c a b) g t h N E = (match ev t c with
    | .bool x => imp (x = true) (vcY .mk P tab nf pl S a g t h N E) ∧ imp (x = false) (vcY .mk P tab nf pl S b g t h N E)
    | _ => False) := rfl
theorem vcY_block {id : Nat} {c : Code} : vcY .mk P tab nf pl S (.block id c) g t h N E = vcY .mk P tab nf pl S c g t h N fun k g e t h => match e with
    | .exit j => if j = id then N k g t h else E k g (.exit j) t h
    | e => E k g e t h := rfl
theorem vcY_exit {id : Nat} : vcY .mk P tab nf pl S (.exit id) g t h N E = E .mk g (.exit id) t h := rfl
theorem vcY_ret : vcY .mk P tab nf pl S .ret g t h N E = E .mk g .ret t h := rfl
theorem vcY_loop {c : Code} : vcY .mk P tab nf pl S (.loop c) g t h N E = codeY P nf S (.loop c) g t h (N .mk) (E .mk) := rfl
theorem vcY_range {f : Operand} {ps : Array Tmp} {a b : Code} : vcY .mk P tab nf pl S (.rangeFunc f ps a b) g t h N E = codeY P nf S (.rangeFunc f ps a b) g t h (N .mk) (E .mk) := rfl
theorem rnY_nil : rnY .mk P tab S ops [] g t h K = K .mk g t h := rfl
theorem rnY_cons {o : Oper} {r : List Oper} : rnY .mk P tab S ops (o :: r) g t h K = gd ops t o.guard (fun t => opY P tab S g t h o.op fun k g v h' => rnY k P tab S ops r g (putO t o.dst v) h' K) (fun t => rnY .mk P tab S ops r g (putO t o.dst (.tup [])) h K) := rfl
variable {rd : List (Nat × List Nat)}
theorem rpY_nil : rpY .mk P tab S ops .nil rd g t h K = K .mk g t h := rfl
theorem rpY_q {i : Nat} {p : Plan} : rpY .mk P tab S ops (.q i p) rd g t h K = (match ops[i]? with
    | some o => gd ops t o.guard (fun t => match qv tab t h o.op with
        | some (c, v) => c ∧ rpY .mk P tab S ops p ((i, qn t o.op) :: rd) g (putO t o.dst v) h K
        | none => False) (fun t => rpY .mk P tab S ops p rd g (putO t o.dst (.tup [])) h K)
    | none => False) := rfl
theorem rpY_e1 {i : Nat} {ws : List Nat} {p : Plan} : rpY .mk P tab S ops (.e1 i ws p) rd g t h K = (match ops[i]? with
    | some o => gd ops t o.guard (fun t => opY P tab S g t h o.op fun k g v h' => stays ws h h' rd ∧ rpY k P tab S ops p rd g (putO t o.dst v) h' K) (fun t => rpY .mk P tab S ops p rd g (putO t o.dst (.tup [])) h K)
    | none => False) := rfl
/-- The rules in one. -/
def vyB := And.intro @vcY_skip (And.intro @vcY_label (And.intro @vcY_plain (And.intro @vcY_drawn (And.intro @vcY_seq (And.intro @vcY_cond (And.intro @vcY_block (And.intro @vcY_exit (And.intro @vcY_ret (And.intro @vcY_loop (And.intro @vcY_range (And.intro @rnY_nil (And.intro @rnY_cons (And.intro @rpY_nil (And.intro @rpY_q (@rpY_e1)))))))))))))))
end
/-- Closing steps. -/
theorem endsG_run {n i : Nat} (h : i = n) : endsG n (.run i) := .inl (by rw [h])
theorem endsG_stop {n i : Nat} (h : i ≤ n) : endsG n (.stop i) := .inr ⟨i, h, rfl⟩
end Go.Sx

set_option linter.all false
namespace Go.Sx
open Go.RowKit

theorem Gives.later {p : Program} {f : FuncId} {lb : List Value} {B : Nat → Prop} {n : Nat} {xs : Nat → Value} {w0 w : World} (h : Gives p f lb B n xs w0) (hs : w0.heap.size ≤ w.heap.size) (hb : ∀ b, B b → w.heap[b]? = w0.heap[b]?) : Gives p f lb B n xs w :=
  ⟨fun b hB => Nat.lt_of_lt_of_le (h.1 b hB) hs, h.2.1, fun F m l J W hF hr hs' hb' hcl hyl hj => by
    refine h.2.2 F m l J W hF hr (Nat.le_trans hs hs') (fun b hB => (hb' b hB).trans (hb b hB)) hcl hyl hj⟩
theorem PureAt.later {p : Program} {B : Nat → Prop} {fv : Value} {a : List Value} {r : Value} {w0 w : World} (h : PureAt p B fv a r w0) (hs : w0.heap.size ≤ w.heap.size) (hb : ∀ b, B b → w.heap[b]? = w0.heap[b]?) : PureAt p B fv a r w := by
  obtain ⟨f, cap, h1, h2, h3, h4⟩ := h
  exact ⟨f, cap, h1, h2, fun b hB => Nat.lt_of_lt_of_le (h3 b hB) hs, fun F m W hF hr hs' hb' => h4 F m W hF hr (Nat.le_trans hs hs') fun b hB => (hb' b hB).trans (hb b hB)⟩

theorem Gives.wider {p : Program} {f : FuncId} {lb : List Value} {B B' : Nat → Prop} {n : Nat} {xs : Nat → Value} {w : World} (h : Gives p f lb B n xs w) (hB : ∀ b, B b → B' b) (hs : ∀ b, B' b → b < w.heap.size) : Gives p f lb B' n xs w :=
  ⟨hs, h.2.1, fun F m l J W hF hr hs' hb' hcl hyl hj => h.2.2 F m l J W hF hr hs' (fun b hb => hb' b (hB b hb)) hcl (fun i w Y F k hF hi hsz hY hJ => YieldAt.mono (hyl i w Y F k hF hi hsz hY hJ) fun e w' he => ⟨he.1.mono fun b hb => hb.imp id fun hv => ⟨hv.1, fun hx => hv.2 (hB b hx)⟩, he.2⟩) hj⟩
theorem Gives.cong {p : Program} {f : FuncId} {lb : List Value} {B : Nat → Prop} {n n' : Nat} {xs xs' : Nat → Value} {w : World} (h : Gives p f lb B n xs w) (hn : n = n') (hx : ∀ i, i < n → xs i = xs' i) : Gives p f lb B n' xs' w := by
  subst hn
  refine ⟨h.1, h.2.1, fun F m l J W hF hr hs' hb' hcl hyl hj => h.2.2 F m l J W hF hr hs' hb' hcl (fun i w Y F k hF hi hsz hY hJ => ?_) hj⟩
  rw [hx i hi]
  exact hyl i w Y F k hF hi hsz hY hJ

/-- Known: a sequence. -/
def seqK (p : Program) (f : FuncId) (lb : List Value) (n : Nat) (xs : Nat → Value) (w : World) (X : Nat → Prop) : Prop := ∃ B, (∀ b, B b → ¬ X b) ∧ Gives p f lb B n xs w
/-- Known: a function that only reads. -/
def pureK (p : Program) (fv : Value) (fx : List SV → Option SV) (w : World) (X : Nat → Prop) : Prop :=
  ∃ B, (∀ b, B b → ¬ X b) ∧ ∀ args r, fx args = some r → ok 0 r ∧ ∀ ρ, PureAt p B fv (denL ρ args) (den ρ r) w
theorem keep_away {B X Y : Nat → Prop} {w0 w : World} (hBX : ∀ b, B b → ¬ X b) (hs : ∀ b, B b → b < w0.heap.size) (hk : Keep X w0 w) (hY : ∀ b, Y b → X b ∨ w0.heap.size ≤ b) : (∀ b, B b → ¬ Y b) ∧ ∀ b, B b → w.heap[b]? = w0.heap[b]? :=
  ⟨fun b hb hy => (hY b hy).elim (hBX b hb) fun h => by have := hs b hb; omega, fun b hb => hk.block b (hs b hb) (hBX b hb)⟩
theorem seqK.keep {p : Program} {f : FuncId} {lb : List Value} {n : Nat} {xs : Nat → Value} {w0 w : World} {X Y : Nat → Prop} (h : seqK p f lb n xs w0 X) (hk : Keep X w0 w) (hY : ∀ b, Y b → X b ∨ w0.heap.size ≤ b) : seqK p f lb n xs w Y := by
  obtain ⟨B, h1, h2⟩ := h
  obtain ⟨q1, q2⟩ := keep_away h1 h2.1 hk hY
  exact ⟨B, q1, h2.later hk.size q2⟩
theorem pureK.keep {p : Program} {fv : Value} {fx : List SV → Option SV} {w0 w : World} {X Y : Nat → Prop} (h : pureK p fv fx w0 X) (hs : ∃ a r, fx a = some r) (hk : Keep X w0 w) (hY : ∀ b, Y b → X b ∨ w0.heap.size ≤ b) : pureK p fv fx w Y := by
  obtain ⟨B, h1, h2⟩ := h
  obtain ⟨a, r, har⟩ := hs
  have hB : ∀ b, B b → b < w0.heap.size := by
    obtain ⟨_, _, _, _, h3, _⟩ := (h2 a r har).2 fun _ => ⟨0, 0, 0, true⟩
    exact h3
  obtain ⟨q1, q2⟩ := keep_away h1 hB hk hY
  exact ⟨B, q1, fun args r hr => ⟨(h2 args r hr).1, fun ρ => ((h2 args r hr).2 ρ).later hk.size q2⟩⟩

/-- A program of which a sequence is known. -/
@[reducible] def seqPr (p : Program) (f : FuncId) (lb : List Value) (n : Nat) (xs : Nat → Value) : Pr := ⟨p, seqK p f lb n xs, fun h hk hY => h.keep hk hY⟩
/-- And a function. -/
@[reducible] def seqfPr (p : Program) (f : FuncId) (lb : List Value) (n : Nat) (xs : Nat → Value) (fv : Value) (fx : List SV → Option SV) (hs : ∃ a r, fx a = some r) : Pr :=
  ⟨p, fun w X => seqK p f lb n xs w X ∧ pureK p fv fx w X, fun h hk hY => ⟨h.1.keep hk hY, h.2.keep hs hk hY⟩⟩

/-- A sequence, said in a symbolic heap: it reads the names qs (and what is known). -/
def SeqS (P : Pr) (qs : List Nat) (h : List Chunk) (sv : SV) (n : Nat) (xs : Nat → Value) : Prop :=
  ∀ ρ w X, P.know w X → (∀ k ∈ qs, Holds ρ w k (lookH h k) ∧ (Real ρ k (lookH h k) → (ρ k).b < w.heap.size)) →
    ∃ f lb B, den ρ sv = .func (.func f) #[] ⟨lb⟩ ∧ Gives P.p f lb B n xs w ∧ ∀ b, B b → ¬ X b ∨ ∃ k ∈ qs, Real ρ k (lookH h k) ∧ (ρ k).b = b
/-- A function that only reads, said so. -/
def FunS (P : Pr) (qs : List Nat) (h : List Chunk) (sv : SV) (fx : List SV → Option SV) : Prop :=
  ∀ ρ w X, P.know w X → (∀ k ∈ qs, Holds ρ w k (lookH h k) ∧ (Real ρ k (lookH h k) → (ρ k).b < w.heap.size)) →
    ∃ f lb B, den ρ sv = .func (.func f) #[] ⟨lb⟩ ∧ (∀ b, B b → b < w.heap.size) ∧ (∀ args r, fx args = some r → ok 0 r ∧ ∀ ρ, PureAt P.p B (.func (.func f) #[] ⟨lb⟩) (denL ρ args) (den ρ r) w) ∧ ∀ b, B b → ¬ X b ∨ ∃ k ∈ qs, Real ρ k (lookH h k) ∧ (ρ k).b = b
theorem PureAt.wider {p : Program} {B B' : Nat → Prop} {fv : Value} {a : List Value} {r : Value} {w : World} (h : PureAt p B fv a r w) (hB : ∀ b, B b → B' b) (hs : ∀ b, B' b → b < w.heap.size) : PureAt p B' fv a r w := by
  obtain ⟨f, cap, h1, h2, h3, h4⟩ := h
  exact ⟨f, cap, h1, h2, hs, fun F m W hF hr hs' hb' => h4 F m W hF hr hs' fun b hB' => hb' b (hB b hB')⟩
theorem SeqS.mono {P : Pr} {qs qs' : List Nat} {h h' : List Chunk} {sv : SV} {n : Nat} {xs : Nat → Value} (hs : SeqS P qs h sv n xs) (hq : ∀ k ∈ qs, k ∈ qs' ∧ (∀ ρ w, Holds ρ w k (lookH h' k) → Holds ρ w k (lookH h k)) ∧ (lookH h' k).live = (lookH h k).live) : SeqS P qs' h' sv n xs := fun ρ w X hk hH => by
  obtain ⟨f, lb, B, h1, h2, h3⟩ := hs ρ w X hk fun k hkq => by
    obtain ⟨q1, q2, q3⟩ := hq k hkq
    have h4 := hH k q1
    exact ⟨q2 _ _ h4.1, fun hR => h4.2 ⟨by rw [q3]; exact hR.1, hR.2⟩⟩
  refine ⟨f, lb, B, h1, h2, fun b hb => (h3 b hb).imp id fun ⟨k, hkq, hR, he⟩ => ?_⟩
  obtain ⟨q1, q2, q3⟩ := hq k hkq
  exact ⟨k, q1, ⟨by rw [q3]; exact hR.1, hR.2⟩, he⟩
theorem SeqS.cong {P : Pr} {qs : List Nat} {h : List Chunk} {sv : SV} {n n' : Nat} {xs xs' : Nat → Value} (hs : SeqS P qs h sv n xs) (hn : n = n') (hx : ∀ i, i < n → xs i = xs' i) : SeqS P qs h sv n' xs' := fun ρ w X hk hH => by
  obtain ⟨f, lb, B, h1, h2, h3⟩ := hs ρ w X hk hH
  exact ⟨f, lb, B, h1, h2.cong hn hx, h3⟩
theorem hold_cell {ρ ρ' : Env} {w : World} {k k' : Nat} {wr : Bool} {sv sv' : SV} (h : Holds ρ w k (.cells wr [sv])) (he : ρ' k' = ρ k) (hv : den ρ' sv' = den ρ sv) : Holds ρ' w k' (.cells false [sv']) := by
  simp only [Holds, denC, he, hv] at h ⊢
  exact ⟨h.1, h.2.1, fun hx => by cases hx⟩
/-- A sequence that is known. -/
theorem seqS_known {p : Program} {f : FuncId} {lb : List Value} {n : Nat} {xs : Nat → Value} (qs : List Nat) (h : List Chunk) : SeqS (seqPr p f lb n xs) qs h (.v (.func (.func f) #[] ⟨lb⟩)) n xs := fun ρ w X hk _ =>
  let ⟨B, h1, h2⟩ := hk
  ⟨f, lb, B, rfl, h2, fun b hb => .inl (h1 b hb)⟩
/-- A nil slice may have a name; the other names are dropped. -/
theorem intoR_nilT {nf : Nat} {h : List Chunk} {K : Tok → SV → List Chunk → Prop} {s : Nat} {f : Nat → SV} (H : List Chunk) (hH : H ++ h.drop nf = h) (hl : H.length = nf) (hg : goodH nf H) (hk : K .mk (.osl nf 0 0 s 0) (H ++ [.row true 0 s f])) : IntoR nf (.v (.slice none 0 0)) h K := fun C ρ w hC hM hok => by
  obtain ⟨ρ1, v1, H1, ⟨e1, e2⟩, hM1, ho1, hd1, hl1⟩ := intoR_take (K := fun _ v' h' => v' = .v (.slice none 0 0) ∧ h' = H) H hH hl hg (v := .v (.slice none 0 0)) trivial ⟨rfl, rfl⟩ C ρ w hC hM hok
  subst e1 e2
  obtain ⟨ρ2, v2, H2, hk2, hM2, ho2, hd2, hl2⟩ := intoR_nil (K := K) (s := s) (f := f) (nf := H1.length) (Nat.le_refl _) (by rw [hl]; exact hk) C ρ1 w (by omega) hM1 ho1
  exact ⟨ρ2, v2, H2, hk2, hM2, ho2, hd1.trans hd2, by omega⟩
theorem intoY_refl {nf : Nat} {t : Slots} {h : List Chunk} {J : Slots → List Chunk → Prop} (hJ : J t h) : IntoY nf t h J := fun d => into_refl ⟨rfl, hJ⟩
/-- A slice that came in: nil, or not. -/
theorem callP_osl1 {P : Pr} {f : FuncId} {n q s : Nat} {A : Nat → SV} {K : Tok → SV → List Chunk → Prop} (hnq : n ≤ q) (hnil : n = 0 → callP P f [.v (.slice none 0 0)] [.row false q s A] K)
    (hsl : ∀ cap, callP P f [.sl 0 0 0 s n cap] [.cells false [.fam q s A]] fun _ v h' => ∃ rest, h' = .cells false [.fam q s A] :: rest ∧ K .mk v (.row false q s A :: rest)) : callP P f [.osl 0 0 0 s n] [.row false q s A] K := by
  intro C ρ w hk hM hok
  have hh := hM.holds 0 _ rfl
  have hg := hM.okc 0 _ rfl
  by_cases hn : (ρ 0).nil = true
  · simp only [Holds, hn, if_true] at hh
    have hn0 : n = 0 := by omega
    have hd : denL ρ [.osl 0 0 0 s n] = denL ρ [.v (.slice none 0 0)] := by simp [denL, den, hn, hn0, hh.2]
    rw [hd]
    exact hnil hn0 C ρ w hk hM ⟨trivial, trivial⟩
  · have hn' : (ρ 0).nil = false := by simpa using hn
    simp only [Holds, hn', Bool.false_eq_true, if_false] at hh
    have hd : denL ρ [.osl 0 0 0 s n] = denL ρ [.sl 0 0 0 s n (ρ 0).c] := by simp [denL, den, hn']
    rw [hd]
    have hcell : ∀ (ρ' : Env) (w' : World), denC ρ' [.fam q s A] = (den ρ' (.fam q s A)).cells.toList := fun ρ' w' => by simp [denC]
    have hM2 : Models C ρ [.cells false [.fam q s A]] w := by
      refine ⟨hM.keep, hM.agree, hM.len, fun k c hc => ?_, fun k c hc => ?_, fun k c hc hR => ?_, fun k c hc hR => ?_, fun k k' c c' hc hc' hne hR hR' => ?_⟩
      · rcases k with _ | k
        · cases hc
          exact ⟨hn', by rw [hcell ρ w]; exact hh.1, fun h => by cases h⟩
        · simp at hc
      · rcases k with _ | k
        · cases hc
          exact ⟨⟨hg.1, trivial⟩, hg.2, trivial⟩
        · simp at hc
      · rcases k with _ | k
        · cases hc
          exact hM.size 0 _ rfl ⟨rfl, hn'⟩
        · simp at hc
      · rcases k with _ | k
        · cases hc
          cases hR.1
        · simp at hc
      · rcases k with _ | k
        · cases hc
          cases hR.1
        · simp at hc
    have back : ∀ ρ' w' rest, Models C ρ' (.cells false [.fam q s A] :: rest) w' → Agree 1 ρ ρ' → Models C ρ' (.row false q s A :: rest) w' := by
      intro ρ' w' rest hm ha
      have h0 : ρ' 0 = ρ 0 := ha 0 (by omega)
      have hn2 : (ρ' 0).nil = false := by rw [h0]; exact hn'
      refine ⟨hm.keep, hm.agree, hm.len, fun k c hc => ?_, fun k c hc => ?_, fun k c hc hR => ?_, fun k c hc hR => ?_, fun k k' c c' hc hc' hne hR hR' => ?_⟩
      · rcases k with _ | k
        · cases hc
          have h1 := (hm.holds 0 _ rfl).2.1
          rw [hcell ρ' w'] at h1
          simp only [Holds, hn2, Bool.false_eq_true, if_false]
          exact ⟨h1, by rw [h0]; exact hh.2.1, fun h => by cases h⟩
        · exact hm.holds (k + 1) c hc
      · rcases k with _ | k
        · cases hc
          have := hm.okc 0 _ rfl
          exact ⟨this.1.1, this.2.1⟩
        · exact hm.okc (k + 1) c hc
      · rcases k with _ | k
        · cases hc
          exact hm.size 0 _ rfl ⟨rfl, hR.2⟩
        · exact hm.size (k + 1) c hc hR
      · rcases k with _ | k
        · cases hc
          cases hR.1
        · exact hm.wr (k + 1) c hc hR
      · rcases k with _ | k
        · cases hc
          cases hR.1
        · rcases k' with _ | k'
          · cases hc'
            exact hm.sep (k + 1) 0 c _ hc rfl hne hR ⟨rfl, hR'.2⟩
          · exact hm.sep (k + 1) (k' + 1) c c' hc hc' hne hR hR'
    rcases hsl (ρ 0).c C ρ w hk hM2 ⟨by simp [ok], trivial⟩ with ⟨w', ρ', sv, h', h1, ⟨rest, rfl, h2⟩, h3, h4, h5, h6⟩ | ⟨h1, h2⟩
    · exact .inl ⟨w', ρ', sv, _, h1, h2, back _ _ _ h3 h4, h4, h5, h6⟩
    · refine .inr ⟨h1, fun F n hF hro => (h2 F n hF hro).mono ?_⟩
      rintro e w' ⟨ρ', sv, h', rfl, ⟨rest, rfl, q2⟩, q3, q4, q5, q6⟩
      exact ⟨ρ', sv, _, rfl, q2, back _ _ _ q3 q4, q4, q5, q6⟩
end Go.Sx

set_option linter.all false
namespace Go.Sx
open Go.RowKit

theorem callsIn_of_depths {L : List FuncId} {m : Nat} {P : Program} {f : FuncId} {args : Array Value} {w : World} {R : Ending → World → Prop}
    (h : ∀ D : Nat, CallsIn (Fence.list L (some D)) m P f args w R) {F : Fence} {n : Nat} (hF : WideF F) : CallsIn F n P f args w R :=
  ⟨hF.fn f, fun cs _ =>
    let ⟨e, w', fr, r, s, x⟩ := (h (cs.length + 1 + m)).2 cs (fun _ hd => by cases hd; exact Nat.le_refl _)
    ⟨e, w', fr, r, ComesIn.mono (fun _ hm g hg => let ⟨a, b, c, d⟩ := hm g hg; ⟨fun _ => a rfl, .inl (hF.fn _), fun k _ => hF.fn k, fun d hd => by rw [hF.depth] at hd; cases hd⟩) s, x⟩⟩

section
variable {α : Type} [Inhabited α] {enc : α → Value} {sv : α → SV}
theorem cells_enc (hsv : ∀ ρ x, den ρ (sv x) = enc x) (hone : ∀ x, (enc x).cells = #[enc x]) (ρ : Env) (zs : List α) : (den ρ (.fam zs.length 1 fun i => sv (zs.getD i default))).cells.toList = zs.map enc := by
  have e : (fun i => (den ρ (sv (zs.getD i default))).cells.toList) = fun i => [enc (zs.getD i default)] := by funext i; rw [hsv, hone]
  have hd : den ρ (.fam zs.length 1 fun i => sv (zs.getD i default)) = .agg ((List.range zs.length).flatMap fun i => (den ρ (sv (zs.getD i default))).cells.toList).toArray := by simp only [den]
  rw [hd, e]
  show (List.range zs.length).flatMap (fun i => [enc (zs.getD i default)]) = zs.map enc
  apply List.ext_getElem?
  intro i
  have e2 : ∀ l : List Nat, (l.flatMap fun i => [enc (zs.getD i default)]) = l.map fun i => enc (zs.getD i default) := by
    intro l
    induction l with
    | nil => rfl
    | cons a l ih => rw [List.flatMap_cons, ih]; rfl
  rw [e2, List.getElem?_map, List.getElem?_map]
  rcases Nat.lt_or_ge i zs.length with hi | hi
  · rw [List.getElem?_range hi, List.getElem?_eq_getElem hi]
    simp [List.getD_eq_getElem?_getD, List.getElem?_eq_getElem hi]
  · rw [List.getElem?_eq_none (by simpa using hi), List.getElem?_eq_none hi]
    rfl

theorem keep_sorted (w : World) (n blk off : Nat) (d : Array α) (os : Array Obj) : Keep (fun b => b = blk) w (Go.Sort.grow (Go.Sort.putRow enc (Go.Sort.ahead w n) blk off d) os) := by
  refine ⟨rfl, rfl, rfl, by simp, fun b hb hne => ?_⟩
  rw [Go.Sort.heap_grow_old _ _ (by simpa using hb)]
  unfold Go.Sort.putRow Go.Sort.mapBlock
  simp only [Go.Sort.ahead]
  rw [Array.getElem?_modify, if_neg (Ne.symm hne)]

theorem callP_sort {P : Pr} {f : FuncId} (hsv : ∀ ρ x, den ρ (sv x) = enc x) (hone : ∀ x, (enc x).cells = #[enc x]) (hok1 : ∀ x, sz (sv x) = 1 ∧ ok 0 (sv x) ∧ stor (sv x)) {srt : List α → List α} (hlen : ∀ zs, (srt zs).length = zs.length)
    (hent : ∀ args w, (callFunc f args).run P.p w = .ok (.enter f args) w)
    (hsort : ∀ (blk off cap : Nat) (zs : List α) (w : World), Go.Sort.Holds enc w blk off zs.toArray → blk < w.heap.size → zs.length < 4611686018427387904 → ∃ L m, ∀ D, CallsIn (Fence.list L (some D)) m P.p f #[.slice (some ⟨blk, off, none⟩) zs.length cap] w fun e w' =>
      e = .returned (.tuple #[]) ∧ ∃ n os, w' = Go.Sort.grow (Go.Sort.putRow enc (Go.Sort.ahead w n) blk off (srt zs).toArray) os)
    (hnone : ∀ (p : Option Addr) (cap : Nat) (w : World), ∃ L m, ∀ D, CallsIn (Fence.list L (some D)) m P.p f #[.slice p 0 cap] w fun e w' => e = .returned (.tuple #[]) ∧ w' = w)
    {h : List Chunk} {k : Nat} (zs : List α) (hk : lookH h k = .row true zs.length 1 fun i => sv (zs.getD i default)) (hz : zs.length < 4611686018427387904) {K : Tok → SV → List Chunk → Prop}
    (hK0 : zs = [] → K .mk (.tup []) h) (hK : zs ≠ [] → K .mk (.tup []) (putH h k (.row true zs.length 1 fun i => sv ((srt zs).getD i default)))) : callP P f [.osl k 0 0 1 zs.length] h K := by
  intro C ρ w hkn hM hok
  refine .inr ⟨hent _ _, fun F n hF hr => ?_⟩
  have hH := look_holds hM k
  rw [hk] at hH
  by_cases h0 : zs = []
  · subst h0
    obtain ⟨L, m, hc⟩ := hnone (bif (ρ k).nil then none else some ⟨(ρ k).b, (ρ k).o + (if (ρ k).c = 0 then 0 * 1 else 0 * 1), none⟩) ((ρ k).c - 0) w
    refine (callsIn_of_depths hc hF).mono ?_
    rintro e w' ⟨rfl, rfl⟩
    exact ⟨ρ, .tup [], h, rfl, hK0 rfl, hM, fun _ _ => rfl, trivial, Nat.le_refl _⟩
  · have hpos : 0 < zs.length := List.length_pos_iff.2 h0
    obtain ⟨hn, hrange⟩ := Holds.some hH hpos
    simp only [Holds, hn, Bool.false_eq_true, if_false] at hH
    obtain ⟨_, hcap, hthere⟩ := hH
    have hth := hthere trivial
    rw [cells_enc hsv hone] at hrange
    have hreal : RealW ρ k (lookH h k) := by rw [hk]; exact ⟨rfl, hn⟩
    have hkget : h[k]? = some (lookH h k) := lookH_some rfl (by rw [hk]; simp)
    have hblk := hM.size k _ hkget hreal.real
    have hden : denL ρ [.osl k 0 0 1 zs.length] = [.slice (some ⟨(ρ k).b, (ρ k).o, none⟩) zs.length (ρ k).c] := by simp [denL, den, hn]
    rw [hden]
    have hHd : Go.Sort.Holds enc w (ρ k).b (ρ k).o zs.toArray := fun j hj => by
      simp only [List.size_toArray] at hj
      refine ⟨?_, (hth j (by omega)).2⟩
      refine hrange j _ ?_
      rw [List.getElem?_map, List.getElem?_eq_getElem hj]
      simp [hj]
    obtain ⟨L, m, hc⟩ := hsort (ρ k).b (ρ k).o (ρ k).c zs w hHd hblk hz
    refine (callsIn_of_depths hc hF).mono ?_
    rintro e w' ⟨rfl, n', os, rfl⟩
    have hsz : (srt zs).toArray.size = zs.toArray.size := by simp [hlen]
    have hHa : Go.Sort.Holds enc (Go.Sort.ahead w n') (ρ k).b (ρ k).o zs.toArray := Go.Sort.holds_ahead _ _ _ _ _ _ hHd
    have hblk' : (ρ k).b < (Go.Sort.putRow enc (Go.Sort.ahead w n') (ρ k).b (ρ k).o (srt zs).toArray).heap.size := by simpa using hblk
    have hfz : ∀ a : Addr, a.block < w.heap.size → (Go.Sort.grow (Go.Sort.putRow enc (Go.Sort.ahead w n') (ρ k).b (ρ k).o (srt zs).toArray) os).frozen? a = w.frozen? a := fun a ha => by
      have h1 : (Go.Sort.grow (Go.Sort.putRow enc (Go.Sort.ahead w n') (ρ k).b (ρ k).o (srt zs).toArray) os).frozen? a = (Go.Sort.putRow enc (Go.Sort.ahead w n') (ρ k).b (ρ k).o (srt zs).toArray).frozen? a := by
        simp only [World.frozen?, Go.Sort.heap_grow_old _ _ (show a.block < (Go.Sort.putRow enc (Go.Sort.ahead w n') (ρ k).b (ρ k).o (srt zs).toArray).heap.size by simpa using ha)]
      rw [h1]
      simp
    refine ⟨ρ, .tup [], _, rfl, hK h0, hM.write hkget hreal (keep_sorted w n' _ _ _ os) ?_ ?_, fun _ _ => rfl, trivial, by rw [putH_length]; exact Nat.le_refl _⟩
    · exact ⟨fun i hi => ⟨(hok1 _).1, ok_mono (Nat.zero_le _) _ (hok1 _).2.1⟩, fun i hi => (hok1 _).2.2⟩
    · simp only [Holds, hn, Bool.false_eq_true, if_false]
      refine ⟨?_, hcap, fun _ j hj => ?_⟩
      · have hfam : (den ρ (.fam zs.length 1 fun i => sv ((srt zs).getD i default))).cells.toList = (srt zs).map enc := by
          rw [← hlen zs]
          exact cells_enc hsv hone ρ (srt zs)
        rw [hfam]
        intro j v hj
        have hjl : j < (srt zs).length := by
          have := (List.getElem?_eq_some_iff.1 hj).1
          simpa using this
        rw [List.getElem?_map, List.getElem?_eq_getElem hjl, Option.map_some, Option.some.injEq] at hj
        rw [Go.Sort.cell?_grow _ _ _ hblk', Go.Sort.cell?_putRow enc _ _ _ zs.toArray _ hHa hsz j (by simpa using hjl), ← hj]
        simp [hjl]
      · refine ⟨?_, by rw [hfz _ hblk]; exact (hth j hj).2⟩
        rw [Go.Sort.cell?_grow _ _ _ hblk']
        by_cases hjl : j < zs.length
        · rw [Go.Sort.cell?_putRow enc _ _ _ zs.toArray _ hHa hsz j (by simp [hlen]; exact hjl)]
          rfl
        · rw [Go.Sort.cell?_putRow_other enc _ _ _ _ _ (.inr (.inr (by simp [hlen]; omega)))]
          exact (hth j hj).1
end
end Go.Sx

set_option linter.all false
namespace Go.Sx
open Go.RowKit
theorem lookH_app (l : List Chunk) (j : Nat) : ∀ h : List Chunk, lookH (h ++ l) (h.length + j) = lookH l j
  | [] => by simp
  | c :: h => by
    have := lookH_app l j h
    rw [List.length_cons, show h.length + 1 + j = (h.length + j) + 1 by omega]
    exact this
theorem lookH_app0 (l : List Chunk) (h : List Chunk) : lookH (h ++ l) h.length = lookH l 0 := lookH_app l 0 h
theorem putH_app (l : List Chunk) (c : Chunk) (j : Nat) : ∀ h : List Chunk, putH (h ++ l) (h.length + j) c = h ++ putH l j c
  | [] => by simp
  | c0 :: h => by
    have := putH_app l c j h
    rw [List.length_cons, show h.length + 1 + j = (h.length + j) + 1 by omega]
    show c0 :: putH (h ++ l) (h.length + j) c = _
    rw [this]
    rfl
theorem putH_app0 (l : List Chunk) (c : Chunk) (h : List Chunk) : putH (h ++ l) h.length c = h ++ putH l 0 c := putH_app l c 0 h
theorem lookH_old (l : List Chunk) (k : Nat) (c : Chunk) : ∀ {h : List Chunk}, lookH h k = c → c ≠ .none → lookH (h ++ l) k = c
  | [], e, hc => absurd e.symm hc
  | x :: h, e, hc => by
    cases k with
    | zero => exact e
    | succ k => exact lookH_old l k c (h := h) e hc
theorem lookH_put_same (c : Chunk) : ∀ {h : List Chunk} {p : Nat}, p < h.length → lookH (putH h p c) p = c
  | [], p, hp => by simp at hp
  | x :: h, 0, _ => rfl
  | x :: h, p + 1, hp => lookH_put_same c (h := h) (p := p) (by simpa using hp)
theorem lookH_lt {c : Chunk} : ∀ {h : List Chunk} {p : Nat}, lookH h p = c → c ≠ .none → p < h.length
  | [], p, e, hc => absurd e.symm hc
  | x :: h, 0, _, _ => by simp
  | x :: h, p + 1, e, hc => by
    have := lookH_lt (h := h) (p := p) e hc
    simp; omega
theorem putH_old (l : List Chunk) (c : Chunk) : ∀ {h : List Chunk} {p : Nat}, p < h.length → putH (h ++ l) p c = putH h p c ++ l
  | [], p, hp => by simp at hp
  | x :: h, 0, _ => rfl
  | x :: h, p + 1, hp => by
    have := putH_old l c (h := h) (p := p) (by simpa using hp)
    show x :: putH (h ++ l) p c = x :: (putH h p c ++ l)
    rw [this]
theorem putH_len (h : List Chunk) (p : Nat) (c : Chunk) : (putH h p c).length = h.length := putH_length h p c
/-- A row of places, as a number. -/
def cd (n : Nat) : List Nat → Nat
  | [] => 0
  | j :: p => cd n p * (n + 1) + j + 1
theorem cd_inj (n : Nat) : ∀ (p q : List Nat), (∀ a ∈ p, a < n) → (∀ a ∈ q, a < n) → cd n p = cd n q → p = q
  | [], [], _, _, _ => rfl
  | [], j :: q, _, _, h => by simp only [cd] at h; omega
  | j :: p, [], _, _, h => by simp only [cd] at h; omega
  | i :: p, j :: q, hp, hq, h => by
    have hi := hp i (List.mem_cons_self ..)
    have hj := hq j (List.mem_cons_self ..)
    simp only [cd] at h
    have h0 : cd n p * (n + 1) + i = cd n q * (n + 1) + j := by omega
    have h1 : i = j := by
      have := congrArg (· % (n + 1)) h0
      simp only [Nat.mul_comm _ (n + 1), Nat.mul_add_mod] at this
      rwa [Nat.mod_eq_of_lt (by omega), Nat.mod_eq_of_lt (by omega)] at this
    subst h1
    have h2 : cd n p = cd n q := Nat.eq_of_mul_eq_mul_right (Nat.succ_pos n) (by rw [Nat.succ_eq_add_one]; omega)
    rw [cd_inj n p q (fun a ha => hp a (List.mem_cons_of_mem _ ha)) (fun a ha => hq a (List.mem_cons_of_mem _ ha)) h2]
theorem nodup_le : ∀ (n : Nat) (p : List Nat), p.Nodup → (∀ a ∈ p, a < n) → p.length ≤ n
  | 0, [], _, _ => Nat.le_refl _
  | 0, a :: p, _, h => absurd (h a (List.mem_cons_self ..)) (Nat.not_lt_zero _)
  | n + 1, p, hn, h => by
    have h1 := nodup_le n (p.filter (· != n)) (hn.filter _) fun a ha => by
      rw [List.mem_filter] at ha
      have h2 := h a ha.1
      have h3 : a ≠ n := by simpa using ha.2
      omega
    have h2 : p.length ≤ (p.filter (· != n)).length + 1 := by
      have h4 : p.length = (p.filter (· != n)).length + (p.filter (· == n)).length := by
        clear h1 h hn
        induction p with
        | nil => rfl
        | cons a p ih => by_cases ha : a = n <;> simp [ha, ih] <;> omega
      have h3 : (p.filter (· == n)).length ≤ 1 := by
        have h5 := hn.filter (· == n)
        have h6 : ∀ a ∈ p.filter (· == n), a = n := fun a ha => by rw [List.mem_filter] at ha; simpa using ha.2
        generalize p.filter (· == n) = l at h5 h6
        match l, h5, h6 with
        | [], _, _ => exact Nat.zero_le _
        | [a], _, _ => exact Nat.le_refl _
        | a :: b :: l, h5, h6 =>
          exfalso
          have e1 := h6 a (by simp)
          have e2 := h6 b (by simp)
          have h7 := List.nodup_cons.1 h5
          exact h7.1 (by rw [e1, ← e2]; simp)
      omega
    omega
/-- Places of a map with n entries, each once. -/
def Pl (n : Nat) (p : List Nat) : Prop := p.Nodup ∧ ∀ a ∈ p, a < n
theorem Pl.nil (n : Nat) : Pl n [] := ⟨List.nodup_nil, fun a h => by cases h⟩
theorem Pl.cons {n : Nat} {p : List Nat} {j : Nat} (h : Pl n p) (hj : j < n) (hn : j ∉ p) : Pl n (j :: p) := ⟨List.nodup_cons.2 ⟨hn, h.1⟩, fun a ha => by
  rcases List.mem_cons.1 ha with rfl | ha
  · exact hj
  · exact h.2 a ha⟩
theorem Pl.le {n : Nat} {p : List Nat} (h : Pl n p) : p.length ≤ n := nodup_le n p h.1 h.2
theorem Pl.full {n : Nat} {p : List Nat} (h : Pl n p) (hf : ∀ j, j < n → j ∈ p) : p.length = n := by
  have h1 := h.le
  rcases Nat.lt_or_ge p.length n with h2 | h2
  · exfalso
    have h3 := nodup_le p.length (List.range n) List.nodup_range
    have : ∀ m (q : List Nat), (∀ j, j < m → j ∈ q) → m ≤ q.length := by
      intro m
      induction m with
      | zero => intro q _; exact Nat.zero_le _
      | succ m ih =>
        intro q hq
        have := ih (q.filter (· != m)) fun j hj => List.mem_filter.2 ⟨hq j (by omega), by simp; omega⟩
        have h4 : (q.filter (· != m)).length < q.length := List.length_filter_lt_length_iff_exists.2 ⟨m, hq m (by omega), by simp⟩
        omega
    have := this n p hf
    omega
  · omega
def keyR (n : Nat) (κ : Nat → Value) (i : Nat) (v : Value) (i' : Nat) : Prop := ∃ p j, Pl n p ∧ j < n ∧ j ∉ p ∧ i = cd n p ∧ v = κ j ∧ i' = cd n (j :: p)
def keyF (n : Nat) (g : Gh) : Prop := (∃ i, (∃ p, Pl n p ∧ p.length = n ∧ i = cd n p) ∧ g = .run i) ∨ ∃ i, True ∧ g = .stop i
/-- Births of a map's entries. -/
def Bn (n : Nat) (born : Nat → Nat) (clock : Nat) : Prop := (∀ j, j < n → born j < clock) ∧ ∀ i j, i < n → j < n → born i = born j → i = j
theorem GivesR.mono {P : Program} {f : FuncId} {lb : List Value} {B : Nat → Prop} {R R1 : Nat → Value → Nat → Prop} {fin : Gh → Prop} {w0 : World} (h : GivesR P f lb B R fin w0) (hR : ∀ i v i', R i v i' → R1 i v i') : GivesR P f lb B R1 fin w0 :=
  ⟨h.1, h.2.1, fun F m l J w hF hr hs hb hcl hyl hj => h.2.2 F m l J w hF hr hs hb hcl (fun i v i' w Y F k hF hi hsz hY hJ => hyl i v i' w Y F k hF (hR i v i' hi) hsz hY hJ) hj⟩
theorem GivesR.later {p : Program} {f : FuncId} {lb : List Value} {B : Nat → Prop} {R : Nat → Value → Nat → Prop} {fin : Gh → Prop} {w0 w : World} (h : GivesR p f lb B R fin w0) (hs : w0.heap.size ≤ w.heap.size) (hb : ∀ b, B b → w.heap[b]? = w0.heap[b]?) : GivesR p f lb B R fin w :=
  ⟨fun b hB => Nat.lt_of_lt_of_le (h.1 b hB) hs, h.2.1, fun F m l J W hF hr hs' hb' hcl hyl hj => by
    refine h.2.2 F m l J W hF hr (Nat.le_trans hs hs') (fun b hB => (hb' b hB).trans (hb b hB)) hcl hyl hj⟩
theorem GivesR.wider {p : Program} {f : FuncId} {lb : List Value} {B B' : Nat → Prop} {R : Nat → Value → Nat → Prop} {fin : Gh → Prop} {w : World} (h : GivesR p f lb B R fin w) (hB : ∀ b, B b → B' b) (hs : ∀ b, B' b → b < w.heap.size) : GivesR p f lb B' R fin w :=
  ⟨hs, h.2.1, fun F m l J W hF hr hs' hb' hcl hyl hj => h.2.2 F m l J W hF hr hs' (fun b hb => hb' b (hB b hb)) hcl (fun i v i' w Y F k hF hi hsz hY hJ => YieldAt.mono (hyl i v i' w Y F k hF hi hsz hY hJ) fun e w' he => ⟨he.1.mono fun b hb => hb.imp id fun hv => ⟨hv.1, fun hx => hv.2 (hB b hx)⟩, he.2⟩) hj⟩
/-- Known: a sequence in some order. -/
def seqRK (p : Program) (f : FuncId) (lb : List Value) (R : Nat → Value → Nat → Prop) (fin : Gh → Prop) (w : World) (X : Nat → Prop) : Prop := ∃ B, (∀ b, B b → ¬ X b) ∧ GivesR p f lb B R fin w
@[reducible] def seqRPr (p : Program) (f : FuncId) (lb : List Value) (R : Nat → Value → Nat → Prop) (fin : Gh → Prop) : Pr := ⟨p, seqRK p f lb R fin, fun h hk hY => by
  obtain ⟨B, h1, h2⟩ := h
  obtain ⟨q1, q2⟩ := keep_away h1 h2.1 hk hY
  exact ⟨B, q1, h2.later hk.size q2⟩⟩
/-- A sequence in some order, said in a symbolic heap. -/
def SeqR (P : Pr) (qs : List Nat) (h : List Chunk) (sv : SV) (R : Nat → Value → Nat → Prop) (fin : Gh → Prop) : Prop :=
  ∀ ρ w X, P.know w X → (∀ k ∈ qs, Holds ρ w k (lookH h k) ∧ (Real ρ k (lookH h k) → (ρ k).b < w.heap.size)) →
    ∃ f lb B, den ρ sv = .func (.func f) #[] ⟨lb⟩ ∧ GivesR P.p f lb B R fin w ∧ ∀ b, B b → ¬ X b ∨ ∃ k ∈ qs, Real ρ k (lookH h k) ∧ (ρ k).b = b
theorem Pl.perm {n : Nat} {p : List Nat} (h : Pl n p) (hl : p.length = n) : p.Perm (List.range n) := by
  rw [List.perm_ext_iff_of_nodup h.1 List.nodup_range]
  intro a
  rw [List.mem_range]
  refine ⟨h.2 a, fun ha => ?_⟩
  rcases Classical.em (a ∈ p) with h1 | h1
  · exact h1
  · have := (h.cons ha h1).le
    simp only [List.length_cons] at this
    omega
theorem sort_perm {α : Type} [LE α] [DecidableLE α] (htr : ∀ a b c : α, a ≤ b → b ≤ c → a ≤ c) (htot : ∀ a b : α, a ≤ b ∨ b ≤ a) (hanti : ∀ a b : α, a ≤ b → b ≤ a → a = b) {l l' : List α} (h : l.Perm l') : (l.mergeSort fun x y => decide (x ≤ y)) = l'.mergeSort fun x y => decide (x ≤ y) := by
  have hp : ∀ l : List α, List.Pairwise (fun a b => decide (a ≤ b) = true) (l.mergeSort fun x y => decide (x ≤ y)) := fun l =>
    List.pairwise_mergeSort (fun a b c h1 h2 => by simp at h1 h2 ⊢; exact htr a b c h1 h2) (fun a b => by simp; exact htot a b) l
  refine List.Perm.eq_of_pairwise (fun a b _ _ h1 h2 => ?_) (hp l) (hp l') ((List.mergeSort_perm l _).trans (h.trans (List.mergeSort_perm l' _).symm))
  simp at h1 h2
  exact hanti a b h1 h2
theorem sortI_perm {l l' : List Int} (h : l.Perm l') : (l.mergeSort fun x y => decide (x ≤ y)) = l'.mergeSort fun x y => decide (x ≤ y) :=
  sort_perm (fun _ _ _ => Int.le_trans) Int.le_total (fun _ _ => Int.le_antisymm) h
theorem csz_slice' (a : Option Addr) (b c : Nat) : (Value.slice a b c).cells.size = 1 := rfl
end Go.Sx

set_option linter.all false
namespace Go.Sx
open Go.RowKit
variable {P : Pr}
/-- The cell holds a number. -/
def CellAt (w : World) (pl : Place) (c : Int) : Prop := ∀ (ρ : Env) (k : Nat), ρ k = pl → Holds ρ w k (.cells true [.int .i64 c])
theorem CellAt.block {w w' : World} {pl : Place} {c : Int} (h : CellAt w pl c) (hb : w'.heap[pl.b]? = w.heap[pl.b]?) : CellAt w' pl c := fun ρ k he => holds_block (fun _ => by rw [he]; exact hb) (h ρ k he)
theorem CellAt.lt {w : World} {pl : Place} {c : Int} (h : CellAt w pl c) : pl.nil = false := (h (fun _ => pl) 0 rfl).1
def GivesRC (P : Program) (f : FuncId) (lb : List Value) (B : Nat → Prop) (pl : Place) (R : Nat → Value → Nat → Prop) (fin : Gh → Nat → Prop) (w0 : World) : Prop :=
  (∀ b, B b → b < w0.heap.size) ∧ (∀ args w, (callFunc f args).run P w = .ok (.enter f args) w) ∧ ¬ B pl.b ∧
    ∀ (F : Fence) (m l : Nat) (J : Inv) (w : World) (c0 : Int), WideF F → F.round = none → w0.heap.size ≤ w.heap.size → (∀ b, B b → w.heap[b]? = w0.heap[b]?) → CellAt w pl c0 → 0 ≤ c0 ∧ c0 ≤ 1000 → pl.b < w.heap.size → Client (fun b => b = pl.b) w.heap.size J →
      YieldsR P l J (fun b => b < w.heap.size ∧ ¬ (B b ∨ b = pl.b)) w.heap.size R → J (.run 0) w (fun _ => False) →
      CallsIn F m P f (Value.func (.yield l) #[] #[] :: lb).toArray w fun e w' => ∃ v g Y i, e = .returned v ∧ fin g i ∧ J g w' Y ∧ CellAt w' pl (c0 + (i : Nat))
theorem MG.besideX {G : Ghost} {Ob : List (Nat × Obj)} {Y Z : Nat → Prop} {g : Gh} {ρ : Env} {H : List Chunk} {w w' : World} (hG : G.Ok P) (h : MG G Ob Y g ρ H w) (hk : Keep Z w w')
    (hZ : ∀ b, Z b → (G.C.X b ∨ G.C.w0.heap.size ≤ b) ∧ ¬ Y b ∧ (∀ p ∈ Ob, b ≠ p.1) ∧ ∀ k c, H[k]? = some c → Real ρ k c → (ρ k).b ≠ b) : MG G Ob Y g ρ H w' := by
  refine ⟨⟨?_, h.m.agree, h.m.len, ?_, h.m.okc, ?_, h.m.wr, h.m.sep⟩, h.own, h.ny, h.no, ?_, ?_, ?_⟩
  · exact h.m.keep.step hk fun b hb => (hZ b hb).1.elim (fun h => .inl (.inl h)) .inr
  · intro k c hc
    by_cases hl : c.live = true
    · exact holds_block (fun hn => hk.block _ (h.m.size k c hc ⟨hl, hn⟩) fun hz => (hZ _ hz).2.2.2 k c hc ⟨hl, hn⟩ rfl) (h.m.holds k c hc)
    · cases c <;> simp [Chunk.live] at hl
      trivial
  · exact fun k c hc hR => Nat.lt_of_lt_of_le (h.m.size k c hc hR) hk.size
  · intro p hp
    obtain ⟨h1, h2, h3⟩ := h.ob p hp
    exact ⟨(hk.block p.1 (heap_lt h1) fun hz => (hZ _ hz).2.2.1 p hp rfl).trans h1, h2, h3⟩
  · exact fun b hb => ⟨(h.yb b hb).1, Nat.lt_of_lt_of_le (h.yb b hb).2 hk.size⟩
  · exact hG.cl.stable h.j hk fun b hb => ⟨(hZ b hb).1, (hZ b hb).2.1⟩
/-- The cell comes back. -/
theorem MG.lend {G : Ghost} {Ob : List (Nat × Obj)} {Y : Nat → Prop} {g : Gh} {ρ : Env} {H : List Chunk} {w : World} (h : MG G Ob Y g ρ H w) {kc : Nat} {pl : Place} {c : Int} (hk : kc < H.length) (hρ : ρ kc = pl) (hnil : pl.nil = false) (hc : CellAt w pl c) (hsz : pl.b < w.heap.size)
    (hown : G.C.X pl.b ∨ G.C.w0.heap.size ≤ pl.b) (hny : ¬ Y pl.b) (hno : ∀ p ∈ Ob, pl.b ≠ p.1) (hsep : ∀ k c, H[k]? = some c → k ≠ kc → Real ρ k c → (ρ k).b ≠ pl.b) : MG G Ob Y g ρ (putH H kc (.cells true [.int .i64 c])) w := by
  have hget : ∀ (k : Nat) (x : Chunk), (putH H kc (.cells true [.int .i64 c]))[k]? = some x → (k ≠ kc ∧ H[k]? = some x) ∨ (k = kc ∧ x = .cells true [.int .i64 c]) := fun k x hx => by
    rw [putH_get] at hx
    split at hx
    · rename_i e
      cases h2 : H[k]? with
      | none => rw [h2] at hx; cases hx
      | some y => rw [h2] at hx; simp at hx; exact .inr ⟨e, hx.symm⟩
    · rename_i e
      exact .inl ⟨e, hx⟩
  refine ⟨⟨h.m.keep, h.m.agree, by rw [putH_length]; exact h.m.len, ?_, ?_, ?_, ?_, ?_⟩, ?_, ?_, ?_, h.ob, h.yb, h.j⟩
  · intro k x hx
    rcases hget k x hx with ⟨_, h2⟩ | ⟨rfl, rfl⟩
    · exact h.m.holds k x h2
    · exact hc ρ k hρ
  · intro k x hx
    rw [putH_length]
    rcases hget k x hx with ⟨_, h2⟩ | ⟨rfl, rfl⟩
    · exact h.m.okc k x h2
    · simp [Chunk.good, okL, ok, storL, stor]
  · intro k x hx hR
    rcases hget k x hx with ⟨_, h2⟩ | ⟨rfl, rfl⟩
    · exact h.m.size k x h2 hR
    · rw [hρ]; exact hsz
  · intro k x hx hR
    rcases hget k x hx with ⟨_, h2⟩ | ⟨rfl, rfl⟩
    · exact h.m.wr k x h2 hR
    · rw [hρ]; exact hown.elim (fun h => .inl (.inl h)) .inr
  · intro k k' x x' hx hx' hne hR hR'
    rcases hget k x hx with ⟨e1, h2⟩ | ⟨rfl, rfl⟩
    · rcases hget k' x' hx' with ⟨e2, h3⟩ | ⟨rfl, rfl⟩
      · exact h.m.sep k k' x x' h2 h3 hne hR hR'
      · rw [hρ]; exact hsep k x h2 e1 hR.real
    · rcases hget k' x' hx' with ⟨e2, h3⟩ | ⟨rfl, rfl⟩
      · rw [hρ]; exact fun e => hsep k' x' h3 e2 hR' e.symm
      · exact absurd rfl hne
  · intro k x hx hR
    rcases hget k x hx with ⟨_, h2⟩ | ⟨rfl, rfl⟩
    · exact h.own k x h2 hR
    · rw [hρ]; exact hown
  · intro k x hx hR
    rcases hget k x hx with ⟨_, h2⟩ | ⟨rfl, rfl⟩
    · exact h.ny k x h2 hR
    · rw [hρ]; exact hny
  · intro k x hx hR
    rcases hget k x hx with ⟨_, h2⟩ | ⟨rfl, rfl⟩
    · exact h.no k x h2 hR
    · rw [hρ]; exact hno
section
variable {F : Fence} {tab : Tab} {nf : Nat}
theorem codeY_rangeC {S : Sq} {gop : Operand} {p : Nat} {assign body : Code} {g : Gh} {t : Slots} {h : List Chunk} {N : Gh → Slots → List Chunk → Prop} {E : Gh → Exit → Slots → List Chunk → Prop}
    (qs : List Nat) (R' : Nat → SV → Nat → Prop) (finR finS : Nat → Prop) (hflat : ∀ i sv i', R' i sv i' → ok 0 sv) (hra : roA S.A 0 h) (hnm : ∀ k ∈ qs, (frz1 (lookH h k)).wr = false) (kc : Nat) (pl : Place) (c0 : Int) (hpin : S.pin = some (kc, pl)) (hkc : lookH h kc = .cells true [.int .i64 c0]) (hkq : kc ∉ qs) (hc0 : 0 ≤ c0 ∧ c0 ≤ 1000) (hz : List Chunk) (hhz : hz = putH (frz qs 0 h) kc .none)
    (hgv : ∀ ρ w X, P.know w X → (∀ k ∈ qs, Holds ρ w k (lookH h k) ∧ (Real ρ k (lookH h k) → (ρ k).b < w.heap.size)) → ρ kc = pl → pl.b < w.heap.size → (∀ k ∈ qs, Real ρ k (lookH h k) → (ρ k).b ≠ pl.b) → X pl.b →
      ∃ f lb B, den ρ (ev t gop) = .func (.func f) #[] lb.toArray ∧ GivesRC P.p f lb B pl (fun i v i' => ∃ sv, R' i sv i' ∧ v = den ρ sv) (fun g i => (finR i ∧ g = .run i) ∨ (finS i ∧ g = .stop i)) w ∧ ∀ b, B b → ¬ X b ∨ ∃ k ∈ qs, Real ρ k (lookH h k) ∧ (ρ k).b = b)
    (I : Nat → Gh → List Chunk → Prop) (Ix : Nat → Gh → Exit → List Chunk → Prop) (h0 : I 0 g hz)
    (hround : ∀ i sv i' g h', R' i sv i' → I i g h' → codeY P h.length { S with A := liveA hz } assign g (putS t p sv) h'
      (fun g t1 h1 => codeY P h.length { S with A := liveA hz } body g t1 h1 (fun g t2 h2 => IntoY h.length t2 h2 fun _ h4 => I i' g h4 ∧ roA (liveA hz) 0 h4)
        (fun g e t2 h2 => (leaves e).isSome = true ∧ IntoY h.length t2 h2 fun _ h4 => Ix i' g e h4 ∧ roA (liveA hz) 0 h4)) (fun _ _ _ _ => False))
    (hdone : ∀ i g h', finR i → I i g h' → N g t (putH h' kc (.cells true [.int .i64 (c0 + (i : Nat))]))) (hstop : ∀ i g e h', finS i → Ix i g e h' → E g e t (putH h' kc (.cells true [.int .i64 (c0 + (i : Nat))]))) :
    codeY P nf S (.rangeFunc gop #[p] assign body) g t h N E := by
  intro G Ob Y Ds ρ w F m hG hs hC hF hro hM hok hD
  subst hs
  -- the iterator
  have hkX : P.know w fun b => G.C.X b ∨ G.V b ∨ G.C.w0.heap.size ≤ b := P.keep hG.kn hM.m.keep fun b hb => by
    rcases hb with h | h | h
    · exact .inl (.inl h)
    · exact .inl (.inr h)
    · exact .inr h
  have hkc' : h[kc]? = some (.cells true [.int .i64 c0]) := lookH_some hkc (by simp)
  have hkl : kc < h.length := get_lt hkc'
  obtain ⟨hp1, hp2⟩ := hG.pn kc pl hpin
  have hρk : ρ kc = pl := (hM.m.agree kc hp1).trans hp2
  have hRW : RealW ρ kc (.cells true [.int .i64 c0]) := ⟨rfl, (hM.m.holds kc _ hkc').1⟩
  have hnil : pl.nil = false := by rw [← hρk]; exact hRW.2
  have hpsz : pl.b < w.heap.size := by have := hM.m.size kc _ hkc' hRW.real; rwa [hρk] at this
  have hpown : G.C.X pl.b ∨ G.C.w0.heap.size ≤ pl.b := by have := hM.own kc _ hkc' hRW; rwa [hρk] at this
  have hpny : ¬ Y pl.b := by have := hM.ny kc _ hkc' hRW; rwa [hρk] at this
  have hpV : ¬ G.V pl.b := fun hv => by have := hG.v _ hv; exact hpown.elim this.2 fun h => by omega
  have hpsep : ∀ k c, h[k]? = some c → k ≠ kc → Real ρ k c → (ρ k).b ≠ pl.b := fun k c hc hne hR => by
    have := hM.m.sep kc k _ c hkc' hc (fun e => hne e.symm) hRW hR
    rw [hρk] at this
    exact fun e => this e.symm
  have hpat : CellAt w pl c0 := fun ρ2 k2 he => by
    have := hM.m.holds kc _ hkc'
    unfold Holds at this ⊢
    rw [he, ← hρk]
    exact this
  have hget : ∀ k, Real ρ k (lookH h k) → h[k]? = some (lookH h k) := fun k hR => lookH_some rfl (by intro e; rw [e] at hR; cases hR.1)
  obtain ⟨f, lb, B0, hden, ⟨hBs0, hent, hnB, hgive⟩, hB0⟩ := hgv ρ w _ hkX (fun k hk => ⟨lookH_holds hM.m k, fun hR => hM.m.size k _ (lookH_some rfl (by intro e; rw [e] at hR; cases hR.1)) hR⟩) hρk hpsz (fun k hk hR => hpsep k _ (hget k hR) (fun e => hkq (e ▸ hk)) hR) (hpown.elim .inl fun h => .inr (.inr h))
  obtain ⟨B, hBd⟩ : ∃ B : Nat → Prop, B = fun b => B0 b ∨ b = pl.b := ⟨_, rfl⟩
  have hBs : ∀ b, B b → b < w.heap.size := fun b hb => by
    rw [hBd] at hb
    rcases hb with hb | rfl
    · exact hBs0 b hb
    · exact hpsz
  have hBp : B pl.b := by rw [hBd]; exact .inr rfl
  have hzl : hz.length = h.length := by rw [hhz, putH_length, frz_length]
  have hzget : ∀ (k : Nat) (c : Chunk), hz[k]? = some c → (k ≠ kc ∧ (frz qs 0 h)[k]? = some c) ∨ c = .none := fun k c hc => by
    rw [hhz, putH_get] at hc
    split at hc
    · rename_i e
      subst e
      cases h2 : (frz qs 0 h)[k]? with
      | none => rw [h2] at hc; cases hc
      | some x => rw [h2] at hc; simp at hc; exact .inr hc.symm
    · rename_i e
      exact .inl ⟨e, hc⟩
  have hBV : ∀ b, B b → ¬ G.V b := fun b hb => by
    rw [hBd] at hb
    refine hb.elim (fun hb => ?_) (fun e => by rw [e]; exact hpV)
    rcases hB0 b hb with h1 | ⟨k, hk, hR, rfl⟩
    · exact fun hv => h1 (.inr (.inl hv))
    · exact (hM.away hG hra (hget k hR) hR).2
  have hBY : ∀ b, B b → ¬ Y b := fun b hb => by
    rw [hBd] at hb
    refine hb.elim (fun hb => ?_) (fun e => by rw [e]; exact hpny)
    rcases hB0 b hb with h1 | ⟨k, hk, hR, rfl⟩
    · exact fun hy => h1 (.inr (.inr (hM.yb b hy).1))
    · exact (hM.away hG hra (hget k hR) hR).1
  have hM0 := hM.freeze qs
  have hM1 : MG G Ob Y g ρ hz w := by
    refine ⟨⟨hM0.m.keep, hM0.m.agree, by rw [hzl]; exact hM.m.len, ?_, ?_, ?_, ?_, ?_⟩, ?_, ?_, ?_, hM0.ob, hM0.yb, hM0.j⟩
    · intro k c hc
      rcases hzget k c hc with ⟨_, h2⟩ | rfl
      · exact hM0.m.holds k c h2
      · trivial
    · intro k c hc
      rcases hzget k c hc with ⟨_, h2⟩ | rfl
      · have := hM0.m.okc k c h2
        rw [frz_length] at this
        rw [hzl]; exact this
      · trivial
    · intro k c hc hR
      rcases hzget k c hc with ⟨_, h2⟩ | rfl
      · exact hM0.m.size k c h2 hR
      · cases hR.1
    · intro k c hc hR
      rcases hzget k c hc with ⟨_, h2⟩ | rfl
      · exact hM0.m.wr k c h2 hR
      · cases hR.1
    · intro k k' c c' hc hc' hne hR hR'
      rcases hzget k c hc with ⟨_, h2⟩ | rfl
      · rcases hzget k' c' hc' with ⟨_, h3⟩ | rfl
        · exact hM0.m.sep k k' c c' h2 h3 hne hR hR'
        · cases hR'.1
      · cases hR.1
    · intro k c hc hR
      rcases hzget k c hc with ⟨_, h2⟩ | rfl
      · exact hM0.own k c h2 hR
      · cases hR.1
    · intro k c hc hR
      rcases hzget k c hc with ⟨_, h2⟩ | rfl
      · exact hM0.ny k c h2 hR
      · cases hR.1
    · intro k c hc hR
      rcases hzget k c hc with ⟨_, h2⟩ | rfl
      · exact hM0.no k c h2 hR
      · cases hR.1
  have hBR : ∀ k c, hz[k]? = some c → RealW ρ k c → ¬ B (ρ k).b := fun k c hcz hR hb => by
    obtain ⟨hkne, hc⟩ := (hzget k c hcz).resolve_right fun e => by rw [e] at hR; cases hR.1
    rw [hBd] at hb
    refine hb.elim (fun hb => ?_) (fun hb => by
      obtain ⟨c1, q1, q2, q3, _, _⟩ := frz_all hc
      exact hpsep k c1 q1 hkne ⟨by rw [← q2]; exact hR.real.1, hR.2⟩ hb)
    rcases hB0 _ hb with h1 | ⟨k', hk', hR', he⟩
    · rcases hM1.own k c hcz hR with ho | ho
      · exact h1 (.inl ho)
      · exact h1 (.inr (.inr ho))
    · obtain ⟨c0, g1, g2⟩ := frz_get hc
      have hmem : inL qs (0 + k') = true := by
        rw [Nat.zero_add]
        have : ∀ (l : List Nat), k' ∈ l → inL l k' = true := by
          intro l
          induction l with
          | nil => intro h; cases h
          | cons x l ih =>
            intro h
            simp only [inL]
            split
            · rfl
            · rename_i hx
              rcases List.mem_cons.1 h with h | h
              · exact absurd h.symm hx
              · exact ih h
        exact this qs hk'
      by_cases hkk : k = k'
      · subst hkk
        rcases g2 with ⟨_, g3⟩ | ⟨rfl, _⟩
        · rw [hmem] at g3; cases g3
        · have := hnm k hk'
          rw [lookH_get? g1] at this
          have h5 := hR.1
          rw [this] at h5; cases h5
      · obtain ⟨c1, q1, q2, q3, _, _⟩ := frz_all hc
        exact hM.m.sep k k' c1 _ q1 (hget k' hR') hkk ⟨q3 hR.1, hR.2⟩ hR' he.symm
  have hsw : G.C.w0.heap.size ≤ w.heap.size := hM.m.keep.size
  refine wpIn_rangeFunc ?_
  intro fn hfn
  obtain ⟨l, Dn, dd, w1, hent1, hk1, hwl, hl1, hrec, hDnn, hDn⟩ := enter_loop (P := P) hM hro fn (actY ρ t Ds).tmps #[p] assign body
  obtain ⟨rec, hrecdef⟩ : ∃ rec : LoopState → Option Code → Loop, rec = fun st pe => { state := st, pending := pe, fn, tmps := (tmpsD ρ t).toArray, params := #[p], assign, body, defers := dd } := ⟨_, rfl⟩
  have hrec' : w1.heap[l]? = some (.loop (rec .ready none)) := by rw [hrecdef]; exact hrec
  have hlt1 : w.heap.size ≤ w1.heap.size := hk1.size
  have hwlt : ∀ b, B b → b < w.heap.size := hBs
  refine ⟨l, Dn.map mark, w1, { target := .fn (.func f) lb.toArray, args := #[.func (.yield l) #[] #[]] }, w1, f, (Value.func (.yield l) #[] #[] :: lb).toArray, w1, hent1, ?_, ?_, ?_, ?_, ?_⟩
  · have he : (actY ρ t Ds).eval gop = .func (.func f) #[] lb.toArray := by rw [← act_actY ρ t h Ds, act_eval ρ ⟨t, h, Ds.map mark⟩ hok]; exact hden
    simp only [resolve, he]
    simp [go_sem]
  · intro f' _; exact hF.fn f'
  · simp only [invoke]
    rw [show ((#[Value.func (.yield l) #[] #[]] : Array Value) ++ lb.toArray) = (Value.func (.yield l) #[] #[] :: lb).toArray from by apply Array.ext'; simp]
    exact hent _ _
  · exact fun hd => absurd hd (by rw [hF.depth]; simp)
  · let A1 := liveA hz
    let Ob1 : List (Nat × Obj) := Dn.map (fun D => (D, Obj.deferred (some []))) ++ Ob
    let J : Inv := fun gh W Yc => ∃ gO Yo ρ' h',
      (match gh with
        | .run i => I i gO h' ∧ MG G ((l, Obj.loop (rec .ready none)) :: Ob1) Yo gO ρ' h' W
        | .stop i => ∃ e c, Ix i gO e h' ∧ leaves e = some c ∧ MG G ((l, Obj.loop (rec .done (some c))) :: Ob1) Yo gO ρ' h' W) ∧
      Agree h.length ρ ρ' ∧ h.length ≤ h'.length ∧ roA A1 0 h' ∧ (∀ k c, h'[k]? = some c → RealW ρ' k c → ¬ B (ρ' k).b ∧ ((ρ' k).b < w1.heap.size ∨ Yc (ρ' k).b)) ∧ (∀ b, Yo b → ¬ B b ∧ (b < w1.heap.size ∨ Yc b)) ∧
      (∀ k, A1 k = true → (ρ k).nil = false → ¬ Yo (ρ k).b)
    have hplace5 : ∀ k, A1 k = true → (ρ k).nil = false → k < h.length ∧ (ρ k).b < w.heap.size ∧ ¬ Y (ρ k).b ∧ ¬ G.V (ρ k).b ∧ (ρ k).b ≠ pl.b := fun k hk hn => by
      obtain ⟨c, hcz, hl⟩ := liveA_lt hk
      obtain ⟨hkne, hc⟩ := (hzget k c hcz).resolve_right fun e => by rw [e] at hl; cases hl
      obtain ⟨c0, q1, q2, _⟩ := frz_all hc
      have hR : Real ρ k c0 := ⟨by rw [← q2]; exact hl, hn⟩
      exact ⟨get_lt q1, hM.m.size k c0 q1 hR, (hM.away hG hra q1 hR).1, (hM.away hG hra q1 hR).2, hpsep k c0 q1 hkne hR⟩
    have hplace : ∀ k, A1 k = true → (ρ k).nil = false → k < h.length ∧ (ρ k).b < w.heap.size ∧ ¬ Y (ρ k).b ∧ ¬ G.V (ρ k).b := fun k hk hn => by
      have := hplace5 k hk hn
      exact ⟨this.1, this.2.1, this.2.2.1, this.2.2.2.1⟩
    have hlB : ¬ B l := fun hb => by have := hwlt l hb; omega
    have hObl : ∀ q ∈ Ob1, q.1 < w1.heap.size ∧ q.1 ≠ l := fun q hq => by
      rcases List.mem_append.1 hq with hq | hq
      · obtain ⟨D, hD', rfl⟩ := List.mem_map.1 hq
        exact ⟨(hDn D hD').2.1, (hDn D hD').2.2.1⟩
      · have := heap_lt (hM.ob q hq).1
        exact ⟨by omega, by omega⟩
    have hls0 : G.C.w0.heap.size ≤ l := by omega
    have hObp : ∀ q ∈ Ob1, q.1 ≠ pl.b := fun q hq => by
      rcases List.mem_append.1 hq with hq | hq
      · obtain ⟨D, hD', rfl⟩ := List.mem_map.1 hq
        have := (hDn D hD').1
        simp only; omega
      · have := hM.no kc _ hkc' hRW q hq
        rw [hρk] at this
        exact fun e => this e.symm
    -- the memory as the loop begins
    have hJ0 : J (.run 0) w1 (fun _ => False) := by
      obtain ⟨X, _, _, hm, back⟩ := hM1.step hG
      have hMw1 := back _ _ _ (hm.same hk1)
      refine ⟨g, Y, ρ, hz, ⟨h0, ⟨hMw1.m, hMw1.own, hMw1.ny, ?_, ?_, hMw1.yb, hMw1.j⟩⟩, fun _ _ => rfl, by rw [hzl]; exact Nat.le_refl _, roA_live _, ?_, ?_, ?_⟩
      · intro k c hc hR q hq
        have hb := hM1.m.size k c hc hR.real
        rcases List.mem_cons.1 hq with rfl | hq
        · simp only; omega
        · rcases List.mem_append.1 hq with hq | hq
          · obtain ⟨D, hD', rfl⟩ := List.mem_map.1 hq
            have := (hDn D hD').1
            simp only; omega
          · exact hM1.no k c hc hR q hq
      · intro q hq
        rcases List.mem_cons.1 hq with rfl | hq
        · exact ⟨hrec', fun hv => by have := (hG.v _ hv).1; simp only at this; omega, fun hy => by have := (hM.yb _ hy).2; simp only at this; omega⟩
        · rcases List.mem_append.1 hq with hq | hq
          · obtain ⟨D, hD', rfl⟩ := List.mem_map.1 hq
            have hd := hDn D hD'
            exact ⟨hd.2.2.2, fun hv => by have := (hG.v _ hv).1; simp only at this; omega, fun hy => by have := (hM.yb _ hy).2; simp only at this; omega⟩
          · exact hMw1.ob q hq
      · intro k c hc hR
        exact ⟨hBR k c hc hR, .inl (by have := hM1.m.size k c hc hR.real; omega)⟩
      · intro b hb
        exact ⟨fun hx => hBY b hx hb, .inl (by have := (hM.yb b hb).2; omega)⟩
      · intro k hk hn
        exact (hplace k hk hn).2.2.1
    -- the names of a round
    have hkeepA : ∀ {gO Yo ρ' h' W Ob' }, MG G Ob' Yo gO ρ' h' W → Agree h.length ρ ρ' → roA A1 0 h' → ∀ {Yc : Nat → Prop}, (∀ k c, h'[k]? = some c → RealW ρ' k c → ¬ B (ρ' k).b ∧ ((ρ' k).b < w1.heap.size ∨ Yc (ρ' k).b)) →
        ∀ k c, h'[k]? = some c → Real ρ' k c → (ρ' k).b < w1.heap.size ∨ Yc (ρ' k).b := by
      intro gO Yo ρ' h' W Ob' hMG ag hra' Yc hrw k c hc hR
      rcases roA_spec hra' hc with hw | hl | ha
      · exact (hrw k c hc ⟨hw, hR.2⟩).2
      · rw [hR.1] at hl; cases hl
      · rw [Nat.zero_add] at ha
        obtain ⟨c1, hc1, _⟩ := liveA_lt ha
        have hkl : k < h.length := by rw [← hzl]; exact get_lt hc1
        have hn : (ρ k).nil = false := by rw [← ag k hkl]; exact hR.2
        have := (hplace k ha hn).2.1
        rw [ag k hkl]
        exact .inl (by omega)
    have hkeepP : ∀ {gO Yo ρ' h' W Ob' }, MG G Ob' Yo gO ρ' h' W → Agree h.length ρ ρ' → roA A1 0 h' → ∀ {Yc : Nat → Prop}, (∀ k c, h'[k]? = some c → RealW ρ' k c → ¬ B (ρ' k).b ∧ ((ρ' k).b < w1.heap.size ∨ Yc (ρ' k).b)) →
        ∀ k c, h'[k]? = some c → Real ρ' k c → (ρ' k).b ≠ pl.b := by
      intro gO Yo ρ' h' W Ob' hMG ag hra' Yc hrw k c hc hR
      rcases roA_spec hra' hc with hw | hl | ha
      · exact fun e => (hrw k c hc ⟨hw, hR.2⟩).1 (by rw [e]; exact hBp)
      · rw [hR.1] at hl; cases hl
      · rw [Nat.zero_add] at ha
        obtain ⟨c1, hc1, _⟩ := liveA_lt ha
        have hkl2 : k < h.length := by rw [← hzl]; exact get_lt hc1
        have hn : (ρ k).nil = false := by rw [← ag k hkl2]; exact hR.2
        rw [ag k hkl2]
        exact (hplace5 k ha hn).2.2.2.2
    have hcl : Client (fun b => b = pl.b) w1.heap.size J := by
      constructor
      · rintro gh W W' Yc Z ⟨gO, Yo, ρ', h', hcase, ag, hlen, hra', hrw, hyo, ha⟩ hk hZ
        have hq2 : ∀ {Ob' : List (Nat × Obj)}, (∀ q ∈ Ob', q.1 < w1.heap.size ∧ q.1 ≠ pl.b) → ∀ q ∈ Ob', q.1 ≠ pl.b := fun hq q hq' => (hq q hq').2
        have hzz : ∀ {Ob'}, MG G Ob' Yo gO ρ' h' W → (∀ q ∈ Ob', q.1 < w1.heap.size ∧ q.1 ≠ pl.b) → MG G Ob' Yo gO ρ' h' W' := fun hMG hq => hMG.besideX hG hk fun b hb => by
          rcases (hZ b hb).1 with rfl | hb1
          · exact ⟨hpown, fun hy => (hyo _ hy).1 hBp, fun q hq' he => hq2 hq q hq' he.symm, hkeepP hMG ag hra' hrw⟩
          refine ⟨.inr (by omega), fun hy => ?_, fun q hq' he => ?_, fun k c hc hR he => ?_⟩
          · exact (hyo b hy).2.elim (fun h => by omega) (hZ b hb).2
          · have := (hq q hq').1; omega
          · have := hkeepA hMG ag hra' hrw k c hc hR
            rw [he] at this
            exact this.elim (fun h => by omega) (hZ b hb).2
        have hq1 : ∀ (o : Obj), ∀ q ∈ (l, o) :: Ob1, q.1 < w1.heap.size ∧ q.1 ≠ pl.b := fun o q hq => by
          rcases List.mem_cons.1 hq with rfl | hq
          · exact ⟨hl1, by simp only; omega⟩
          · exact ⟨(hObl q hq).1, hObp q hq⟩
        refine ⟨gO, Yo, ρ', h', ?_, ag, hlen, hra', hrw, hyo, ha⟩
        cases gh with
        | run i => exact ⟨hcase.1, hzz hcase.2 (hq1 _)⟩
        | stop i =>
          obtain ⟨e, c, h1, h2, h3⟩ := hcase
          exact ⟨e, c, h1, h2, hzz h3 (hq1 _)⟩
      · rintro gh W Yc Yc' ⟨gO, Yo, ρ', h', hcase, ag, hlen, hra', hrw, hyo, ha⟩ hyy
        exact ⟨gO, Yo, ρ', h', hcase, ag, hlen, hra', fun k c hc hR => ⟨(hrw k c hc hR).1, (hrw k c hc hR).2.imp id (hyy _)⟩, fun b hb => ⟨(hyo b hb).1, (hyo b hb).2.imp id (hyy _)⟩, ha⟩
    -- a round
    have hyl : YieldsR P.p l J (fun b => b < w1.heap.size ∧ ¬ B b) w1.heap.size (fun i v i' => ∃ sv, R' i sv i' ∧ v = den ρ sv) := by
      rintro i _ i' W Yc F' k hF' ⟨sv, hR, rfl⟩ hsW hYc ⟨gO, Yo, ρ', h', ⟨hI, hMG⟩, ag, hlen, hra', hrw, hyo, ha⟩
      have hlW := (hMG.ob _ (List.mem_cons_self ..)).1
      simp only at hlW
      have hy := run_yield (P := P.p) (args := #[den ρ sv]) hlW (by rw [hrecdef]; rfl)
      have hden' : den ρ sv = den ρ' sv := (den_agree (n := 0) (fun k hk => absurd hk (by omega)) _ (hflat i sv i' hR)).symm
      have htmp : ((rec .ready none).params.zip #[den ρ sv]).foldl (fun (tm : Array Value) (x : Nat × Value) => tm.setIfInBounds x.1 x.2) (rec .ready none).tmps = (tmpsD ρ' (putS t p sv)).toArray := by
        rw [hrecdef]
        simp only
        rw [← tmps_put ρ' (n := 0) t p sv, hden', tmpsD_agree ag hok]
      refine ⟨_, _, _, _, hy, ?_⟩
      rw [show (rec .ready none).fn = fn by rw [hrecdef], show (rec .ready none).assign = assign by rw [hrecdef], show (rec .ready none).body = body by rw [hrecdef]]
      rw [show (((rec .ready none).params.zip #[den ρ sv]).foldl (fun tmps (t, a) => tmps.setIfInBounds t a) (rec .ready none).tmps) = (tmpsD ρ' (putS t p sv)).toArray from htmp]
      -- the round's own context
      let X2 : Nat → Prop := fun b => (b < w1.heap.size ∨ Yc b) ∧ (G.C.X b ∨ G.C.w0.heap.size ≤ b) ∧ ¬ Yo b ∧ ¬ B b
      let G2 : Ghost := { C := ⟨W, X2, ρ', h.length⟩, V := fun b => G.V b ∨ Yo b, J := fun gh w Yn => G.J gh w (fun b => Yo b ∨ Yn b), s := { G.s with A := A1 } }
      have hWs0 : G.C.w0.heap.size ≤ W.heap.size := hMG.m.keep.size
      have hls : ¬ Yo l ∧ ¬ G.V l := ⟨(hMG.ob _ (List.mem_cons_self ..)).2.2, (hMG.ob _ (List.mem_cons_self ..)).2.1⟩
      have hX2l : X2 l := ⟨.inl hl1, .inr hls0, hls.1, hlB⟩
      have hG2 : G2.Ok P := by
        refine ⟨⟨?_, ?_⟩, ?_, ?_, ?_, ?_, ?_, ?_⟩
        · intro gh w w' Yn Z hj hk hZ
          refine hG.cl.stable hj hk fun b hb => ?_
          obtain ⟨h1, h2⟩ := hZ b hb
          rcases h1 with h1 | h1
          · exact ⟨h1.2.1, fun hx => hx.elim h1.2.2.1 h2⟩
          · simp only [G2] at h1
            exact ⟨.inr (by omega), fun hx => hx.elim (fun hy => by have := (hMG.yb b hy).2; omega) h2⟩
        · intro gh w Yn Yn' hj hyy
          exact hG.cl.mono hj fun b hb => hb.imp id (hyy b)
        · have step : ∀ (v : Value) (j' : Nat) (w2 : World) (Yn : Nat → Prop) (F2 : Fence) (k2 : Nat), W.heap.size ≤ w2.heap.size → (∀ b, Yn b → W.heap.size ≤ b ∧ b < w2.heap.size) →
              (((∀ b, (Yo b ∨ Yn b) → G.C.w0.heap.size ≤ b ∧ b < w2.heap.size) → YieldAt F2 k2 P.p G.s.l #[v] w2 fun e w' => Keep (fun b => (Yo b ∨ Yn b) ∨ G.V b) w2 w' ∧ ((e = .returned (.bool true) ∧ G.J (.run j') w' (grow (fun b => Yo b ∨ Yn b) w2 w')) ∨ (e = .returned (.bool false) ∧ G.J (.stop j') w' (grow (fun b => Yo b ∨ Yn b) w2 w'))))) →
              YieldAt F2 k2 P.p G.s.l #[v] w2 fun e w' => Keep (fun b => Yn b ∨ (G.V b ∨ Yo b)) w2 w' ∧ ((e = .returned (.bool true) ∧ G.J (.run j') w' (fun b => Yo b ∨ grow Yn w2 w' b)) ∨ (e = .returned (.bool false) ∧ G.J (.stop j') w' (fun b => Yo b ∨ grow Yn w2 w' b))) := by
            intro v j' w2 Yn F2 k2 hs2 hYn hy
            refine YieldAt.mono (hy fun b hb => ?_) ?_
            · rcases hb with hb | hb
              · have := hMG.yb b hb; exact ⟨this.1, by omega⟩
              · have := hYn b hb; exact ⟨by omega, this.2⟩
            · rintro e w3 ⟨hk, hjj⟩
              refine ⟨hk.mono fun b hb => ?_, ?_⟩
              · rcases hb with (hb | hb) | hb
                · exact .inr (.inr hb)
                · exact .inl hb
                · exact .inr (.inl hb)
              · have hgr : ∀ b, grow (fun b => Yo b ∨ Yn b) w2 w3 b → Yo b ∨ grow Yn w2 w3 b := fun b hb => by
                  rcases hb with (hb | hb) | hb
                  · exact .inl hb
                  · exact .inr (.inl hb)
                  · exact .inr (.inr hb)
                exact hjj.imp (fun h => ⟨h.1, hG.cl.mono h.2 hgr⟩) fun h => ⟨h.1, hG.cl.mono h.2 hgr⟩
          have hyl0 := hG.yl
          show YieldsS P.p { G.s with A := A1 } (fun gh w Yn => G.J gh w (fun b => Yo b ∨ Yn b)) (fun b => G.V b ∨ Yo b) W.heap.size
          unfold YieldsS at hyl0 ⊢
          cases halt : G.s.alt with
          | none =>
            rw [halt] at hyl0
            intro i2 w2 Yn F2 k2 hF2 hi2 hs2 hYn hj
            exact step _ (i2 + 1) w2 Yn F2 k2 hs2 hYn fun hyy => hyl0 i2 w2 _ F2 k2 hF2 hi2 (by omega) hyy hj
          | some R =>
            rw [halt] at hyl0
            intro i2 v i2' w2 Yn F2 k2 hF2 hi2 hs2 hYn hj
            exact step _ i2' w2 Yn F2 k2 hs2 hYn fun hyy => hyl0 i2 v i2' w2 _ F2 k2 hF2 hi2 (by omega) hyy hj
        · intro b hb
          rcases hb with hb | hb
          · have h1 := hG.v b hb
            refine ⟨by simp only [G2]; omega, fun hx => ?_⟩
            exact hx.2.1.elim h1.2 fun h => by omega
          · exact ⟨(hMG.yb b hb).2, fun hx => hx.2.2.1 hb⟩
        · intro k2 hk2
          obtain ⟨c1, hc1, _⟩ := liveA_lt hk2
          have hkl : k2 < h.length := by rw [← hzl]; exact get_lt hc1
          refine ⟨hkl, fun hn => ?_⟩
          have hn' : (ρ k2).nil = false := by rw [← ag k2 hkl]; exact hn
          have h1 := hplace k2 hk2 hn'
          simp only [G2]
          rw [ag k2 hkl]
          exact ⟨by omega, fun hx => hx.elim h1.2.2.2 (ha k2 hk2 hn')⟩
        · refine P.keep hG.kn hMG.m.keep fun b hb => ?_
          rcases hb with hb | hb | hb
          · exact hb.2.1.elim (fun h => .inl (.inl h)) .inr
          · exact .inl (.inr hb)
          · exact .inr (hMG.yb b hb).1
        · exact hG.fx
        · intro k pl hp
          obtain ⟨q1, q2⟩ := hG.pn k pl hp
          have hkl : k < h.length := Nat.lt_of_lt_of_le q1 hM.m.len
          exact ⟨hkl, (ag k hkl).trans ((hM.m.agree k q1).trans q2)⟩
      have hMG2 : MG G2 ((l, Obj.loop (rec .ready none)) :: Ob1) (fun _ => False) gO ρ' h' W := by
        have hown : ∀ k c, h'[k]? = some c → RealW ρ' k c → X2 (ρ' k).b := fun k c hc hR => ⟨(hrw k c hc hR).2, hMG.own k c hc hR, hMG.ny k c hc hR, (hrw k c hc hR).1⟩
        refine ⟨⟨Keep.refl _ _, fun _ _ => rfl, hlen, hMG.m.holds, hMG.m.okc, hMG.m.size, fun k c hc hR => .inl (.inl (hown k c hc hR)), hMG.m.sep⟩, fun k c hc hR => .inl (hown k c hc hR), fun _ _ _ _ h => h, hMG.no, ?_, fun b hb => hb.elim, hG.cl.mono hMG.j fun b hb => .inl hb⟩
        intro q hq
        have := hMG.ob q hq
        exact ⟨this.1, fun hx => hx.elim this.2.1 this.2.2, fun h => h⟩
      have hF2 : WideF (F'.inRound l) := ⟨hF'.fn, hF'.depth⟩
      refine roundIn_of_wpIn (hF'.fn fn) ?_
      refine Code.wpIn_mono ?_ (hround i sv i' gO h' hR hI G2 _ (fun _ => False) [] ρ' W (F'.inRound l) k hG2 rfl (Nat.le_refl _) hF2 (fun l0 hl0 => by obtain rfl : l = l0 := (by simpa using hl0); exact ⟨_, List.mem_cons_self ..⟩) hMG2
        (okS_put (okS_mono hlen hok) (ok_mono (Nat.zero_le _) _ (hflat i sv i' hR))) ⟨List.nodup_nil, fun D hD => by cases hD⟩)
      rintro e a W2 ⟨g2, Y2, Ob2, Ds2, ρ2, t2, h2, hq2, hM2, hok2, hob2, hD2, rfl⟩
      cases e with
      | normal =>
        have hr2 := (hM2.ob _ (hob2 _ (List.mem_cons_self ..))).1
        simp only at hr2
        refine ⟨_, run_beginRound hr2 (by rw [hrecdef]), ?_⟩
        have hM3 := hM2.put hG2 rfl (.loop { rec .ready none with state := .busy }) (hob2 _ (List.mem_cons_self ..)) (.inl hX2l)
        have hmem3 : ∀ q ∈ (l, Obj.loop { rec .ready none with state := .busy }) :: Ob1, q ∈ Ob2.map (rep l (.loop { rec .ready none with state := .busy })) := fun q hq => by
          rcases List.mem_cons.1 hq with rfl | hq
          · exact List.mem_map.2 ⟨_, hob2 _ (List.mem_cons_self ..), by simp [rep]⟩
          · exact List.mem_map.2 ⟨q, hob2 q (List.mem_cons_of_mem _ hq), by simp [rep, (hObl q hq).2]⟩
        have hD3 : Marked G2.C.w0.heap.size Ds2 (Ob2.map (rep l (.loop { rec .ready none with state := .busy }))) := ⟨hD2.1, fun D hD => by
          have h1 := hD2.2 D hD
          refine ⟨List.mem_map.2 ⟨_, h1.1, ?_⟩, h1.2⟩
          have h3 := (hM2.ob _ h1.1).1
          simp only at h3
          have : D ≠ l := fun he => by rw [he, hr2] at h3; cases h3
          simp [rep, this]⟩
        refine Code.wpIn_mono ?_ (hq2 G2 _ Y2 Ds2 ρ2 _ (F'.inRound l) k hG2 rfl (Nat.le_refl _) hF2 (fun l0 hl0 => by obtain rfl : l = l0 := (by simpa using hl0); exact ⟨_, hmem3 _ (List.mem_cons_self ..)⟩) hM3 hok2 hD3)
        rintro e a W3 ⟨g3, Y3, Ob3, Ds3, ρ3, t3, h3, hq3, hMM3, hok3, hob3, hD3', rfl⟩
        have hr3 := (hMM3.ob _ (hob3 _ (hmem3 _ (List.mem_cons_self ..)))).1
        simp only at hr3
        -- how a round ends
        have fin : ∀ (jump : Option Code) (J4 : List Chunk → Prop), IntoY h.length t3 h3 (fun _ h4 => J4 h4 ∧ roA A1 0 h4) →
            ∃ W4, (Instr.endRound l jump).run P.p W3 = .ok (.bool jump.isNone) W4 ∧ Keep (fun b => Yc b ∨ (b < w1.heap.size ∧ ¬ B b)) W W4 ∧ ∃ Yo4 ρ4 h4, J4 h4 ∧ MG G ((l, Obj.loop (rec (if jump.isNone then .ready else .done) jump)) :: Ob1) Yo4 g3 ρ4 h4 W4 ∧
              Agree h.length ρ ρ4 ∧ h.length ≤ h4.length ∧ roA A1 0 h4 ∧ (∀ k c, h4[k]? = some c → RealW ρ4 k c → ¬ B (ρ4 k).b ∧ ((ρ4 k).b < w1.heap.size ∨ grow Yc W W4 (ρ4 k).b)) ∧ (∀ b, Yo4 b → ¬ B b ∧ (b < w1.heap.size ∨ grow Yc W W4 b)) ∧
              (∀ k, A1 k = true → (ρ k).nil = false → ¬ Yo4 (ρ k).b) := by
          intro jump J4 hinto
          obtain ⟨ρ4, t4, h4, ⟨hJ4, hra4⟩, hM4, _, _⟩ := hinto.run hG2 (Nat.le_refl _) hMM3 hok3
          have hendr := run_endRound (P := P.p) jump hr3
          have hM5 := hM4.put hG2 rfl (.loop (rec (if jump.isNone then .ready else .done) jump)) (hob3 _ (hmem3 _ (List.mem_cons_self ..))) (.inl hX2l)
          have hrr : ({ ({ rec .ready none with state := .busy } : Loop) with state := if jump.isNone then .ready else .done, pending := jump } : Loop) = rec (if jump.isNone then .ready else .done) jump := by rw [hrecdef]
          rw [hrr] at hendr
          obtain ⟨W4, hW4⟩ : ∃ W4, W3.putObj l (.loop (rec (if jump.isNone then .ready else .done) jump)) = W4 := ⟨_, rfl⟩
          rw [hW4] at hendr hM5
          have hkeep : Keep (fun b => X2 b ∨ (G.V b ∨ Yo b)) W W4 := hM5.m.keep
          have hs4 : W.heap.size ≤ W4.heap.size := hkeep.size
          refine ⟨W4, hendr, hkeep.mono fun b hb => ?_, fun b => Yo b ∨ Y3 b, ρ4, h4, hJ4, ?_, ?_, hM5.m.len, hra4, ?_, ?_, ?_⟩
          · rcases hb with hb | hb | hb
            · exact hb.1.elim (fun h => .inr ⟨h, hb.2.2.2⟩) .inl
            · have := (hG.v b hb).1
              exact .inr ⟨by omega, fun hx => hBV b hx hb⟩
            · exact (hyo b hb).2.elim (fun h => .inr ⟨h, (hyo b hb).1⟩) .inl
          · have hown4 : ∀ k c, h4[k]? = some c → RealW ρ4 k c → X2 (ρ4 k).b ∨ W.heap.size ≤ (ρ4 k).b := hM5.own
            refine ⟨⟨?_, ?_, ?_, hM5.m.holds, hM5.m.okc, hM5.m.size, ?_, hM5.m.sep⟩, ?_, ?_, ?_, ?_, ?_, ?_⟩
            · refine hMG.m.keep.step hkeep fun b hb => ?_
              rcases hb with hb | hb | hb
              · exact hb.2.1.elim (fun h => .inl (.inl h)) .inr
              · exact .inl (.inr hb)
              · exact .inr (hMG.yb b hb).1
            · intro k hk
              have h1 := hM5.m.agree k (Nat.lt_of_lt_of_le hk hM.m.len)
              simp only [G2] at h1
              rw [h1]
              exact hMG.m.agree k hk
            · exact Nat.le_trans hM.m.len hM5.m.len
            · intro k c hc hR
              rcases hown4 k c hc hR with hb | hb
              · exact hb.2.1.elim (fun h => .inl (.inl h)) .inr
              · exact .inr (by simp only; omega)
            · intro k c hc hR
              rcases hown4 k c hc hR with hb | hb
              · exact hb.2.1
              · exact .inr (by omega)
            · intro k c hc hR hy
              rcases hy with hy | hy
              · rcases hown4 k c hc hR with hb | hb
                · exact hb.2.2.1 hy
                · have := (hMG.yb _ hy).2; omega
              · exact hM5.ny k c hc hR hy
            · intro k c hc hR q hq
              rcases List.mem_cons.1 hq with rfl | hq
              · exact hM5.no k c hc hR (l, _) (List.mem_map.2 ⟨_, hob3 _ (hmem3 _ (List.mem_cons_self ..)), by simp [rep]⟩)
              · refine hM5.no k c hc hR q (List.mem_map.2 ⟨q, hob3 _ (hmem3 q (List.mem_cons_of_mem _ hq)), by simp [rep, (hObl q hq).2]⟩)
            · intro q hq
              have h6 : q ∈ Ob3.map (rep l (.loop (rec (if jump.isNone then .ready else .done) jump))) := by
                rcases List.mem_cons.1 hq with rfl | hq
                · exact List.mem_map.2 ⟨_, hob3 _ (hmem3 _ (List.mem_cons_self ..)), by simp [rep]⟩
                · exact List.mem_map.2 ⟨q, hob3 _ (hmem3 q (List.mem_cons_of_mem _ hq)), by simp [rep, (hObl q hq).2]⟩
              obtain ⟨h7, h8, h9⟩ := hM5.ob q h6
              exact ⟨h7, fun hv => h8 (.inl hv), fun hy => hy.elim (fun hy => h8 (.inr hy)) h9⟩
            · intro b hb
              rcases hb with hb | hb
              · have := hMG.yb b hb; exact ⟨this.1, by omega⟩
              · have := hM5.yb b hb; simp only [G2] at this; exact ⟨by omega, this.2⟩
            · exact hM5.j
          · intro k hk
            have h1 := hM5.m.agree k hk
            simp only [G2] at h1
            rw [h1]
            exact ag k hk
          · intro k c hc hR
            rcases hM5.own k c hc hR with hb | hb
            · exact ⟨hb.2.2.2, hb.1.imp id fun h => .inl h⟩
            · simp only [G2] at hb
              exact ⟨fun hx => (by have := hwlt _ hx; omega), .inr (.inr ⟨hb, hM5.m.size k c hc hR.real⟩)⟩
          · intro b hb
            rcases hb with hb | hb
            · exact ⟨(hyo b hb).1, (hyo b hb).2.imp id fun h => .inl h⟩
            · have := hM5.yb b hb
              simp only [G2] at this
              exact ⟨fun hx => (by have := hwlt _ hx; omega), .inr (.inr this)⟩
          · intro k hk hn hy
            rcases hy with hy | hy
            · exact ha k hk hn hy
            · have h1 := hM5.yb _ hy
              have h2 := (hplace k hk hn).2.1
              simp only [G2] at h1
              omega
        cases e with
        | normal =>
          obtain ⟨W4, h1, h2, Yo4, ρ4, h4, h5, h6, h7, h8, h9, h10, h11, h12⟩ := fin none (I i' g3) hq3
          exact ⟨_, W4, h1, h2, .inl ⟨rfl, g3, Yo4, ρ4, h4, ⟨h5, h6⟩, h7, h8, h9, h10, h11, h12⟩⟩
        | ret =>
          obtain ⟨W4, h1, h2, Yo4, ρ4, h4, h5, h6, h7, h8, h9, h10, h11, h12⟩ := fin (some .ret) (Ix i' g3 .ret) hq3.2
          exact ⟨_, W4, h1, h2, .inr ⟨rfl, g3, Yo4, ρ4, h4, ⟨.ret, .ret, h5, rfl, h6⟩, h7, h8, h9, h10, h11, h12⟩⟩
        | exit id =>
          obtain ⟨W4, h1, h2, Yo4, ρ4, h4, h5, h6, h7, h8, h9, h10, h11, h12⟩ := fin (some (.exit id)) (Ix i' g3 (.exit id)) hq3.2
          exact ⟨_, W4, h1, h2, .inr ⟨rfl, g3, Yo4, ρ4, h4, ⟨.exit id, .exit id, h5, rfl, h6⟩, h7, h8, h9, h10, h11, h12⟩⟩
        | goto id => exact absurd hq3.1 (by simp [leaves])
        | panic c => exact absurd hq3.1 (by simp [leaves])
        | outgrown => exact absurd hq3.1 (by simp [leaves])
      | exit id => exact hq2.elim
      | goto id => exact hq2.elim
      | ret => exact hq2.elim
      | panic id => exact hq2.elim
      | outgrown => exact hq2.elim
    have hyl' : YieldsR P.p l J (fun b => b < w1.heap.size ∧ ¬ (B0 b ∨ b = pl.b)) w1.heap.size (fun i v i' => ∃ sv, R' i sv i' ∧ v = den ρ sv) := by
      rw [hBd] at hyl
      exact hyl
    have hcall := hgive { F with round := none } (m - 1) l J w1 c0 ⟨hF.fn, hF.depth⟩ rfl hlt1 (fun b hb => hk1.block b (hBs0 b hb) fun h => h) (hpat.block (hk1.block _ hpsz fun h => h)) hc0 (by omega) hcl hyl' hJ0
    refine CallsIn.mono (F := F) hcall ?_
    rintro e W4 ⟨v, gh, Yc, i, rfl, hgh, hJ4, hat4⟩
    have hact : ∀ ρ', Agree h.length ρ ρ' → ({ actY ρ t Ds with defers := Dn.map mark ++ (actY ρ t Ds).defers } : Act) = actY ρ' t (Dn ++ Ds) := fun ρ' ag => by
      simp only [actY, tmpsD_agree ag hok, List.map_append]
    have hDD : Marked G.C.w0.heap.size (Dn ++ Ds) Ob1 := ⟨List.nodup_append.2 ⟨hDnn, hD.1, fun a ha b hb e => by
      have h1 := (hDn a ha).1
      have h2 := heap_lt (hM.ob _ (hD.2 b hb).1).1
      simp only at h2
      omega⟩, fun D hD' => by
      rcases List.mem_append.1 hD' with h1 | h1
      · exact ⟨List.mem_append.2 (.inl (List.mem_map.2 ⟨D, h1, rfl⟩)), by have := (hDn D h1).1; omega⟩
      · exact ⟨List.mem_append.2 (.inr (hD.2 D h1).1), (hD.2 D h1).2⟩⟩
    have hsub : ∀ (o o' : Obj), ∀ q ∈ Ob1, q ∈ ((l, o) :: Ob1).map (rep l o') := fun o o' q hq => List.mem_map.2 ⟨q, List.mem_cons_of_mem _ hq, by simp [rep, (hObl q hq).2]⟩
    obtain ⟨gO, Yo, ρ', h', hcase, ag, hlen, hra', hrw, hyo, ha⟩ := hJ4
    have hlend : ∀ {Ob' : List (Nat × Obj)} {W5 : World}, MG G Ob' Yo gO ρ' h' W5 → (∀ q ∈ Ob', q ∈ Ob1) → W5.heap[pl.b]? = W4.heap[pl.b]? → W4.heap.size ≤ W5.heap.size → l < W4.heap.size → MG G Ob' Yo gO ρ' (putH h' kc (.cells true [.int .i64 (c0 + (i : Nat))])) W5 := fun hM5 hob hbk hs5 hl4 =>
      hM5.lend (Nat.lt_of_lt_of_le hkl hlen) ((ag kc hkl).trans hρk) hnil (hat4.block hbk) (by omega) hpown (fun hy => (hyo _ hy).1 hBp) (fun q hq e => hObp q (hob q hq) e.symm) fun k c hc _ hR => hkeepP hM5 ag hra' hrw k c hc hR
    have hlp : pl.b ≠ l := by omega
    rcases hgh with ⟨hi, rfl⟩ | ⟨hi, rfl⟩
    · obtain ⟨hI, hMG⟩ := hcase
      have hlW := (hMG.ob _ (List.mem_cons_self ..)).1
      simp only at hlW
      refine ⟨none, _, by have := run_endLoop (P := P.p) hlW (by rw [hrecdef]; simp); rw [hrecdef] at this; exact this, ?_⟩
      have hM5 := (hMG.put hG rfl (.loop { rec .ready none with state := .exhausted }) (List.mem_cons_self ..) (.inr hls0)).sub (hsub _ _)
      rw [hrecdef] at hM5
      exact ⟨gO, Yo, Ob1, Dn ++ Ds, ρ', t, _, hdone i gO h' hi hI, hlend hM5 (fun _ h => h) (World.putObj_heap_other hlp) (by rw [World.putObj_size]; exact Nat.le_refl _) (heap_lt hlW), okS_mono (by rw [putH_length]; exact hlen) hok, fun q hq => List.mem_append.2 (.inr hq), hDD, hact ρ' ag⟩
    · obtain ⟨e, c, hIx, hle, hMG⟩ := hcase
      have hlW := (hMG.ob _ (List.mem_cons_self ..)).1
      simp only at hlW
      refine ⟨some c, _, by have := run_endLoop (P := P.p) hlW (by rw [hrecdef]; simp); rw [hrecdef] at this; exact this, ?_⟩
      have hM5 := (hMG.put hG rfl (.loop { rec .done (some c) with state := .exhausted }) (List.mem_cons_self ..) (.inr hls0)).sub (hsub _ _)
      rw [hrecdef] at hM5
      have hE := hstop i gO e h' hi hIx
      simp only
      rw [hact ρ' ag]
      cases e with
      | ret =>
        obtain rfl : Code.ret = c := by simpa [leaves] using hle
        exact wpIn_ret ⟨gO, Yo, Ob1, Dn ++ Ds, ρ', t, _, hE, hlend hM5 (fun _ h => h) (World.putObj_heap_other hlp) (by rw [World.putObj_size]; exact Nat.le_refl _) (heap_lt hlW), okS_mono (by rw [putH_length]; exact hlen) hok, fun q hq => List.mem_append.2 (.inr hq), hDD, rfl⟩
      | exit id =>
        obtain rfl : Code.exit id = c := by simpa [leaves] using hle
        exact wpIn_exit ⟨gO, Yo, Ob1, Dn ++ Ds, ρ', t, _, hE, hlend hM5 (fun _ h => h) (World.putObj_heap_other hlp) (by rw [World.putObj_size]; exact Nat.le_refl _) (heap_lt hlW), okS_mono (by rw [putH_length]; exact hlen) hok, fun q hq => List.mem_append.2 (.inr hq), hDD, rfl⟩
      | normal => simp [leaves] at hle
      | goto id => simp [leaves] at hle
      | panic c => simp [leaves] at hle
      | outgrown => simp [leaves] at hle
end
end Go.Sx
