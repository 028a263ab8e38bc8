/- Pieces of bytes: rows, arrays, empty slices of whatever address. No condition. -/
import Derived.Test.YtloinbebkhcndaaSxw
import Derived.Test.YtloinbebkhcndaaSxy
set_option linter.all false
namespace Go.Sx
open Go.RowKit

/-- Bytes that a slice shows: a row; an array; an empty slice of whatever address. -/
inductive Pc where
  | row (len : Nat) (B : Nat → BitVec 8)
  | arr (n : Nat) (B : Nat → BitVec 8)
  | nil (a : Option Addr) (c : Nat)

def Pc.sv : Pc → Nat → SV
  | .row len _, k => .osl k 0 0 1 len
  | .arr n _, k => .sl k 0 0 1 n n
  | .nil a c, _ => .v (.slice a 0 c)
def Pc.ch : Pc → Chunk
  | .row len B => .row false len 1 fun i => .int .u8 (nat (B i))
  | .arr n B => .cells false [.fam n 1 fun i => .int .u8 (nat (B i))]
  | .nil _ _ => .row false 0 1 fun _ => .int .u8 0
def Pc.len : Pc → Nat
  | .row len _ => len
  | .arr n _ => n
  | .nil _ _ => 0
def Pc.fn : Pc → Nat → BitVec 8
  | .row _ B => B
  | .arr _ B => B
  | .nil _ _ => fun _ => 0
def Pc.svO (p : Pc) : Option Nat → SV
  | some k => p.sv k
  | none => rnm (fun _ => none) (p.sv 0)

theorem Pc.svO_some (p : Pc) (k : Nat) : p.svO (some k) = p.sv k := rfl
theorem Pc.rnm_sv (p : Pc) (g : Nat → Option Nat) (k : Nat) : rnm g (p.sv k) = p.svO (g k) := by
  cases h : g k <;> cases p <;> simp [Pc.svO, Pc.sv, rnm, h]
theorem Pc.sz_sv (p : Pc) (k : Nat) : sz (p.sv k) = 1 := by cases p <;> rfl
theorem Pc.stor_sv (p : Pc) (k : Nat) : stor (p.sv k) = True := by cases p <;> simp [Pc.sv, stor, Value.oneCell']
theorem Pc.ok_sv (p : Pc) {n k : Nat} (h : k < n) : ok n (p.sv k) = True := by cases p <;> simp [Pc.sv, ok, h]
theorem Pc.chEq_ch (p : Pc) (g : Nat → Option Nat) : chEq g p.ch p.ch = True := by
  cases p <;> simp [Pc.ch, chEq, eqvL, eqv, rnmL, rnm]
theorem Pc.good_ch (p : Pc) (n : Nat) : p.ch.good n = True := by
  cases p <;> simp [Pc.ch, Chunk.good, ok, okL, sz, stor, storL]
theorem Pc.rnmC_ch (p : Pc) (g : Nat → Option Nat) : rnmC g p.ch = p.ch := by
  cases p <;> simp [Pc.ch, rnmC, rnmL, rnm]
theorem Pc.eqv_sv (p : Pc) (k : Nat) : eqv (p.sv k) (p.sv k) = True := by simp [eqv_refl]
theorem Pc.chEq_arr (g : Nat → Option Nat) (wr : Bool) (n : Nat) (B : Nat → BitVec 8) : chEq g (.cells wr [.fam n 1 fun i => .int .u8 (nat (B i))]) (Pc.arr n B).ch = True := by
  cases wr <;> simp [Pc.ch, chEq, eqvL, eqv, rnmL, rnm]
theorem Pc.len_arr (n : Nat) (B : Nat → BitVec 8) : (Pc.arr n B).len = n := rfl
theorem Pc.wr_ch (p : Pc) : p.ch.wr = false := by cases p <;> rfl
theorem Pc.live_ch (p : Pc) : p.ch.live = true := by cases p <;> rfl

/-! ### By constructors, so that what is opaque stays whole -/
section
variable {g : Nat → Option Nat} {c : Chunk} {wr wr' : Bool} {fs fs' : List SV} {n n' s s' : Nat} {f f' : Nat → SV} {m m' : Nat} {key val key' val' : Nat → SV} {born born' : Nat → Nat} {clock clock' : Nat}
theorem chEq_0 : chEq g c .none = True := rfl
theorem chEq_1 : chEq g (.cells wr fs) (.cells wr' fs') = ((wr' = true → wr = true) ∧ eqvL fs (rnmL g fs')) := rfl
theorem chEq_2 : chEq g (.row wr n s f) (.row wr' n' s' f') = ((wr' = true → wr = true) ∧ n = n' ∧ s = s' ∧ ∀ i, i < n' → eqv (f i) (rnm g (f' i))) := rfl
theorem chEq_3 : chEq g (.map m key val born clock) (.map m' key' val' born' clock') = (m = m' ∧ clock = clock' ∧ ∀ i, i < m' → eqv (key i) (rnm g (key' i)) ∧ eqv (val i) (rnm g (val' i)) ∧ born i = born' i) := rfl
theorem live_0 : Chunk.none.live = false := rfl
theorem live_1 : (Chunk.cells wr fs).live = true := rfl
theorem live_2 : (Chunk.row wr n s f).live = true := rfl
theorem live_3 : (Chunk.map m key val born clock).live = true := rfl
theorem wr_0 : Chunk.none.wr = false := rfl
theorem wr_1 : (Chunk.cells wr fs).wr = wr := rfl
theorem wr_2 : (Chunk.row wr n s f).wr = wr := rfl
theorem wr_3 : (Chunk.map m key val born clock).wr = true := rfl
theorem good_0 : Chunk.none.good n = True := rfl
theorem good_1 : (Chunk.cells wr fs).good n = (okL n fs ∧ storL fs) := rfl
theorem good_2 : (Chunk.row wr m s f).good n = (ok n (.fam m s f) ∧ stor (.fam m s f)) := rfl
theorem good_3 : (Chunk.map m key val born clock).good n = ∀ i, i < m → ok n (key i) ∧ ok n (val i) := rfl
theorem rnmC_0 : rnmC g .none = .none := rfl
theorem rnmC_1 : rnmC g (.cells wr fs) = .cells wr (rnmL g fs) := rfl
theorem rnmC_2 : rnmC g (.row wr n s f) = .row wr n s fun i => rnm g (f i) := rfl
theorem rnmC_3 : rnmC g (.map m key val born clock) = .map m (fun i => rnm g (key i)) (fun i => rnm g (val i)) born clock := rfl
end

theorem parts_agg (l : List SV) : parts (.agg l) = l := rfl
theorem parts_v (x : Value) : parts (.v x) = [.v x] := rfl
theorem parts_int (k : IntKind) (n : Int) : parts (.int k n) = [.int k n] := rfl
theorem parts_bool (b : Bool) : parts (.bool b) = [.bool b] := rfl
theorem parts_str (b : ByteArray) : parts (.str b) = [.str b] := rfl
theorem parts_ptr (k b : Nat) : parts (.ptr k b) = [.ptr k b] := rfl
theorem parts_pix (k b i s j : Nat) : parts (.pix k b i s j) = [.pix k b i s j] := rfl
theorem parts_sl (k b e s l c : Nat) : parts (.sl k b e s l c) = [.sl k b e s l c] := rfl
theorem parts_osl (k d e s n : Nat) : parts (.osl k d e s n) = [.osl k d e s n] := rfl
theorem parts_fam (n s : Nat) (f : Nat → SV) : parts (.fam n s f) = [.fam n s f] := rfl
theorem parts_tup (l : List SV) : parts (.tup l) = [.tup l] := rfl
theorem parts_fn (f : Fn) (a c : List SV) : parts (.fn f a c) = [.fn f a c] := rfl
theorem parts_mp (k : Nat) : parts (.mp k) = [.mp k] := rfl
theorem single_agg (l : List SV) : single (.agg l) = false := rfl
theorem single_v (x : Value) : single (.v x) = true := rfl
theorem single_int (k : IntKind) (n : Int) : single (.int k n) = true := rfl
theorem single_bool (b : Bool) : single (.bool b) = true := rfl
theorem single_str (b : ByteArray) : single (.str b) = true := rfl
theorem single_ptr (k b : Nat) : single (.ptr k b) = true := rfl
theorem single_pix (k b i s j : Nat) : single (.pix k b i s j) = true := rfl
theorem single_sl (k b e s l c : Nat) : single (.sl k b e s l c) = true := rfl
theorem single_osl (k d e s n : Nat) : single (.osl k d e s n) = true := rfl
theorem single_fam (n s : Nat) (f : Nat → SV) : single (.fam n s f) = false := rfl
theorem single_tup (l : List SV) : single (.tup l) = false := rfl
theorem single_fn (f : Fn) (a c : List SV) : single (.fn f a c) = true := rfl
theorem single_mp (k : Nat) : single (.mp k) = true := rfl
theorem Pc.parts_sv (p : Pc) (k : Nat) : parts (p.sv k) = [p.sv k] := by cases p <;> rfl
theorem Pc.single_sv (p : Pc) (k : Nat) : single (p.sv k) = true := by cases p <;> rfl
theorem cst1 : ((1 : Nat) : Int) = 1 := rfl
theorem cst2 : ((2 : Nat) : Int) = 2 := rfl
theorem cst32 : ((32 : Nat) : Int) = 32 := rfl
theorem cst0 : ((0 : Nat) : Int) = 0 := rfl
theorem inc0 : IntKind.i64.wrap (0 + 1) = 1 := by decide
theorem inc1 : IntKind.i64.wrap (1 + 1) = 2 := by decide

variable {P : Pr}
/-- A result and a heap said in other words. -/
theorem callP_into {f : FuncId} {args : List SV} {h : List Chunk} {K K' : Tok → SV → List Chunk → Prop} (hc : callP P f args h K') (hk : ∀ v h', K' .mk v h' → IntoR h.length v h' fun k v'' h'' => K k v'' h'' ∧ (v = .tup [] → v'' = .tup [])) : callP P f args h K := by
  intro C ρ w hkn hM hok
  let C' : Ctx := ⟨C.w0, C.X, ρ, h.length⟩
  have hM' : Models C' ρ h w := ⟨hM.keep, fun _ _ => rfl, Nat.le_refl _, hM.holds, hM.okc, hM.size, hM.wr, hM.sep⟩
  have fin : ∀ ρ' sv h' w', K' .mk sv h' → Models C' ρ' h' w' → ok h'.length sv →
      ∃ ρ'' v'' h'', den ρ' sv = den ρ'' v'' ∧ (K .mk v'' h'' ∧ (sv = .tup [] → v'' = .tup [])) ∧ Models C ρ'' h'' w' ∧ Agree h.length ρ ρ'' ∧ ok h''.length v'' ∧ h.length ≤ h''.length := by
    intro ρ' sv h' w' q1 q2 q3
    obtain ⟨ρ3, v3, h3, a1, a2, a3, a4, a5⟩ := hk sv h' q1 C' ρ' w' (Nat.le_refl _) q2 q3
    exact ⟨ρ3, v3, h3, a4, a1, ⟨a2.keep, fun k hk => (a2.agree k (Nat.lt_of_lt_of_le hk hM.len)).trans (hM.agree k hk), Nat.le_trans hM.len a5, a2.holds, a2.okc, a2.size, a2.wr, a2.sep⟩, a2.agree, a3, a5⟩
  rcases hc C' ρ w hkn hM' hok with ⟨w', ρ', sv, h', h1, h2, h3, h4, h5, h6⟩ | ⟨h1, h2⟩
  · obtain ⟨ρ'', v'', h'', e1, e2, e3, e4, e5, e6⟩ := fin ρ' sv h' w' h2 h3 h5
    refine .inl ⟨w', ρ'', v'', h'', ?_, e2.1, e3, e4, e5, e6⟩
    rcases h1 with h1 | ⟨h1, rfl⟩
    · exact .inl (by rw [h1, e1])
    · exact .inr ⟨h1, e2.2 rfl⟩
  · refine .inr ⟨h1, fun F n hF hro => CallsIn.mono (h2 F n hF hro) ?_⟩
    rintro e w' ⟨ρ', sv, h', rfl, q2, q3, q4, q5, q6⟩
    obtain ⟨ρ'', v'', h'', e1, e2, e3, e4, e5, e6⟩ := fin ρ' sv h' w' q2 q3 q5
    exact ⟨ρ'', v'', h'', by rw [e1], e2.1, e3, e4, e5, e6⟩

/-- What is known of rows of bytes that came in. -/
def rowsKnow (n : Nat) (V : Nat → Value) (Q : Nat → Pc) (w : World) (X : Nat → Prop) : Prop :=
  ∀ i, i < n → ∃ pl : Place, (∀ ρ k, ρ k = pl → V i = den ρ ((Q i).sv k) ∧ Holds ρ w k (Q i).ch) ∧ (pl.nil = false → pl.b < w.heap.size) ∧ (pl.nil = false → ¬ X pl.b)
/-- The rules in one. -/
def pcB := And.intro @Pc.rnm_sv (And.intro @Pc.svO_some (And.intro @Pc.sz_sv (And.intro @Pc.stor_sv (And.intro @Pc.ok_sv (And.intro @Pc.chEq_ch (And.intro @Pc.good_ch (And.intro @Pc.rnmC_ch (And.intro @Pc.wr_ch (@Pc.live_ch)))))))))
def psB := And.intro @parts_agg (And.intro @parts_v (And.intro @parts_int (And.intro @parts_bool (And.intro @parts_str (And.intro @parts_ptr (And.intro @parts_pix (And.intro @parts_sl (And.intro @parts_osl (And.intro @parts_fam (And.intro @parts_tup (And.intro @parts_fn (And.intro @parts_mp (And.intro @Pc.parts_sv (And.intro @single_agg (And.intro @single_v (And.intro @single_int (And.intro @single_bool (And.intro @single_str (And.intro @single_ptr (And.intro @single_pix (And.intro @single_sl (And.intro @single_osl (And.intro @single_fam (And.intro @single_tup (And.intro @single_fn (And.intro @single_mp (@Pc.single_sv)))))))))))))))))))))))))))
def csB := And.intro @cst0 (And.intro @cst1 (And.intro @cst2 (And.intro @cst32 (And.intro @inc0 (@inc1)))))
def chB := And.intro @chEq_0 (And.intro @chEq_1 (And.intro @chEq_2 (@chEq_3)))
def lvB := And.intro @live_0 (And.intro @live_1 (And.intro @live_2 (@live_3)))
def gdB := And.intro @good_0 (And.intro @good_1 (And.intro @good_2 (@good_3)))
def wrB := And.intro @wr_0 (And.intro @wr_1 (And.intro @wr_2 (@wr_3)))
def rcB := And.intro @rnmC_0 (And.intro @rnmC_1 (And.intro @rnmC_2 (@rnmC_3)))
end Go.Sx

namespace Go.Sx
open Go.RowKit Go.WideShapes Go.ChangeShapes

theorem rowsKnow_keep {n : Nat} {V : Nat → Value} {Q : Nat → Pc} {w0 w : World} {X Y : Nat → Prop} (h : rowsKnow n V Q w0 X) (hk : Keep X w0 w) (hY : ∀ b, Y b → X b ∨ w0.heap.size ≤ b) : rowsKnow n V Q w Y := fun i hi => by
  obtain ⟨pl, h1, h2, h3⟩ := h i hi
  refine ⟨pl, fun ρ k hρ => ⟨(h1 ρ k hρ).1, holds_block (fun hn => ?_) (h1 ρ k hρ).2⟩, fun hn => Nat.lt_of_lt_of_le (h2 hn) hk.size, fun hn hy => ?_⟩
  · rw [hρ] at hn ⊢
    exact hk.block _ (h2 hn) (h3 hn)
  · rcases hY _ hy with h4 | h4
    · exact h3 hn h4
    · have := h2 hn
      omega

/-- The program, where rows of bytes that came in are known. -/
@[reducible] def rk (P : Program) (n : Nat) (V : Nat → Value) (Q : Nat → Pc) : Pr := ⟨P, rowsKnow n V Q, fun h hk hY => rowsKnow_keep h hk hY⟩

theorem rowsKnow_len {n : Nat} {V : Nat → Value} {Q : Nat → Pc} {w : World} {X : Nat → Prop} (h : rowsKnow n V Q w X) {i : Nat} (hi : i < n) : ∃ a c, V i = .slice a (Q i).len c := by
  obtain ⟨pl, h1, _⟩ := h i hi
  have h2 := (h1 (fun _ => pl) 0 rfl).1
  cases hq : Q i with
  | row len B => rw [hq] at h2; simp only [Pc.sv, den] at h2; exact ⟨_, _, h2⟩
  | arr len B => rw [hq] at h2; simp only [Pc.sv, den] at h2; exact ⟨_, _, h2⟩
  | nil a c => rw [hq] at h2; simp only [Pc.sv, den] at h2; exact ⟨_, _, h2⟩

theorem Models.focusC {C : Ctx} {ρ : Env} {H : List Chunk} {w : World} (hM : Models C ρ H w) {pl : Place} {c : Chunk} (hw : c.wr = false) (hX : pl.nil = false → ¬ C.X pl.b) (hlt : pl.nil = false → pl.b < C.w0.heap.size)
    (hh : ∀ ρ k, ρ k = pl → Holds ρ C.w0 k c) (hg : c.good 0) : Models C (upd ρ H.length pl) (H ++ [c]) w := by
  have ha := agree_upd ρ H.length pl
  have hg1 : Chunk.good (H.length + 1) c := good_mono (Nat.zero_le _) hg
  refine ⟨hM.keep, fun k hk => (ha k (Nat.lt_of_lt_of_le hk hM.len)).trans (hM.agree k hk), by have := hM.len; simp; omega, ?_, ?_, ?_, ?_, ?_⟩
  · intro k c hc
    rcases append_get hc with h1 | ⟨rfl, rfl⟩
    · exact holds_agree ha (get_lt h1) (hM.okc k c h1) (hM.holds k c h1)
    · have h2 := hh (upd ρ H.length pl) H.length (upd_self _ _ _)
      refine holds_block (fun hn => ?_) h2
      rw [upd_self] at hn ⊢
      exact hM.keep.block _ (hlt hn) (hX hn)
  · intro k c hc
    rcases append_get hc with h1 | ⟨rfl, rfl⟩
    · exact good_mono (by simp) (hM.okc k c h1)
    · simpa using hg1
  · intro k c hc hr
    rcases append_get hc with h1 | ⟨rfl, rfl⟩
    · rw [ha k (get_lt h1)]; exact hM.size k c h1 (real_agree ha (get_lt h1) hr)
    · have hn := hr.2
      rw [upd_self] at hn ⊢
      exact Nat.lt_of_lt_of_le (hlt hn) hM.keep.size
  · intro k c hc hr
    rcases append_get hc with h1 | ⟨rfl, rfl⟩
    · rw [ha k (get_lt h1)]; exact hM.wr k c h1 (realW_agree ha (get_lt h1) hr)
    · exact absurd hr.1 (by simp [hw])
  · intro k k' c1 c2 h1 h2 hne hw1 hl
    rcases append_get h1 with q1 | ⟨rfl, rfl⟩
    · rcases append_get h2 with q2 | ⟨rfl, rfl⟩
      · rw [ha k (get_lt q1), ha k' (get_lt q2)]; exact hM.sep k k' c1 c2 q1 q2 hne (realW_agree ha (get_lt q1) hw1) (real_agree ha (get_lt q2) hl)
      · have hn := hl.2
        rw [upd_self] at hn
        rw [ha k (get_lt q1), upd_self]
        intro e
        have h3 := (hM.wr k c1 q1 (realW_agree ha (get_lt q1) hw1)).resolve_left (by rw [e]; exact hX hn)
        have h4 := hlt hn
        omega
    · exact absurd hw1.1 (by simp [hw])

/-- The row that a slot holds gets a name. -/
theorem focusPc {n : Nat} {V : Nat → Value} {Q : Nat → Pc} {C : Ctx} {t : Slots} {h : List Chunk} {J : Tok → St → Prop} (hkn : rowsKnow n V Q C.w0 C.X) (i k : Nat) (hk : k < n) (hi : i < t.n) (hx : slot t i = .v (V k))
    (hJ : J .mk ⟨⟨t.n, (i, (Q k).sv h.length) :: t.l, t.j⟩, h ++ [(Q k).ch], []⟩) : IntoA C ⟨t, h, []⟩ J := by
  intro ρ w hM hok
  obtain ⟨pl, h1, h2, h3⟩ := hkn k hk
  have ha := agree_upd ρ h.length pl
  refine ⟨upd ρ h.length pl, _, hJ, hM.focusC (Pc.wr_ch _) h3 h2 (fun ρ k hk => (h1 ρ k hk).2) (by rw [Pc.good_ch]; trivial), ?_, ?_⟩
  · have h1 := okS_mono (show h.length ≤ (h ++ [(Q k).ch]).length by simp) hok
    have h2 := okS_put (d := i) (v := (Q k).sv h.length) h1 (by rw [Pc.ok_sv _ (by simp)]; trivial)
    unfold putS at h2
    rw [if_pos hi] at h2
    exact h2
  · simp only [act]
    congr 1
    congr 1
    unfold tmpsD
    apply List.map_congr_left
    intro j hj
    rw [List.mem_range] at hj
    show den ρ (slot t j) = den (upd ρ h.length pl) (lkL ((i, (Q k).sv h.length) :: t.l) t.j j)
    simp only [lkL]
    split
    · rename_i e
      rw [← e, hx]
      exact (h1 (upd ρ h.length pl) h.length (upd_self _ _ _)).1
    · exact (den_agree ha _ (ok_slot t j hok)).symm

/-- The start, where what came in may be read only. -/
theorem models_ro {ρ : Env} {W : World} {H : List Chunk} (hh : ∀ k c, H[k]? = some c → c.wr = false ∧ Holds ρ W k c ∧ c.good H.length ∧ ((ρ k).nil = false → (ρ k).b < W.heap.size)) : Models (Ctx.start W ρ H.length) ρ H W where
  keep := Keep.refl _ _
  agree := fun _ _ => rfl
  len := Nat.le_refl _
  holds := fun k c h => (hh k c h).2.1
  okc := fun k c h => (hh k c h).2.2.1
  size := fun k c h hr => (hh k c h).2.2.2 hr.2
  wr := fun k c h hr => absurd hr.1 (by simp [(hh k c h).1])
  sep := fun k k' c c' h h' hne hr _ => absurd hr.1 (by simp [(hh k c h).1])

theorem calls_of_callPK {P : Pr} {f : FuncId} {fn : Func} {c : Code} (hf : P.p.funcs[f]? = some fn) (hname : (fn.name == "runtime.NumGoroutine") = false) (hb : fn.body = some c) {args : List SV} {h : List Chunk} {ρ : Env} {w : World} {b : Bool}
    (hkn : P.know w fun _ => False) (hM : Models (Ctx.start w ρ h.length) ρ h w) (ha : okL h.length args) (hc : callP P f args h fun _ v _ => v = .bool b) :
    Calls P.p f (denL ρ args).toArray w fun e w' => e = .returned (.bool b) ∧ Below w.heap.size w w' := by
  have h1 : fn.name ≠ "runtime.NumGoroutine" := by simpa using hname
  rcases hc _ ρ w hkn hM ha with ⟨w', ρ', sv, h', hr, _⟩ | ⟨_, h2⟩
  · simp [callFunc, hf, h1, hb] at hr
  · refine callsIn_wide.1 ((h2 Fence.wide 0 ⟨fun _ => trivial, rfl⟩ rfl).mono fun e w' => ?_)
    rintro ⟨ρ', sv, h', rfl, rfl, hM', _⟩
    exact ⟨rfl, hM'.keep.os, hM'.keep.tape, hM'.keep.output, hM'.keep.size, fun k hk => hM'.keep.block k hk fun h => h⟩

/-- Rows opened are rows known. -/
theorem rowsKnow_of_brow {W : World} {n : Nat} {V : Nat → Value} {len : Nat → Nat} {B : Nat → Nat → BitVec 8} (h : ∀ i, i < n → BRow W (V i) (len i) (B i)) : ∃ Q : Nat → Pc, rowsKnow n V Q W (fun _ => False) := by
  have key : ∀ i, i < n → ∃ q : Pc, ∃ pl : Place, (∀ ρ k, ρ k = pl → V i = den ρ (q.sv k) ∧ Holds ρ W k q.ch) ∧ (pl.nil = false → pl.b < W.heap.size) := fun i hi => by
    rcases h i hi with ⟨pl, h1, h2⟩ | ⟨h0, a, c, hv⟩
    · exact ⟨.row (len i) (B i), pl, h1, h2⟩
    · exact ⟨.nil a c, ⟨0, 0, 0, true⟩, fun ρ k hk => ⟨by rw [hv]; rfl, by simp [Pc.ch, Holds, hk]⟩, by simp⟩
  haveI : Inhabited Pc := ⟨.nil none 0⟩
  obtain ⟨Q, hQ⟩ := Go.Deep.choose_lt key
  exact ⟨Q, fun i hi => by obtain ⟨pl, h1, h2⟩ := hQ i hi; exact ⟨pl, h1, h2, fun _ h => h⟩⟩
end Go.Sx
