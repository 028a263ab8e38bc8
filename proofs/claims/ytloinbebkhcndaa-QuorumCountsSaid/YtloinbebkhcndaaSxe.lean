/- Addresses, parts of values, slices, conversions, symbolically; that the model says the same. No condition. -/
import Derived.Test.YtloinbebkhcndaaSxd
set_option linter.all false
namespace Go.Sx
open Go.RowKit

def nthT : List (Nat × TypeId) → Nat → Option (Nat × TypeId)
  | [], _ => none
  | x :: _, 0 => some x
  | _ :: l, n + 1 => nthT l n
theorem nthT_eq : ∀ (l : List (Nat × TypeId)) (n : Nat), nthT l n = l[n]?
  | [], n => by simp [nthT]
  | x :: l, 0 => rfl
  | x :: l, n + 1 => by simpa [nthT] using nthT_eq l n

def fldA (tab : Tab) (s : TypeId) (x : SV) (f : Nat) : Option (Prop × SV) :=
  match tab s with
  | some ⟨.struct l, _, _, _, _⟩ => match nthT l f with
    | some (off, ty) => match tab ty with
      | some e => match x with
        | .ptr nm b => some (e.size ≠ 0, .ptr nm (b + off))
        | .pix nm b i s j => some (e.size ≠ 0, .pix nm b i s (j + off))
        | _ => none
      | none => none
    | none => none
  | _ => none

def idxA (tab : Tab) (h : List Chunk) (t : TypeId) (x ix : SV) : Option (Prop × SV) :=
  match ix with
  | .int _ i => match tab t with
    | some ⟨.arr n el, _, _, _, _⟩ => match tab el with
      | some e => match x with
        | .ptr nm b => some (0 ≤ i ∧ i < (n : Int), .pix nm b i.toNat e.size 0)
        | _ => none
      | none => none
    | some ⟨.slice el, _, _, _, _⟩ => match tab el with
      | some e => match x with
        | .sl nm b e0 s len _ => some (s = e.size ∧ 0 ≤ i ∧ i < (len : Int), .pix nm b (e0 + i.toNat) s 0)
        | .osl nm _ e0 s m => match lookH h nm with
          | .row _ n' s' _ => some (s = e.size ∧ 0 ≤ i ∧ i < (m : Int) ∧ e0 + m ≤ n', .pix nm 0 (e0 + i.toNat) s 0)
          | _ => none
        | .v (.slice (some a) len _) => some (0 ≤ i ∧ i < (len : Int), .v (.pointer (some (a.add (i.toNat * e.size)))))
        | _ => none
      | none => none
    | _ => none
  | _ => none

def oslN : SV → List Nat
  | .osl nm .. => [nm]
  | _ => []

def byteAt (s : ByteArray) (j : Nat) : Int := ((s.data.toList.getD j 0).toNat : Int)

def idxS (tab : Tab) (t : TypeId) (x ix : SV) : Option (Prop × SV) :=
  match ix with
  | .int _ i => match tab t with
    | some ⟨.str, _, _, _, _⟩ => match x with
      | .str s => some (0 ≤ i ∧ i < (s.size : Int), .int .u8 (byteAt s i.toNat))
      | _ => none
    | some ⟨.arr n el, _, _, _, _⟩ => match tab el with
      | some e => match x with
        | .fam m s f => match rdF e (parts (f i.toNat)) with
          | some v => some (0 ≤ i ∧ i < (n : Int) ∧ i < (m : Int) ∧ s = e.size, v)
          | none => none
        | .agg l => match takeC (i.toNat * e.size) l with
          | some (_, rest) => match rdF e rest with
            | some v => some (0 ≤ i ∧ i < (n : Int), v)
            | none => none
          | none => none
        | _ => none
      | none => none
    | _ => none
  | _ => none

def fldS (tab : Tab) (t : TypeId) (x : SV) (f : Nat) : Option (Prop × SV) :=
  match tab t with
  | some ⟨.struct l, _, _, _, _⟩ => match nthT l f with
    | some (off, ty) => match tab ty with
      | some e => match x with
        | .agg fs => match takeC off fs with
          | some (_, rest) => match rdF e rest with
            | some v => some (storL fs, v)
            | none => none
          | none => none
        | _ => none
      | none => none
    | none => none
  | _ => none

/-- A slice's bound: where it is given a whole number, else what stands for it. -/
def bnd : Option SV → Nat → Option Int
  | none, d => some d
  | some (.int _ i), _ => some i
  | _, _ => none

def slS (tab : Tab) (h : List Chunk) (t : TypeId) (x : SV) (lo hi : Option SV) : Option (Prop × SV) :=
  match tab t with
  | some ⟨.str, _, _, _, _⟩ => match x with
    | .str s => match bnd lo 0, bnd hi s.size with
      | some l, some h => some (0 ≤ l ∧ l ≤ h ∧ h ≤ (s.size : Int), .str (s.extract l.toNat h.toNat))
      | _, _ => none
    | _ => none
  | some ⟨.slice el, _, _, _, _⟩ => match tab el with
    | some e => match x with
      | .sl nm b e0 s len cap => match bnd lo 0, bnd hi len with
        | some l, some h => some (s = e.size ∧ 0 ≤ l ∧ l ≤ h ∧ h ≤ (cap : Int), .sl nm b (if cap = l.toNat then e0 else e0 + l.toNat) s (h.toNat - l.toNat) (cap - l.toNat))
        | _, _ => none
      | .osl nm d0 e0 s m => match lookH h nm with
        | .row _ n' _ _ => match lo with
          | none => match bnd hi m with
            | some h => some (s = e.size ∧ 0 ≤ h ∧ ((e0 + h.toNat : Nat) : Int) ≤ n', .osl nm d0 e0 s h.toNat)
            | none => none
          | some l0 => match bnd (some l0) 0, bnd hi m with
            | some l, some h => some (s = e.size ∧ 0 ≤ l ∧ l ≤ h ∧ ((e0 + h.toNat : Nat) : Int) ≤ n', .osl nm (if l.toNat = 0 then d0 else e0) (e0 + l.toNat) s (h.toNat - l.toNat))
            | _, _ => none
        | _ => none
      | .v (.slice a len cap) => match bnd lo 0, bnd hi len with
        | some l, some h => some (0 ≤ l ∧ l ≤ h ∧ h ≤ (cap : Int), .v (.slice (if cap = l.toNat then a else a.map (·.add (l.toNat * e.size))) (h.toNat - l.toNat) (cap - l.toNat)))
        | _, _ => none
      | _ => none
    | none => none
  | some ⟨.arr n el, _, _, _, _⟩ => match tab el with
    | some e => match x with
      | .ptr nm b => match bnd lo 0, bnd hi n with
        | some l, some h => some (0 ≤ l ∧ l ≤ h ∧ h ≤ (n : Int), .sl nm b (if n = l.toNat then 0 else l.toNat) e.size (h.toNat - l.toNat) (n - l.toNat))
        | _, _ => none
      | _ => none
    | none => none
  | _ => none

def unS (op : UnOp) (x : SV) : Option (Prop × SV) :=
  match op, x with
  | .neg, .int k n => some (True, .int k (k.wrap (0 - n)))
  | .xor, .int k n => some (True, .int k (bits .xor k (if k.signed then -1 else k.max) n))
  | .not, .bool b => some (True, .bool !b)
  | _, _ => none

def convS (tab : Tab) (h : List Chunk) (s d : TypeId) (x : SV) : Option (Prop × SV) :=
  match tab s, tab d with
  | some es, some ed => match ed.d, x with
    | .int k', .int _ n => some (True, .int k' (k'.wrap n))
    | .str, .str s => some (True, .str s)
    | .str, .sl nm b e0 1 len _ => match es.d with
      | .slice el => match tab el with
        | some ⟨.int .u8, _, _, _, _⟩ => match lookH h nm with
          | .cells _ fs => match takeC b fs with
            | some (_, .fam n 1 f :: _) => some (e0 + len ≤ n ∧ ∀ i, i < len → f (e0 + i) = .int .u8 (valI (f (e0 + i))),
                .str ⟨((List.range len).map fun i => UInt8.ofNat (valI (f (e0 + i))).toNat).toArray⟩)
            | _ => none
          | _ => none
        | _ => none
      | _ => none
    | .str, .osl nm _ e0 s len => match es.d with
      | .slice el => match tab el with
        | some ⟨.int .u8, _, _, _, _⟩ => match lookH h nm with
          | .row _ n 1 f => some (s = 1 ∧ e0 + len ≤ n ∧ ∀ i, i < len → f (e0 + i) = .int .u8 (valI (f (e0 + i))),
                .str ⟨((List.range len).map fun i => UInt8.ofNat (valI (f (e0 + i))).toNat).toArray⟩)
          | _ => none
        | _ => none
      | _ => none
    | .str, .v (.slice none _ _) => match es.d with
      | .slice el => match tab el with
        | some ⟨.int .u8, _, _, _, _⟩ => some (True, .str .empty)
        | _ => none
      | _ => none
    | _, _ => none
  | _, _ => none
def convN : SV → List Nat
  | .sl nm .. => [nm]
  | .osl nm .. => [nm]
  | _ => []

def lenS (tab : Tab) (h : List Chunk) (t : TypeId) (x : SV) : Option (Prop × SV) :=
  match tab t with
  | some ⟨.str, _, _, _, _⟩ => match x with
    | .str s => some (True, .int .i64 s.size)
    | _ => none
  | some ⟨.slice _, _, _, _, _⟩ => match x with
    | .sl _ _ _ _ len _ => some (True, .int .i64 len)
    | .osl _ _ _ _ len => some (True, .int .i64 len)
    | .v (.slice _ len _) => some (True, .int .i64 len)
    | _ => none
  | some ⟨.arr n _, _, _, _, _⟩ => some (True, .int .i64 n)
  | some ⟨.map .., _, _, _, _⟩ => match x with
    | .v (.map none) => some (True, .int .i64 0)
    | .mp nm => match lookH h nm with
      | .map n _ _ _ _ => some (True, .int .i64 n)
      | _ => none
    | _ => none
  | _ => none
def lenN : SV → List Nat
  | .mp nm => [nm]
  | _ => []

variable {P : Program}

theorem fldA_run {tab : Tab} (hT : tab.Ok P) {s : TypeId} {x v : SV} {f : Nat} {p : Prop} (h : fldA tab s x f = some (p, v)) (hp : p) (ρ : Env) (w : World) :
    (Instr.fieldAt s (den ρ x) f).run P w = .ok (den ρ v) w ∧ ∀ n, ok n x → ok n v := by
  unfold fldA at h
  split at h
  · rename_i l _ _ _ _ he
    split at h
    · rename_i off ty hn
      split at h
      · rename_i e hty
        obtain ⟨d, hu, hf⟩ := (hT _ _ he).und w
        obtain ⟨fs, rfl, hfs⟩ := hf
        rw [nthT_eq, ← hfs, List.getElem?_map] at hn
        obtain ⟨fld, hfld, hoff⟩ := Option.map_eq_some_iff.1 hn
        simp only [Prod.mk.injEq] at hoff
        have hfa : fs[f]? = some fld := by simpa using hfld
        have hsz := (hT _ _ hty).siz w
        rw [← hoff.2] at hsz
        split at h <;> cases h
        · refine ⟨?_, fun n hx => hx⟩
          simp only [Instr.fieldAt, Sem.run_bind, hu, Result.andThen_ok, hfa, Instr.sureAddr, den, Sem.run_pure, fieldPlace, hsz]
          simp [hp, Addr.add_mid, hoff.1, Nat.add_assoc]
        · refine ⟨?_, fun n hx => hx⟩
          simp only [Instr.fieldAt, Sem.run_bind, hu, Result.andThen_ok, hfa, Instr.sureAddr, den, Sem.run_pure, fieldPlace, hsz]
          simp [hp, Addr.add_mid, hoff.1, Nat.add_assoc]
      · cases h
    · cases h
  · cases h

theorem idxA_run {tab : Tab} (hT : tab.Ok P) {hp' : List Chunk} {t : TypeId} {x ix v : SV} {p : Prop} (h : idxA tab hp' t x ix = some (p, v)) (hp : p) (ρ : Env) (w : World) (hH : ∀ k ∈ oslN x, Holds ρ w k (lookH hp' k)) :
    (Instr.indexAt t (den ρ x) (den ρ ix)).run P w = .ok (den ρ v) w ∧ ∀ n, ok n x → ok n v := by
  unfold idxA at h
  split at h
  · rename_i k i
    split at h
    · rename_i n el _ _ _ _ he
      split at h
      · rename_i e hel
        obtain ⟨d, hu, hf⟩ := (hT _ _ he).und w
        have hsz := (hT _ _ hel).siz w
        simp only [TD.fits] at hf
        subst hf
        split at h <;> cases h
        refine ⟨?_, fun n hx => hx⟩
        simp only [Instr.indexAt, Sem.run_bind, asIntOf, den, Sem.run_pure, Result.andThen_ok, hu, Instr.sureAddr]
        simp [hp.1, hp.2, hsz, Addr.add_mid]
      · cases h
    · rename_i el _ _ _ _ he
      split at h
      · rename_i e hel
        obtain ⟨d, hu, hf⟩ := (hT _ _ he).und w
        have hsz := (hT _ _ hel).siz w
        simp only [TD.fits] at hf
        subst hf
        split at h
        · cases h
          obtain ⟨rfl, h0, h1⟩ := hp
          refine ⟨?_, fun n hx => hx⟩
          simp only [Instr.indexAt, Sem.run_bind, asIntOf, den, Sem.run_pure, Result.andThen_ok, hu]
          simp [h0, h1, hsz, Addr.add_mid, Nat.add_mul, Nat.add_assoc]
        · rename_i nm d0 e0 s m
          split at h <;> cases h
          rename_i wr n' s' f hc
          obtain ⟨rfl, h0, h1, h2⟩ := hp
          have h3 := hH nm (by simp [oslN])
          rw [hc] at h3
          have h4 : n' ≤ (ρ nm).c := h3.nle
          have h5 : (ρ nm).c ≠ e0 := by omega
          have h6 := (h3.some (by omega)).1
          refine ⟨?_, fun n hx => hx⟩
          simp only [Instr.indexAt, Sem.run_bind, asIntOf, den, Sem.run_pure, Result.andThen_ok, hu, h6, cond_false]
          simp [h0, h1, hsz, h5, Addr.add_mid, Nat.add_mul, Nat.add_assoc]
        · cases h
          refine ⟨?_, fun n hx => trivial⟩
          simp only [Instr.indexAt, Sem.run_bind, asIntOf, den, Sem.run_pure, Result.andThen_ok, hu]
          simp [hp.1, hp.2, hsz]
        · cases h
      · cases h
    · cases h
  · cases h

/-- A part of a value, at an offset. -/
theorem part_run' {t : TypeId} {e : Ent} (he : e.Fits P t) {ρ : Env} {n : Nat} (pre : List Value) {rest : List SV} {v : SV} (hok : okL n rest) (hst : storL rest) (h : rdF e rest = some v) (more : List Value) (w : World) :
    (part t (pre ++ denC ρ rest ++ more).toArray pre.length).run P w = .ok (den ρ v) w ∧ ok n v := by
  have hag := he.agg w
  have hsz := he.siz w
  unfold rdF at h
  unfold part
  split at h
  · rename_i hrow
    have key : ∀ (xs c : List SV), takeC e.size rest = some (xs, c) → (Array.extract (pre ++ denC ρ rest ++ more).toArray pre.length (pre.length + e.size)) = (denC ρ xs).toArray ∧ okL n xs := by
      intro xs c hx
      obtain ⟨rfl, hs⟩ := takeC_spec hx
      have h2 := denC_len ρ n xs (okL_append.1 hok).1
      refine ⟨?_, (okL_append.1 hok).1⟩
      rw [List.extract_toArray, denC_append, List.extract_eq_drop_take']
      congr 1
      rw [← hs, ← h2]
      simp [List.append_assoc, List.take_append]
    split at h
    · rename_i x c hx
      cases h
      obtain ⟨h1, h2⟩ := key _ _ hx
      rw [Sem.run_bind, hag, hrow]
      simp only [Result.andThen_ok, if_true, Sem.run_bind, hsz, Sem.run_pure, h1, den_asRow]
      exact ⟨trivial, ok_asRow h2.1⟩
    · rename_i xs c hx _
      cases h
      obtain ⟨h1, h2⟩ := key _ _ (by assumption)
      rw [Sem.run_bind, hag, hrow]
      simp only [Result.andThen_ok, if_true, Sem.run_bind, hsz, Sem.run_pure, h1, den]
      exact ⟨trivial, h2⟩
    · cases h
  · rename_i hrow
    split at h
    · rename_i x r
      split at h <;> cases h
      rename_i hs
      have h1 := den_single ρ hs hst.1
      have h3 : (pre ++ denC ρ (v :: r) ++ more)[pre.length]? = some (den ρ v) := by
        rw [List.append_assoc, List.getElem?_append_right (Nat.le_refl _)]
        simp [denC, h1]
      rw [Sem.run_bind, hag, hrow]
      simp only [Result.andThen_ok, Bool.false_eq_true, if_false]
      simp only [List.getElem?_toArray, h3, Sem.run_pure]
      exact ⟨trivial, hok.1⟩
    · cases h
theorem part_run {t : TypeId} {e : Ent} (he : e.Fits P t) {ρ : Env} {n : Nat} {a rest : List SV} {v : SV} (hok : okL n (a ++ rest)) (hst : storL rest) (h : rdF e rest = some v) (more : List Value) (w : World) :
    (part t ((denC ρ a) ++ denC ρ rest ++ more).toArray (szL a)).run P w = .ok (den ρ v) w ∧ ok n v := by
  have ho := okL_append.1 hok
  rw [← denC_len ρ n a ho.1]
  exact part_run' he (denC ρ a) ho.2 hst h more w

theorem fldS_run {tab : Tab} (hT : tab.Ok P) {t : TypeId} {x v : SV} {f : Nat} {p : Prop} (h : fldS tab t x f = some (p, v)) (hp : p) (ρ : Env) {n : Nat} (hx : ok n x) (w : World) :
    (Instr.field t (den ρ x) f).run P w = .ok (den ρ v) w ∧ ok n v := by
  unfold fldS at h
  split at h
  · rename_i l _ _ _ _ he
    split at h
    · rename_i off ty hn
      split at h
      · rename_i e hty
        split at h
        · rename_i fs
          split at h
          · rename_i a rest ht
            split at h <;> cases h
            rename_i hr
            obtain ⟨d, hu, hf⟩ := (hT _ _ he).und w
            obtain ⟨fa, rfl, hfs⟩ := hf
            rw [nthT_eq, ← hfs, List.getElem?_map] at hn
            obtain ⟨fld, hfld, hoff⟩ := Option.map_eq_some_iff.1 hn
            simp only [Prod.mk.injEq] at hoff
            have hfa : fa[f]? = some fld := by simpa using hfld
            obtain ⟨rfl, hs⟩ := takeC_spec ht
            have hpr := part_run (hT _ _ hty) (ρ := ρ) (a := a) hx (storL_append.1 hp).2 hr [] w
            rw [List.append_nil, ← denC_append] at hpr
            refine ⟨?_, hpr.2⟩
            simp only [Instr.field, Sem.run_bind, hu, Result.andThen_ok, hfa, den, asAgg, Sem.run_pure, hoff.1, hoff.2, ← hs]
            exact hpr.1
          · cases h
        · cases h
      · cases h
    · cases h
  · cases h

theorem fam_part (ρ : Env) {n m s : Nat} {f : Nat → SV} (h : ok n (.fam m s f)) {i : Nat} (hi : i < m) :
    ∃ a c, (List.range m).flatMap (fun i => (den ρ (f i)).cells.toList) = a ++ denC ρ (parts (f i)) ++ c ∧ a.length = i * s := by
  obtain ⟨a, c, h1, h2⟩ := flatMap_range (fun i => (den ρ (f i)).cells.toList) s m (fun k hk => (cells_len ρ n (f k) (h k hk).2).trans (h k hk).1) i hi
  exact ⟨a, c, by rw [h1, denC_parts], h2⟩

theorem idxS_run {tab : Tab} (hT : tab.Ok P) {t : TypeId} {x ix v : SV} {p : Prop} (h : idxS tab t x ix = some (p, v)) (hp : p) (ρ : Env) {n : Nat} (hx : ok n x) (hst : stor x) (w : World) :
    (Instr.index t (den ρ x) (den ρ ix)).run P w = .ok (den ρ v) w ∧ ok n v := by
  unfold idxS at h
  split at h
  · rename_i k i
    split at h
    · rename_i _ _ _ _ he
      obtain ⟨d, hu, hf⟩ := (hT _ _ he).und w
      simp only [TD.fits] at hf
      subst hf
      split at h <;> cases h
      rename_i s
      refine ⟨?_, trivial⟩
      have hlt : i.toNat < s.size := by omega
      simp only [Instr.index, Sem.run_bind, asIntOf, den, Sem.run_pure, Result.andThen_ok, hu]
      rw [if_pos hp.1, getElem?_pos s i.toNat hlt]
      simp only [Sem.run_pure, byteAt]
      have : s.data.toList.getD i.toNat 0 = s[i.toNat] := by
        rw [List.getD_eq_getElem?_getD, List.getElem?_eq_getElem (by simpa using hlt)]
        rfl
      rw [this]
    · rename_i m el _ _ _ _ he
      split at h
      · rename_i e hel
        obtain ⟨d, hu, hf⟩ := (hT _ _ he).und w
        have hsz := (hT _ _ hel).siz w
        simp only [TD.fits] at hf
        subst hf
        split at h
        · rename_i m' s f
          split at h <;> cases h
          rename_i hr
          obtain ⟨h0, h1, h2, rfl⟩ := hp
          have hi : i.toNat < m' := by omega
          obtain ⟨a, c, hac, hal⟩ := fam_part ρ hx hi
          have hpr := part_run' (hT _ _ hel) (ρ := ρ) a (okL_parts (hx i.toNat hi).2) (storL_parts (hst i.toNat hi)) hr c w
          refine ⟨?_, hpr.2⟩
          simp only [Instr.index, Sem.run_bind, asIntOf, den, Sem.run_pure, Result.andThen_ok, hu]
          rw [if_pos ⟨h0, h1⟩]
          simp only [Sem.run_bind, hsz, Result.andThen_ok]
          rw [hac, ← hal]
          exact hpr.1
        · rename_i l
          split at h
          · rename_i a rest ht
            split at h <;> cases h
            rename_i hr
            obtain ⟨rfl, hs⟩ := takeC_spec ht
            have hpr := part_run (hT _ _ hel) (ρ := ρ) (a := a) hx (storL_append.1 hst).2 hr [] w
            rw [List.append_nil, ← denC_append] at hpr
            refine ⟨?_, hpr.2⟩
            simp only [Instr.index, Sem.run_bind, asIntOf, den, Sem.run_pure, Result.andThen_ok, hu]
            rw [if_pos hp]
            simp only [Sem.run_bind, hsz, Result.andThen_ok, ← hs]
            exact hpr.1
          · cases h
        · cases h
      · cases h
    · cases h
  · cases h

theorem unS_run {op : UnOp} {x v : SV} {p : Prop} (h : unS op x = some (p, v)) (ρ : Env) (w : World) :
    (Op.unary op (den ρ x)).run P w = .ok (den ρ v) w ∧ ∀ n, ok n v := by
  unfold unS at h
  split at h <;> cases h <;> exact ⟨rfl, fun _ => trivial⟩

theorem lenS_run {tab : Tab} (hT : tab.Ok P) {h : List Chunk} {t ty : TypeId} {x v : SV} {p : Prop} (hh : lenS tab h t x = some (p, v)) (ρ : Env) (w : World) (hH : ∀ k ∈ lenN x, Holds ρ w k (lookH h k)) :
    (Builtin.len_ #[t] ty #[den ρ x]).run P w = .ok (den ρ v) w ∧ ∀ n, ok n v := by
  unfold lenS at hh
  split at hh
  · rename_i _ _ _ _ he
    obtain ⟨d, hu, hf⟩ := (hT _ _ he).und w
    simp only [TD.fits] at hf
    subst hf
    split at hh <;> cases hh
    exact ⟨by simp [Builtin.len_, hu, den, goInt], fun _ => trivial⟩
  · rename_i el _ _ _ _ he
    obtain ⟨d, hu, hf⟩ := (hT _ _ he).und w
    simp only [TD.fits] at hf
    subst hf
    split at hh <;> cases hh <;> exact ⟨by simp [Builtin.len_, hu, den, goInt], fun _ => trivial⟩
  · rename_i m el _ _ _ _ he
    obtain ⟨d, hu, hf⟩ := (hT _ _ he).und w
    simp only [TD.fits] at hf
    subst hf
    cases hh
    exact ⟨by simp [Builtin.len_, hu, den, goInt], fun _ => trivial⟩
  · rename_i k' el _ _ _ _ he
    obtain ⟨d, hu, hf⟩ := (hT _ _ he).und w
    simp only [TD.fits] at hf
    subst hf
    split at hh
    · cases hh
      exact ⟨by simp [Builtin.len_, hu, den, goInt], fun _ => trivial⟩
    · rename_i nm
      split at hh <;> cases hh
      rename_i m key val born clock hc
      have h1 := hH nm (by simp [lenN])
      rw [hc] at h1
      have h2 : w.heap[(ρ nm).b]? = some (mapObj ρ m key val born clock) := h1.2
      refine ⟨?_, fun _ => trivial⟩
      simp only [Builtin.len_, den]
      simp [hu, getObj, Sem.run, h2, mapObj, goInt]
    · cases hh
  · cases hh

theorem bound_run {k : IntKind} {i : Int} {y : Nat} {c : BoundsCode} (h : 0 ≤ i ∧ i ≤ (y : Int)) (w : World) : (Instr.sliceBound (.int k i) y c).run P w = .ok i.toNat w := by
  simp only [Instr.sliceBound, Sem.run_bind, asIntOf, Sem.run_pure, Result.andThen_ok]
  rw [if_pos h]
  rfl

theorem bnd_inv {x : Option SV} {d : Nat} {i : Int} (h : bnd x d = some i) : (x = none ∧ i = d) ∨ ∃ k, x = some (.int k i) := by
  unfold bnd at h
  split at h
  · cases h; exact .inl ⟨rfl, rfl⟩
  · cases h; exact .inr ⟨_, rfl⟩
  · cases h

theorem bounds_run {b : Bool} {len cap : Nat} {lo hi : Option SV} {l h : Int} (hl : bnd lo 0 = some l) (hh : bnd hi len = some h) (h0 : 0 ≤ l) (h1 : l ≤ h) (h2 : h ≤ (cap : Int)) (hlc : hi = none → len ≤ cap) (ρ : Env) (w : World) :
    (Instr.sliceBounds b len cap (lo.map (den ρ)) (hi.map (den ρ)) none).run P w = .ok (l.toNat, h.toNat, cap) w := by
  unfold Instr.sliceBounds
  rcases bnd_inv hl with ⟨rfl, rfl⟩ | ⟨k, rfl⟩ <;> rcases bnd_inv hh with ⟨rfl, rfl⟩ | ⟨k', rfl⟩ <;> simp only [Option.map_none, Option.map_some, Option.isSome_none, Bool.false_eq_true, if_false, den, Sem.run_bind, Sem.run_pure, Result.andThen_ok]
  · simp
  · rw [bound_run (by omega)]; simp
  · rw [bound_run (by omega)]; simp
  · rw [bound_run (by omega)]; simp only [Result.andThen_ok, Sem.run_bind]; rw [bound_run (by omega)]; simp

theorem slS_run {tab : Tab} (hT : tab.Ok P) {hc' : List Chunk} {t : TypeId} {x v : SV} {lo hi : Option SV} {p : Prop} (h : slS tab hc' t x lo hi = some (p, v)) (hp : p) (ρ : Env) (w : World) (hH : ∀ k ∈ oslN x, Holds ρ w k (lookH hc' k)) :
    (Instr.sliceAt t (den ρ x) (lo.map (den ρ)) (hi.map (den ρ)) none).run P w = .ok (den ρ v) w ∧ ∀ n, ok n x → ok n v := by
  unfold slS at h
  split at h
  · rename_i _ _ _ _ he
    obtain ⟨d, hu, hf⟩ := (hT _ _ he).und w
    simp only [TD.fits] at hf
    subst hf
    split at h
    · rename_i s
      split at h <;> cases h
      rename_i l h' hl hh
      obtain ⟨h0, h1, h2⟩ := hp
      refine ⟨?_, fun n _ => trivial⟩
      simp only [Instr.sliceAt, Sem.run_bind, hu, Result.andThen_ok, Instr.slice, den, Option.isSome_none, Bool.false_eq_true, if_false]
      simp only [Sem.run_bind, Sem.run_pure, Result.andThen_ok]
      rw [bounds_run hl hh h0 h1 h2 (fun _ => Nat.le_refl _) ρ w]
      rfl
    · cases h
  · rename_i el _ _ _ _ he
    split at h
    · rename_i e hel
      obtain ⟨d, hu, hf⟩ := (hT _ _ he).und w
      have hsz := (hT _ _ hel).siz w
      simp only [TD.fits] at hf
      subst hf
      split at h
      · rename_i nm b e0 s len cap
        split at h <;> cases h
        rename_i l h' hl hh
        obtain ⟨rfl, h0, h1, h2⟩ := hp
        refine ⟨?_, fun n hx => hx⟩
        simp only [Instr.sliceAt, Sem.run_bind, hu, Result.andThen_ok, Instr.slice, den]
        rw [bounds_run hl hh h0 h1 h2 (fun hn => by subst hn; simp [bnd] at hh; omega) ρ w]
        simp only [Result.andThen_ok, Sem.run_bind, hsz, Sem.run_pure]
        split
        · rfl
        · simp [Addr.add_mid, Nat.add_mul, Nat.add_assoc]
      · rename_i nm d0 e0 s m
        split at h
        · rename_i wr n' s' f hc
          have h3 := hH nm (by simp [oslN])
          rw [hc] at h3
          have h4 : n' ≤ (ρ nm).c := h3.nle
          split at h
          · split at h <;> cases h
            rename_i h' hh
            obtain ⟨rfl, h0, h1⟩ := hp
            refine ⟨?_, fun n hx => hx⟩
            simp only [Instr.sliceAt, Sem.run_bind, hu, Result.andThen_ok, Instr.slice, den]
            rw [bounds_run (lo := none) (l := 0) (cap := (ρ nm).c - e0) rfl hh (by omega) h0 (by omega) (fun hn => by subst hn; simp [bnd] at hh; omega) ρ w]
            simp only [Result.andThen_ok, Sem.run_bind, hsz, Sem.run_pure]
            cases (ρ nm).nil <;> simp [Addr.add_mid]
          · split at h <;> cases h
            rename_i l h' hl hh
            obtain ⟨rfl, h0, h1, h2⟩ := hp
            refine ⟨?_, fun n hx => hx⟩
            simp only [Instr.sliceAt, Sem.run_bind, hu, Result.andThen_ok, Instr.slice, den]
            rw [bounds_run (cap := (ρ nm).c - e0) hl hh h0 h1 (by omega) (fun hn => by subst hn; simp [bnd] at hh; omega) ρ w]
            simp only [Result.andThen_ok, Sem.run_bind, hsz, Sem.run_pure]
            by_cases hcap : (ρ nm).c - e0 = l.toNat
            · rw [if_pos hcap, if_pos (show (ρ nm).c = e0 + l.toNat by omega)]
              by_cases hl0 : l.toNat = 0
              · rw [if_pos hl0, if_pos (show (ρ nm).c = e0 by omega), Nat.sub_sub]
              · rw [if_neg hl0, if_neg (show ¬ (ρ nm).c = e0 by omega), Nat.sub_sub]
            · rw [if_neg hcap, if_neg (show ¬ (ρ nm).c = e0 + l.toNat by omega), if_neg (show ¬ (ρ nm).c = e0 by omega), Nat.sub_sub]
              cases (ρ nm).nil <;> simp [Addr.add_mid, Nat.add_mul, Nat.add_assoc]
        · cases h
      · rename_i a len cap
        split at h <;> cases h
        rename_i l h' hl hh
        obtain ⟨h0, h1, h2⟩ := hp
        refine ⟨?_, fun n hx => trivial⟩
        simp only [Instr.sliceAt, Sem.run_bind, hu, Result.andThen_ok, Instr.slice, den]
        rw [bounds_run hl hh h0 h1 h2 (fun hn => by subst hn; simp [bnd] at hh; omega) ρ w]
        simp only [Result.andThen_ok, Sem.run_bind, hsz, Sem.run_pure]
      · cases h
    · cases h
  · rename_i m el _ _ _ _ he
    split at h
    · rename_i e hel
      obtain ⟨d, hu, hf⟩ := (hT _ _ he).und w
      have hsz := (hT _ _ hel).siz w
      simp only [TD.fits] at hf
      subst hf
      split at h
      · rename_i nm b
        split at h <;> cases h
        rename_i l h' hl hh
        obtain ⟨h0, h1, h2⟩ := hp
        refine ⟨?_, fun n hx => hx⟩
        simp only [Instr.sliceAt, Sem.run_bind, hu, Result.andThen_ok, Instr.sureAddr, den, Sem.run_pure]
        rw [bounds_run hl hh h0 h1 h2 (fun _ => Nat.le_refl _) ρ w]
        simp only [Result.andThen_ok, Sem.run_bind, hsz, Sem.run_pure]
        split <;> simp [Addr.add_mid, Nat.add_assoc]
      · cases h
    · cases h
  · cases h
end Go.Sx
