/- All operations that only read, in one. No condition. -/
import Derived.Test.YtloinbebkhcndaaSxf
set_option linter.all false
namespace Go.Sx
open Go.RowKit
variable {P : Program}

theorem fam_at {ρ : Env} {w : World} {b o n m s : Nat} {f : Nat → SV} {post : List SV} (hr : w.rangeAt b o (denC ρ (.fam m s f :: post))) (hok : ok n (.fam m s f)) {i : Nat} (hi : i < m) :
    w.rangeAt b (o + i * s) (denC ρ (parts (f i))) := by
  rw [denC, cells_fam, rangeAt_app] at hr
  obtain ⟨a, c, h1, h2⟩ := fam_part ρ hok hi
  have h3 := hr.1
  rw [h1, rangeAt_app, rangeAt_app, h2] at h3
  exact h3.1.2

theorem push_fold : ∀ (ns : List Int) (s : ByteArray), ns.foldl (fun r n => r.push (UInt8.ofNat n.toNat)) s = ⟨s.data ++ (ns.map fun n => UInt8.ofNat n.toNat).toArray⟩
  | [], s => by simp
  | n :: ns, s => by
    simp only [List.foldl_cons, push_fold ns]
    congr 1
    simp [ByteArray.push]

theorem convS_run {tab : Tab} (hT : tab.Ok P) {h : List Chunk} {s d : TypeId} {x v : SV} {p : Prop} (hc : convS tab h s d x = some (p, v)) (hp : p) (ρ : Env) {n : Nat} (w : World)
    (hH : ∀ k ∈ convN x, Holds ρ w k (lookH h k)) (hg : ∀ k, (lookH h k).good n) :
    (convert s d (den ρ x)).run P w = .ok (den ρ v) w ∧ ok n v := by
  unfold convS at hc
  split at hc
  · rename_i es ed hes hed
    obtain ⟨ds, hus, hfs⟩ := (hT _ _ hes).und w
    obtain ⟨dd, hud, hfd⟩ := (hT _ _ hed).und w
    split at hc
    · rename_i k' k m hd
      rw [hd] at hfd
      simp only [TD.fits] at hfd
      subst hfd
      cases hc
      refine ⟨?_, trivial⟩
      simp only [convert, Sem.run_bind, hus, hud, Result.andThen_ok, den, Conv.intToInt]
      cases ds <;> rfl
    · rename_i s' hd
      rw [hd] at hfd
      simp only [TD.fits] at hfd
      subst hfd
      cases hc
      refine ⟨?_, trivial⟩
      simp only [convert, Sem.run_bind, hus, hud, Result.andThen_ok, den]
      cases ds <;> rfl
    · rename_i nm b e0 len cp hd
      split at hc
      · rename_i el hel
        split at hc
        · rename_i _ _ _ _ hu8
          split at hc
          · rename_i wr fs hch
            split at hc
            · rename_i a m f post ht
              cases hc
              obtain ⟨hle, hf⟩ := hp
              rw [hd] at hfd
              rw [hel] at hfs
              simp only [TD.fits] at hfd hfs
              subst hfd hfs
              obtain ⟨d1, hd1, hf1⟩ := (hT _ _ hes).desc
              obtain ⟨d2, hd2, hf2⟩ := (hT _ _ hed).desc
              obtain ⟨d3, hd3, hf3⟩ := (hT _ _ hu8).desc
              rw [hel] at hf1
              rw [hd] at hf2
              simp only [TD.fits] at hf1 hf2 hf3
              subst hf1 hf2 hf3
              refine ⟨?_, trivial⟩
              have h1 := hH nm (by simp [convN])
              have h2 := hg nm
              rw [hch] at h1 h2
              obtain ⟨rfl, hs⟩ := takeC_spec ht
              have hok := okL_append.1 h2.1
              have hrg := h1.2.1
              rw [denC_append, rangeAt_app, denC_len ρ n a hok.1, hs] at hrg
              have hcell : ∀ j, j < len → w.cell? ⟨(ρ nm).b, (ρ nm).o + b + e0 * 1 + j, none⟩ = some (.int .u8 (valI (f (e0 + j)))) := by
                intro j hj
                have := fam_at hrg.2 hok.2.1 (i := e0 + j) (by omega) 0 (.int .u8 (valI (f (e0 + j)))) (by rw [hf j hj]; simp [parts, denC, den, Value.cells, valI])
                rw [← this]
                congr 2
                omega
              have hload : (loadCells ⟨(ρ nm).b, (ρ nm).o + b + e0 * 1, none⟩ len).run P w = .ok (((List.range len).map fun i => valI (f (e0 + i))).map (Value.int .u8)).toArray w := by
                have := run_loadCells_list (P := P) w ⟨(ρ nm).b, (ρ nm).o + b + e0 * 1, none⟩ (((List.range len).map fun i => valI (f (e0 + i))).map (Value.int .u8)) (by
                  intro j v hv
                  rw [Addr.add_mid]
                  simp only [List.getElem?_map, Option.map_map, List.getElem?_range] at hv
                  obtain ⟨k, hk, rfl⟩ := Option.map_eq_some_iff.1 hv
                  have hkj : j < len ∧ k = j := by
                    by_cases hjl : j < len
                    · simp [hjl] at hk; exact ⟨hjl, by omega⟩
                    · simp [hjl] at hk
                  obtain ⟨hjl, rfl⟩ := hkj
                  exact hcell k hjl)
                simpa using this
              simp only [den]
              rw [run_convert_bytes_string w s d el _ _ _ hd1 hd3 hd2, run_bytesToString w _ _ _ _ hload, push_fold]
              rw [show ByteArray.empty.data = #[] from rfl]
              simp [Function.comp_def]
            · cases hc
          · cases hc
        · cases hc
      · cases hc
    · rename_i nm d0 e0 s0 len hd
      split at hc
      · rename_i el hel
        split at hc
        · rename_i _ _ _ _ hu8
          split at hc
          · rename_i wr m f hch
            cases hc
            obtain ⟨rfl, hle, hf⟩ := hp
            rw [hd] at hfd
            rw [hel] at hfs
            simp only [TD.fits] at hfd hfs
            subst hfd hfs
            obtain ⟨d1, hd1, hf1⟩ := (hT _ _ hes).desc
            obtain ⟨d2, hd2, hf2⟩ := (hT _ _ hed).desc
            obtain ⟨d3, hd3, hf3⟩ := (hT _ _ hu8).desc
            rw [hel] at hf1
            rw [hd] at hf2
            simp only [TD.fits] at hf1 hf2 hf3
            subst hf1 hf2 hf3
            refine ⟨?_, trivial⟩
            have h1 := hH nm (by simp [convN])
            have h2 := hg nm
            rw [hch] at h1 h2
            have h4 : m ≤ (ρ nm).c := h1.nle
            cases hnil : (ρ nm).nil with
            | true =>
              have h5 : m = 0 := by
                have := h1
                simp only [Holds] at this
                rw [if_pos hnil] at this
                exact this.1
              have h6 : len = 0 := by omega
              subst h6
              simp only [den, hnil, cond_true]
              rw [run_convert_bytes_string w s d el _ _ _ hd1 hd3 hd2]
              rfl
            | false =>
            have h7 : w.rangeAt (ρ nm).b (ρ nm).o (den ρ (.fam m 1 f)).cells.toList := by
              have := h1
              simp only [Holds] at this
              rw [if_neg (by simp [hnil])] at this
              exact this.1
            have hrg : w.rangeAt (ρ nm).b (ρ nm).o (denC ρ (.fam m 1 f :: [])) := by
              simp only [denC, List.append_nil]
              exact h7
            have hcell : ∀ j, j < len → w.cell? ⟨(ρ nm).b, (ρ nm).o + (if (ρ nm).c = e0 then d0 * 1 else e0 * 1) + j, none⟩ = some (.int .u8 (valI (f (e0 + j)))) := by
              intro j hj
              have := fam_at hrg h2.1 (i := e0 + j) (by omega) 0 (.int .u8 (valI (f (e0 + j)))) (by rw [hf j hj]; simp [parts, denC, den, Value.cells, valI])
              rw [← this, if_neg (by omega)]
              congr 2
              omega
            have hload : (loadCells ⟨(ρ nm).b, (ρ nm).o + (if (ρ nm).c = e0 then d0 * 1 else e0 * 1), none⟩ len).run P w = .ok (((List.range len).map fun i => valI (f (e0 + i))).map (Value.int .u8)).toArray w := by
              have := run_loadCells_list (P := P) w ⟨(ρ nm).b, (ρ nm).o + (if (ρ nm).c = e0 then d0 * 1 else e0 * 1), none⟩ (((List.range len).map fun i => valI (f (e0 + i))).map (Value.int .u8)) (by
                intro j v hv
                rw [Addr.add_mid]
                simp only [List.getElem?_map, Option.map_map, List.getElem?_range] at hv
                obtain ⟨k, hk, rfl⟩ := Option.map_eq_some_iff.1 hv
                have hkj : j < len ∧ k = j := by
                  by_cases hjl : j < len
                  · simp [hjl] at hk; exact ⟨hjl, by omega⟩
                  · simp [hjl] at hk
                obtain ⟨hjl, rfl⟩ := hkj
                exact hcell k hjl)
              simpa using this
            simp only [den, hnil, cond_false]
            rw [run_convert_bytes_string w s d el _ _ _ hd1 hd3 hd2, run_bytesToString w _ _ _ _ hload, push_fold]
            rw [show ByteArray.empty.data = #[] from rfl]
            simp [Function.comp_def]
          · cases hc
        · cases hc
      · cases hc
    · rename_i l0 c0 hd
      split at hc
      · rename_i el hel
        split at hc
        · rename_i _ _ _ _ hu8
          cases hc
          rw [hd] at hfd
          rw [hel] at hfs
          simp only [TD.fits] at hfd hfs
          subst hfd hfs
          obtain ⟨d1, hd1, hf1⟩ := (hT _ _ hes).desc
          obtain ⟨d2, hd2, hf2⟩ := (hT _ _ hed).desc
          obtain ⟨d3, hd3, hf3⟩ := (hT _ _ hu8).desc
          rw [hel] at hf1
          rw [hd] at hf2
          simp only [TD.fits] at hf1 hf2 hf3
          subst hf1 hf2 hf3
          refine ⟨?_, trivial⟩
          simp only [den]
          rw [run_convert_bytes_string w s d el _ _ _ hd1 hd3 hd2]
          rfl
        · cases hc
      · cases hc
    · cases hc
  · cases hc

def pickS : Bool → SV → SV → SV
  | b, .bool x, .bool y => .bool (bif b then x else y)
  | b, .int k x, .int _ y => .int k (bif b then x else y)
  | _, x, _ => x

def minS : SV → SV → Option (Prop × SV)
  | .int k x, .int _ y => some (True, .int k (if y < x then y else x))
  | _, _ => none
def maxS : SV → SV → Option (Prop × SV)
  | .int k x, .int _ y => some (True, .int k (if y > x then y else x))
  | _, _ => none
def capS : SV → Option (Prop × SV)
  | .sl _ _ _ _ _ cap => some (True, .int .i64 cap)
  | .v (.slice _ _ cap) => some (True, .int .i64 cap)
  | _ => none

/-! ### Structs compared -/
def eqF (tab : Tab) (ty : TypeId) (x y : SV) : Option (Prop × Bool) :=
  match tab ty with
  | some e => match e.d with
    | .int k => match x, y with
      | .int k1 a, .int k2 b => some (k1 = k2, a == b)
      | _, _ => none
    | .bool => match x, y with
      | .bool a, .bool b => some (True, a == b)
      | _, _ => none
    | .str => match x, y with
      | .str a, .str b => some (True, a.toList == b.toList)
      | _, _ => none
    | .arr _ _ => match x, y with
      | .fam n s f, .fam n' s' g => arrS tab ty n s n' s' f g
      | _, _ => none
    | _ => none
  | none => none
def eqL (tab : Tab) : List (Nat × TypeId) → Nat → List SV → List SV → Option (Prop × Bool)
  | [], _, _, _ => some (True, true)
  | (o, ty) :: l, off, x :: xs, y :: ys => match tab ty with
    | some e => match rdF e (x :: xs), rdF e (y :: ys), eqL tab l (off + e.size) xs ys with
      | some x', some y', some (q, c) => match eqF tab ty x' y' with
        | some (p, b) => some ((o = off ∧ sz x = e.size ∧ sz y = e.size ∧ p) ∧ q, b && c)
        | none => none
      | _, _, _ => none
    | none => none
  | _, _, _, _ => none
def structS (tab : Tab) (t : TypeId) (xs ys : List SV) : Option (Prop × Bool) :=
  match tab t with
  | some e => match e.d with
    | .struct l => match eqL tab l 0 xs ys with
      | some (p, b) => some (p ∧ storL xs ∧ storL ys, b)
      | none => none
    | _ => none
  | none => none

theorem eqF_run {tab : Tab} (hT : tab.Ok P) {ty : TypeId} {x y : SV} {p : Prop} {b : Bool} (h : eqF tab ty x y = some (p, b)) (hp : p) (ρ : Env) (w : World) (d : Nat) :
    (Op.equalIn (d + 2) ty (den ρ x) (den ρ y)).run P w = .ok b w := by
  unfold eqF at h
  split at h
  · rename_i e he
    obtain ⟨dd, hu, hf⟩ := (hT ty e he).desc
    split at h
    · rename_i k hd
      rw [hd] at hf
      simp only [TD.fits] at hf
      subst hf
      split at h
      · cases h
        subst hp
        exact run_equalIn_int w (d + 1) ty _ _ _ _ hu
      · cases h
    · rename_i hd
      rw [hd] at hf
      simp only [TD.fits] at hf
      subst hf
      split at h
      · cases h
        exact run_equalIn_bool w (d + 1) ty _ _ hu
      · cases h
    · rename_i hd
      rw [hd] at hf
      simp only [TD.fits] at hf
      subst hf
      split at h
      · cases h
        exact run_equalIn_string w (d + 1) ty _ _ hu
      · cases h
    · split at h
      · exact arrS_in hT h hp ρ w d
      · cases h
    · cases h
  · cases h

theorem eqL_run {tab : Tab} (hT : tab.Ok P) (ρ : Env) {n : Nat} (d : Nat) : ∀ (fs : List Field) (pre pre' xs ys : List SV) (off : Nat) {p : Prop} {b : Bool} (_ : eqL tab (fs.map fun f => (f.offset, f.type)) off xs ys = some (p, b)) (_ : p)
    (_ : ∀ f ∈ fs, f.name ≠ "_") (_ : okL n (pre ++ xs)) (_ : okL n (pre' ++ ys)) (_ : storL xs) (_ : storL ys) (_ : szL pre = off) (_ : szL pre' = off) (w : World),
    (Op.eqFields (d + 2) (denC ρ (pre ++ xs)).toArray (denC ρ (pre' ++ ys)).toArray fs).run P w = .ok b w
  | [], _, _, _, _, _, _, _, h, _, _, _, _, _, _, _, _, w => by
    cases h
    simp [Op.eqFields]
  | f :: fs, pre, pre', [], ys, off, _, _, h, _, _, _, _, _, _, _, _, w => by simp [eqL] at h
  | f :: fs, pre, pre', x :: xs, [], off, _, _, h, _, _, _, _, _, _, _, _, w => by simp [eqL] at h
  | f :: fs, pre, pre', x :: xs, y :: ys, off, _, _, h, hp, hn, hx, hy, hsx, hsy, h1, h2, w => by
    simp only [List.map_cons, eqL] at h
    split at h
    · rename_i e he
      split at h
      · rename_i x' y' q c hrx hry hq
        split at h
        · rename_i p1 b1 hF
          cases h
          obtain ⟨⟨ho, hzx, hzy, hp1⟩, hq1⟩ := hp
          have ex := part_run (hT _ _ he) (ρ := ρ) (a := pre) hx hsx hrx [] w
          have ey := part_run (hT _ _ he) (ρ := ρ) (a := pre') hy hsy hry [] w
          rw [List.append_nil, ← denC_append] at ex ey
          have eF := eqF_run hT hF hp1 ρ w d
          have ih := eqL_run hT ρ d fs (pre ++ [x]) (pre' ++ [y]) xs ys (off + e.size) hq hq1 (fun g hg => hn g (List.mem_cons_of_mem _ hg)) (by simpa using hx) (by simpa using hy) hsx.2 hsy.2
            (by rw [szL_append]; simp [szL, h1, hzx]) (by rw [szL_append]; simp [szL, h2, hzy]) w
          simp only [List.append_assoc, List.singleton_append] at ih
          have hne : f.name ≠ "_" := hn f (List.mem_cons_self ..)
          rw [h1] at ex
          rw [h2] at ey
          simp only [Op.eqFields, hne, ne_eq, not_false_eq_true, if_true, ho, Sem.run_bind, ex.1, ey.1, eF, Result.andThen_ok]
          cases b1
          · simp
          · simpa using ih
        · cases h
      · cases h
    · cases h

theorem structS_run {tab : Tab} (hT : tab.Ok P) {t : TypeId} {xs ys : List SV} {p : Prop} {b : Bool} (h : structS tab t xs ys = some (p, b)) (hp : p) (ρ : Env) {n : Nat} (hx : okL n xs) (hy : okL n ys) (w : World) :
    (Op.equal t (den ρ (.agg xs)) (den ρ (.agg ys))).run P w = .ok b w ∧ ∀ op a c, (eqGuard op t a c (den ρ (.agg xs)) (den ρ (.agg ys))).run P w = .ok () w := by
  unfold structS at h
  split at h
  · rename_i e he
    split at h
    · rename_i l hd
      split at h
      · rename_i p1 b1 hL
        cases h
        obtain ⟨hp1, hsx, hsy⟩ := hp
        have hF := hT t e he
        obtain ⟨dd, hu, hf⟩ := hF.desc
        rw [hd] at hf
        obtain ⟨fs, rfl, rfl⟩ := hf
        obtain ⟨hn, hst, hg⟩ := hF.eqs _ hd
        have hfo : P.fieldsOf t = fs := by simp [Program.fieldsOf, hu]
        have hr := eqL_run hT ρ 9997 fs.toList [] [] xs ys 0 hL hp1 (hn fs hu) hx hy hsx hsy rfl rfl w
        refine ⟨?_, fun op a c => run_eqGuard_agg w op t a c _ _ hg⟩
        show (Op.equalIn 10000 t (.agg (denC ρ xs).toArray) (.agg (denC ρ ys).toArray)).run P w = _
        rw [run_equalIn_struct w 9999 t _ _ (by rw [hfo]; exact hu) hst, hfo]
        exact hr
      · cases h
    · cases h
  · cases h

def binS2 (tab : Tab) (op : BinOp) (t : TypeId) (x y : SV) : Option (Prop × SV) :=
  match x, y with
  | .agg xs, .agg ys => match op with
    | .eql => match structS tab t xs ys with
      | some (p, b) => some (p, .bool b)
      | none => none
    | .neq => match structS tab t xs ys with
      | some (p, b) => some (p, .bool !b)
      | none => none
    | _ => none
  | x, y => binS tab op t x y

theorem binS2_run {tab : Tab} (hT : tab.Ok P) {op : BinOp} {t : TypeId} {x y v : SV} {p : Prop} (h : binS2 tab op t x y = some (p, v)) (hp : p) (ρ : Env) {m : Nat} (hx : ok m x) (hy : ok m y) (a c : Operand) (w : World) :
    (do eqGuard op t a c (den ρ x) (den ρ y); binOp op t (den ρ x) (den ρ y) : Sem Value).run P w = .ok (den ρ v) w ∧ ∀ n, ok n v := by
  unfold binS2 at h
  split at h
  · split at h
    · split at h <;> cases h
      rename_i b hS
      obtain ⟨h1, h2⟩ := structS_run hT hS hp ρ hx hy w
      refine ⟨?_, fun _ => trivial⟩
      rw [Sem.run_bind, h2, Result.andThen_ok]
      show (do pure (.bool (← Op.equal t _ _)) : Sem Value).run P w = _
      rw [Sem.run_bind, h1, Result.andThen_ok]
      rfl
    · split at h <;> cases h
      rename_i b hS
      obtain ⟨h1, h2⟩ := structS_run hT hS hp ρ hx hy w
      refine ⟨?_, fun _ => trivial⟩
      rw [Sem.run_bind, h2, Result.andThen_ok]
      show (do pure (.bool (!(← Op.equal t _ _))) : Sem Value).run P w = _
      rw [Sem.run_bind, h1, Result.andThen_ok]
      rfl
    · cases h
  · exact binS_run hT h hp ρ a c w

/-! ### Keys of maps -/
/-- A key's type and value, as far as a map asks. -/
def keyE (tab : Tab) (kt : TypeId) (x y : SV) : Option (Prop × Bool) :=
  match x, y with
  | .agg xs, .agg ys => structS tab kt xs ys
  | x, y => eqF tab kt x y

def flatE (tab : Tab) (ty : TypeId) (x : SV) : Prop :=
  match tab ty with
  | some e => match e.d with
    | .int _ | .bool | .str => True
    | .arr n el => match tab el with
      | some e' => match e'.d with
        | .int _ => match x with
          | .fam m s f => m = n ∧ s = 1 ∧ e'.size = 1
          | _ => False
        | _ => False
      | none => False
    | _ => False
  | none => False
def flatL (tab : Tab) : List (Nat × TypeId) → Nat → List SV → Prop
  | [], _, _ => True
  | (o, ty) :: l, off, x :: xs => match tab ty with
    | some e => match rdF e (x :: xs) with
      | some x' => (o = off ∧ sz x = e.size ∧ flatE tab ty x') ∧ flatL tab l (off + e.size) xs
      | none => False
    | none => False
  | _, _, _ => False
def keyS (tab : Tab) (kt : TypeId) (x : SV) : Prop :=
  match tab kt with
  | some e => match e.d with
    | .int _ | .bool | .str => True
    | .struct l => match x with
      | .agg xs => flatL tab l 0 xs ∧ storL xs
      | _ => False
    | _ => False
  | none => False
def keysS (tab : Tab) (kt : TypeId) (k : SV) (n : Nat) (key : Nat → SV) : Prop := ∀ i, i < n → ∃ p b, keyE tab kt k (key i) = some (p, b) ∧ p
def mfindF (tab : Tab) (kt : TypeId) (k : SV) (key : Nat → SV) : Nat → Nat → Option Nat
  | 0, _ => none
  | m + 1, i => match keyE tab kt k (key i) with
    | some (_, true) => some i
    | _ => mfindF tab kt k key m (i + 1)
def mfind (tab : Tab) (kt : TypeId) (k : SV) (n : Nat) (key : Nat → SV) : Option Nat := mfindF tab kt k key n 0

theorem run_forIn_ok {α : Type} (f : α → PUnit → Sem (ForInStep PUnit)) (w : World) : ∀ (l : List α), (∀ a ∈ l, (f a ⟨⟩).run P w = .ok (.yield ⟨⟩) w) → (forIn l PUnit.unit f).run P w = .ok ⟨⟩ w
  | [], _ => by simp
  | a :: l, h => by
    rw [List.forIn_cons, Sem.run_bind, h a (List.mem_cons_self ..), Result.andThen_ok]
    exact run_forIn_ok f w l fun b hb => h b (List.mem_cons_of_mem _ hb)

theorem run_forIn_ok' {α : Type} (f : α → PUnit → Sem (ForInStep PUnit)) (w : World) (l : List α) (h : ∀ a ∈ l, (f a ⟨⟩).run P w = .ok (.yield ⟨⟩) w) : ((do forIn l PUnit.unit f; pure ()) : Sem PUnit).run P w = .ok ⟨⟩ w := by
  rw [Sem.run_bind, run_forIn_ok f w l h]
  rfl

theorem check_flat {t : TypeId} {d : TypeDesc} (h : P.underlying t = some d) (hd : (∃ k, d = .int k) ∨ d = .bool ∨ d = .string) (e : Bool) (n : Nat) (v : Value) (w : World) : (Instr.checkKey e (n + 1) t v).run P w = .ok () w := by
  unfold Instr.checkKey
  rw [Sem.run_bind, run_underlying h w, Result.andThen_ok]
  rcases hd with ⟨k, rfl⟩ | rfl | rfl <;> rfl

theorem flatE_run {tab : Tab} (hT : tab.Ok P) {ty : TypeId} {x : SV} (h : flatE tab ty x) (ρ : Env) {m : Nat} (hok : ok m x) (b : Bool) (n : Nat) (w : World) : (Instr.checkKey b (n + 2) ty (den ρ x)).run P w = .ok () w := by
  unfold flatE at h
  split at h
  · rename_i e he
    obtain ⟨dd, hu, hf⟩ := (hT ty e he).desc
    split at h
    · rename_i k hd
      rw [hd] at hf
      exact check_flat hu (.inl ⟨_, hf⟩) b _ _ w
    · rename_i hd
      rw [hd] at hf
      exact check_flat hu (.inr (.inl hf)) b _ _ w
    · rename_i hd
      rw [hd] at hf
      exact check_flat hu (.inr (.inr hf)) b _ _ w
    · rename_i len el hd
      rw [hd] at hf
      simp only [TD.fits] at hf
      subst hf
      split at h
      · rename_i e' he'
        obtain ⟨d', hu', hf'⟩ := (hT el e' he').desc
        split at h
        · rename_i k hd'
          rw [hd'] at hf'
          split at h
          · rename_i m' s f
            obtain ⟨rfl, rfl, hsz⟩ := h
            have hlen := cells_len ρ m _ hok
            rw [cells_fam] at hlen
            simp only [sz, Nat.mul_one] at hlen
            unfold Instr.checkKey
            rw [Sem.run_bind, run_underlying hu w, Result.andThen_ok]
            simp only [den]
            rw [Std.Legacy.Range.forIn_eq_forIn_range']
            refine run_forIn_ok' _ w _ fun i hi => ?_
            have hi' : i < m' := by
              simp [Std.Legacy.Range.size, List.mem_range'] at hi
              omega
            have hag : (isAgg el).run P w = .ok false w := by
              rw [(hT _ _ he').agg w]
              simp [Ent.row, hd']
            have hget : ∃ v, ((List.range m').flatMap fun i => (den ρ (f i)).cells.toList).toArray[i * 1]? = some v := by
              rw [List.getElem?_toArray, Nat.mul_one]
              exact ⟨_, List.getElem?_eq_getElem (by rw [hlen]; exact hi')⟩
            obtain ⟨v, hv⟩ := hget
            simp only [Sem.run_bind, (hT _ _ he').siz w, hsz, Result.andThen_ok, part, hag, Bool.false_eq_true, if_false, hv, Sem.run_pure]
            rw [check_flat hu' (.inl ⟨_, hf'⟩) b _ _ w]
            rfl
          · exact h.elim
        · exact h.elim
      · exact h.elim
    · exact h.elim
  · exact h.elim

theorem flatL_run {tab : Tab} (hT : tab.Ok P) (ρ : Env) {n : Nat} (b : Bool) (d : Nat) : ∀ (fs : List Field) (pre xs : List SV) (off : Nat) (_ : flatL tab (fs.map fun f => (f.offset, f.type)) off xs) (_ : okL n (pre ++ xs)) (_ : storL xs) (_ : szL pre = off) (w : World),
    (forIn fs PUnit.unit fun f _ => (if f.name ≠ "_" then (do
      Instr.checkKey b (d + 2) f.type (← part f.type (denC ρ (pre ++ xs)).toArray f.offset)
      pure (ForInStep.yield PUnit.unit)) else pure (ForInStep.yield PUnit.unit) : Sem (ForInStep PUnit))).run P w = .ok ⟨⟩ w
  | [], _, _, _, _, _, _, _, w => by simp
  | f :: fs, pre, [], off, h, _, _, _, w => by simp [flatL] at h
  | f :: fs, pre, x :: xs, off, h, hx, hsx, h1, w => by
    simp only [List.map_cons, flatL] at h
    split at h
    · rename_i e he
      split at h
      · rename_i x' hrx
        obtain ⟨⟨ho, hzx, hfl⟩, hq⟩ := h
        have ex := part_run (hT _ _ he) (ρ := ρ) (a := pre) hx hsx hrx [] w
        rw [List.append_nil, ← denC_append] at ex
        have ih := flatL_run hT ρ b d fs (pre ++ [x]) xs (off + e.size) hq (by simpa using hx) hsx.2 (by rw [szL_append]; simp [szL, h1, hzx]) w
        simp only [List.append_assoc, List.singleton_append] at ih
        rw [h1] at ex
        rw [List.forIn_cons]
        by_cases hne : f.name ≠ "_"
        · simp only [hne, ne_eq, not_false_eq_true, if_true, ho, Sem.run_bind, ex.1, Result.andThen_ok, flatE_run hT hfl ρ ex.2 b d w, Sem.run_pure]
          simpa using ih
        · simp only [hne, if_false, Sem.run_bind, Result.andThen_ok, Sem.run_pure]
          simpa using ih
      · exact h.elim
    · exact h.elim

theorem keyS_run {tab : Tab} (hT : tab.Ok P) {kt : TypeId} {x : SV} (h : keyS tab kt x) (ρ : Env) {m : Nat} (hok : ok m x) (b : Bool) (w : World) : (Instr.checkKey b 10000 kt (den ρ x)).run P w = .ok () w := by
  unfold keyS at h
  split at h
  · rename_i e he
    obtain ⟨dd, hu, hf⟩ := (hT kt e he).desc
    split at h
    · rename_i k hd
      rw [hd] at hf
      exact check_flat hu (.inl ⟨_, hf⟩) b _ _ w
    · rename_i hd
      rw [hd] at hf
      exact check_flat hu (.inr (.inl hf)) b _ _ w
    · rename_i hd
      rw [hd] at hf
      exact check_flat hu (.inr (.inr hf)) b _ _ w
    · rename_i l hd
      rw [hd] at hf
      obtain ⟨fs, rfl, rfl⟩ := hf
      split at h
      · rename_i xs
        have hr := flatL_run hT ρ (n := m) b 9997 fs.toList [] xs 0 h.1 (by simpa [ok] using hok) h.2 rfl w
        show (Instr.checkKey b (9999 + 1) kt (den ρ (.agg xs))).run P w = _
        unfold Instr.checkKey
        rw [Sem.run_bind, run_underlying hu w, Result.andThen_ok]
        simp only [den]
        rw [← Array.forIn_toList, Sem.run_bind]
        simp only [List.nil_append] at hr
        rw [hr]
        rfl
      · exact h.elim
    · exact h.elim
  · exact h.elim

theorem keyE_run {tab : Tab} (hT : tab.Ok P) {kt : TypeId} {x y : SV} {p : Prop} {b : Bool} (h : keyE tab kt x y = some (p, b)) (hp : p) (ρ : Env) {n : Nat} (hx : ok n x) (hy : ok n y) (w : World) :
    (Op.equal kt (den ρ x) (den ρ y)).run P w = .ok b w := by
  unfold keyE at h
  split at h
  · exact (structS_run hT h hp ρ hx hy w).1
  · exact eqF_run hT h hp ρ w 9998

theorem same_run {tab : Tab} (hT : tab.Ok P) {kt : TypeId} {d : TypeDesc} (hu : P.underlying kt = some d) {x y : SV} {p : Prop} {b c : Bool} (h : keyE tab kt x y = some (p, b)) (hp : p) (ρ : Env) (hs : Instr.sameNow d (den ρ x) (den ρ y) = some c) : c = b := by
  unfold keyE at h
  split at h
  · simp [den, Instr.sameNow] at hs
  · unfold eqF at h
    split at h
    · rename_i e he
      obtain ⟨dd, hu', hf⟩ := (hT kt e he).desc
      rw [hu] at hu'
      cases hu'
      split at h
      · rename_i k hd
        rw [hd] at hf
        simp only [TD.fits] at hf
        subst hf
        split at h
        · cases h
          subst hp
          simp [den, Instr.sameNow] at hs
          exact hs.symm
        · cases h
      · rename_i hd
        rw [hd] at hf
        simp only [TD.fits] at hf
        subst hf
        split at h
        · cases h
          simp [den, Instr.sameNow] at hs
          exact hs.symm
        · cases h
      · rename_i hd
        rw [hd] at hf
        simp only [TD.fits] at hf
        subst hf
        split at h
        · rename_i a b'
          cases h
          simp only [den, Instr.sameNow, Option.some.injEq] at hs
          rw [← hs]
          exact beq_toListBytes _ _
        · cases h
      · split at h
        · simp [den, Instr.sameNow] at hs
        · cases h
      · cases h
    · cases h

/-- The entries of a map. -/
def ents (ρ : Env) (key val : Nat → SV) (born : Nat → Nat) (n i : Nat) : List MapEntry := (List.range' i n).map fun i => { key := den ρ (key i), val := den ρ (val i), born := born i }
theorem ents_succ (ρ : Env) (key val : Nat → SV) (born : Nat → Nat) (n i : Nat) : ents ρ key val born (n + 1) i = { key := den ρ (key i), val := den ρ (val i), born := born i } :: ents ρ key val born n (i + 1) := by
  simp [ents, List.range'_succ]

theorem findNow_run {tab : Tab} (hT : tab.Ok P) {kt : TypeId} {d : TypeDesc} (hu : P.underlying kt = some d) {k : SV} {key val : Nat → SV} {born : Nat → Nat} (ρ : Env) : ∀ (m i : Nat) (_ : ∀ j, i ≤ j → j < i + m → ∃ p b, keyE tab kt k (key j) = some (p, b) ∧ p) {r : Option (Nat × Value)}
    (_ : Instr.findNow d (den ρ k) (ents ρ key val born m i) i = some r), r = (mfindF tab kt k key m i).map fun j => (j, den ρ (val j))
  | 0, i, _, r, h => by
    simp [ents, Instr.findNow] at h
    simp [mfindF, ← h]
  | m + 1, i, hk, r, h => by
    obtain ⟨p, b, hE, hp⟩ := hk i (Nat.le_refl _) (by omega)
    rw [ents_succ] at h
    simp only [Instr.findNow] at h
    simp only [mfindF, hE]
    split at h
    · rename_i hs
      have := same_run hT hu hE hp ρ hs
      subst this
      simp at h
      simp [← h]
    · rename_i hs
      have := same_run hT hu hE hp ρ hs
      subst this
      exact findNow_run hT hu ρ m (i + 1) (fun j h1 h2 => hk j (by omega) (by omega)) h
    · cases h

theorem findAsk_run {tab : Tab} (hT : tab.Ok P) {kt : TypeId} {k : SV} {key val : Nat → SV} {born : Nat → Nat} (ρ : Env) {n : Nat} (hok : ok n k) (w : World) : ∀ (m i : Nat) (_ : ∀ j, i ≤ j → j < i + m → (∃ p b, keyE tab kt k (key j) = some (p, b) ∧ p) ∧ ok n (key j)),
    (Instr.findAsking kt (den ρ k) (ents ρ key val born m i) i).run P w = .ok ((mfindF tab kt k key m i).map fun j => (j, den ρ (val j))) w
  | 0, i, _ => by simp [ents, Instr.findAsking, mfindF]
  | m + 1, i, hk => by
    obtain ⟨⟨p, b, hE, hp⟩, hy⟩ := hk i (Nat.le_refl _) (by omega)
    rw [ents_succ]
    simp only [Instr.findAsking, mfindF, hE, Sem.run_bind, keyE_run hT hE hp ρ hok hy w, Result.andThen_ok]
    cases b
    · exact findAsk_run hT ρ hok w m (i + 1) fun j h1 h2 => hk j (by omega) (by omega)
    · simp

theorem findKey_run {tab : Tab} (hT : tab.Ok P) {kt : TypeId} {e : Ent} (he : tab kt = some e) {k : SV} {key val : Nat → SV} {born : Nat → Nat} (ρ : Env) {n : Nat} (hok : ok n k) {m : Nat} (hk : keysS tab kt k m key) (hy : ∀ i, i < m → ok n (key i)) (w : World) :
    (Instr.findKey kt (den ρ k) (ents ρ key val born m 0)).run P w = .ok ((mfind tab kt k m key).map fun j => (j, den ρ (val j))) w := by
  obtain ⟨d, hu, hf⟩ := (hT kt e he).desc
  unfold Instr.findKey
  rw [Sem.run_bind, run_underlying hu w, Result.andThen_ok]
  split
  · rename_i r hr
    rw [findNow_run hT hu ρ m 0 (fun j _ h2 => hk j (by omega)) hr]
    rfl
  · exact findAsk_run hT ρ hok w m 0 fun j _ h2 => ⟨hk j (by omega), hy j (by omega)⟩

/-- What a look-up gives. -/
def lookS (tab : Tab) (h : List Chunk) (ty : TypeId) (x k : SV) (cok : Bool) : Option (Prop × SV) :=
  match tab ty with
  | some e0 => match e0.d with
    | .map kt et => match tab kt, tab et with
      | some _, some e => match x with
        | .v (.map none) => some (keyS tab kt k, match cok with | true => .tup [e.zero, .bool false] | false => e.zero)
        | .mp nm => match lookH h nm with
          | .map n key val _ _ => some (keyS tab kt k ∧ keysS tab kt k n key, match mfind tab kt k n key with
            | some i => (match cok with | true => .tup [val i, .bool true] | false => val i)
            | none => match cok with | true => .tup [e.zero, .bool false] | false => e.zero)
          | _ => none
        | _ => none
      | _, _ => none
    | _ => none
  | none => none

theorem mfind_lt {tab : Tab} {kt : TypeId} {k : SV} {key : Nat → SV} : ∀ (m i : Nat) {j : Nat}, mfindF tab kt k key m i = some j → i ≤ j ∧ j < i + m
  | 0, i, j, h => by simp [mfindF] at h
  | m + 1, i, j, h => by
    simp only [mfindF] at h
    split at h
    · cases h; omega
    · have := mfind_lt m (i + 1) h
      omega

theorem mapObj_list (ρ : Env) (n : Nat) (key val : Nat → SV) (born : Nat → Nat) (clock : Nat) : mapObj ρ n key val born clock = .map (ents ρ key val born n 0).toArray clock := by
  unfold mapObj ents
  rw [List.range_eq_range']

theorem lookS_run {tab : Tab} (hT : tab.Ok P) {h : List Chunk} {ty : TypeId} {x k v : SV} {cok : Bool} {p : Prop} (hl : lookS tab h ty x k cok = some (p, v)) (hp : p) (ρ : Env) {n : Nat} (hok : ok n k) (w : World)
    (hH : ∀ j ∈ lenN x, Holds ρ w j (lookH h j)) (hg : ∀ j, (lookH h j).good n) : (Instr.lookup ty (den ρ x) (den ρ k) cok).run P w = .ok (den ρ v) w ∧ ok n v := by
  unfold lookS at hl
  split at hl
  · rename_i e0 he0
    split at hl
    · rename_i kt et hd
      split at hl
      · rename_i ek e hek he
        obtain ⟨dd, hu, hf⟩ := (hT ty e0 he0).desc
        rw [hd] at hf
        simp only [TD.fits] at hf
        subst hf
        have hz := zero_run (hT _ _ he) ρ w
        have hzo := ok_mono (Nat.zero_le n) _ (hT _ _ he).zok
        unfold Instr.lookup
        split at hl
        · cases hl
          simp only [den, Sem.run_bind, run_underlying hu w, Result.andThen_ok, Sem.run_pure]
          have h0 := findKey_run (key := fun _ => .tup []) (val := fun _ => .tup []) (born := fun _ => 0) (m := 0) hT hek ρ hok (fun i hi => absurd hi (Nat.not_lt_zero _)) (fun i hi => absurd hi (Nat.not_lt_zero _)) w
          simp only [ents, List.range'_zero, List.map_nil] at h0
          rw [keyS_run hT hp ρ hok _ w, Result.andThen_ok, h0]
          simp only [mfind, mfindF, Option.map_none, Result.andThen_ok, Sem.run_bind, hz, Sem.run_pure]
          cases cok
          · exact ⟨rfl, hzo⟩
          · exact ⟨by simp [den, denL], by simp only [ok, okL, and_true]; exact hzo⟩
        · rename_i nm
          split at hl
          · rename_i m key val born clock hc
            cases hl
            obtain ⟨hp1, hp2⟩ := hp
            have h1 := hH nm (by simp [lenN])
            have h2 := hg nm
            rw [hc] at h1 h2
            simp only [Holds, mapObj_list] at h1
            have h0 := findKey_run (key := key) (val := val) (born := born) (m := m) hT hek ρ hok hp2 (fun i hi => (h2 i hi).1) w
            simp only [den, Sem.run_bind, run_underlying hu w, Result.andThen_ok, Sem.run_pure]
            have hgo : (getObj (ρ nm).b).run P w = .ok (.map (ents ρ key val born m 0).toArray clock) w := by simp [getObj, Sem.run, h1.2]
            rw [hgo]
            simp only [Result.andThen_ok, Sem.run_bind, Sem.run_pure]
            rw [keyS_run hT hp1 ρ hok _ w, Result.andThen_ok]
            rw [h0]
            cases hm : mfind tab kt k m key with
            | none =>
              simp only [Option.map_none, Result.andThen_ok, Sem.run_bind, hz, Sem.run_pure]
              cases cok
              · exact ⟨rfl, hzo⟩
              · exact ⟨by simp [den, denL], by simp only [ok, okL, and_true]; exact hzo⟩
            | some i =>
              have hi : i < m := by
                have := mfind_lt m 0 hm
                omega
              simp only [Option.map_some, Result.andThen_ok, Sem.run_bind, Sem.run_pure]
              cases cok
              · exact ⟨rfl, (h2 i hi).2⟩
              · exact ⟨by simp [den, denL], by simp only [ok, okL, and_true]; exact (h2 i hi).2⟩
          · cases hl
        · cases hl
      · cases hl
    · cases hl
  · cases hl

/-- Is a slice that came in nil? Not where it has elements. -/
def binH (tab : Tab) (h : List Chunk) (op : BinOp) (t : TypeId) (x y : SV) : Option (Prop × SV) :=
  match x with
  | .osl nm _ e _ m => match tab t with
    | some ⟨.slice _, _, _, _, _⟩ => match y with
      | .v (.slice none _ _) => match lookH h nm with
        | .row _ n' _ _ => match op with
          | .eql => some (0 < m ∧ e + m ≤ n', .bool false)
          | .neq => some (0 < m ∧ e + m ≤ n', .bool true)
          | _ => none
        | _ => none
      | _ => none
    | _ => none
  | x => binS2 tab op t x y

theorem binH_run {tab : Tab} (hT : tab.Ok P) {h : List Chunk} {op : BinOp} {t : TypeId} {x y v : SV} {p : Prop} (hb : binH tab h op t x y = some (p, v)) (hp : p) (ρ : Env) {m : Nat} (hx : ok m x) (hy : ok m y) (a c : Operand) (w : World)
    (hH : ∀ k ∈ oslN x, Holds ρ w k (lookH h k)) : (do eqGuard op t a c (den ρ x) (den ρ y); binOp op t (den ρ x) (den ρ y) : Sem Value).run P w = .ok (den ρ v) w ∧ ∀ n, ok n v := by
  unfold binH at hb
  split at hb
  · rename_i nm d e s mm
    split at hb
    · rename_i el _ _ _ _ htab
      split at hb
      · rename_i l1 c1
        split at hb
        · rename_i wr n' s' f hc
          have h1 := hH nm (by simp [oslN])
          rw [hc] at h1
          have key : 0 < mm ∧ e + mm ≤ n' → ∃ ad cp, den ρ (.osl nm d e s mm) = den ρ (.v (.slice (some ad) mm cp)) := fun hq => by
            have h2 := (Holds.some h1 (by omega)).1
            exact ⟨_, _, by simp only [den, h2, cond_false]; rfl⟩
          split at hb
          · cases hb
            obtain ⟨ad, cp, hk⟩ := key hp
            rw [hk]
            have hq : binS2 tab .eql t (.v (.slice (some ad) mm cp)) (.v (.slice none l1 c1)) = some (True, .bool false) := by simp [binS2, binS, htab, nilEq, nilS]
            exact binS2_run hT hq trivial ρ (m := m) trivial trivial a c w
          · cases hb
            obtain ⟨ad, cp, hk⟩ := key hp
            rw [hk]
            have hq : binS2 tab .neq t (.v (.slice (some ad) mm cp)) (.v (.slice none l1 c1)) = some (True, .bool true) := by simp [binS2, binS, htab, nilEq, nilS]
            exact binS2_run hT hq trivial ρ (m := m) trivial trivial a c w
          · cases hb
        · cases hb
      · cases hb
    · cases hb
  · exact binS2_run hT hb hp ρ hx hy a c w

/-- An operation that only reads: what is asked, what it gives. -/
def qv (tab : Tab) (t : Slots) (h : List Chunk) : Op → Option (Prop × SV)
  | .move x => some (True, ev t x)
  | .assign x => some (True, ev t x)
  | .pick c a b => match ev t c with
    | .bool p => match ev t a, ev t b with
      | .bool x, .bool y => some (True, .bool (bif p then x else y))
      | x, .tup [] => some (p = true, x)
      | .tup [], y => some (p = false, y)
      | _, _ => none
    | _ => none
  | .nilCheck x => match ev t x with
    | .ptr nm b => some (True, .ptr nm b)
    | .pix nm b i s j => some (True, .pix nm b i s j)
    | .v (.pointer (some a)) => some (True, .v (.pointer (some a)))
    | .fn (.func f) a c => some (True, .fn (.func f) a c)
    | .fn (.yield f) a c => some (True, .fn (.yield f) a c)
    | _ => none
  | .binOp op ty x y _ => binH tab h op ty (ev t x) (ev t y)
  | .unOp op _ x => unS op (ev t x)
  | .convert s d x => convS tab h s d (ev t x)
  | .fieldAddr s x f => fldA tab s (ev t x) f
  | .field s x f => fldS tab s (ev t x) f
  | .indexAddr ty x i => idxA tab h ty (ev t x) (ev t i)
  | .index ty x i => match idxS tab ty (ev t x) (ev t i) with
    | some (p, v) => some (p ∧ stor (ev t x), v)
    | none => none
  | .slice ty x lo hi none => slS tab h ty (ev t x) (lo.map (ev t)) (hi.map (ev t))
  | .load ty a => match tab ty with
    | some e => ldS h e (ev t a)
    | none => none
  | .build ty ps => bldS tab ty (ps.toList.map fun p => (p.1, ev t p.2))
  | .makeFunc f a c => some (True, .fn f (a.toList.map (ev t)) (c.toList.map (ev t)))
  | .extract x i => match ev t x with
    | .tup l => some (i < l.length, look l i)
    | _ => none
  | .call ⟨.builtin .len, ⟨[x]⟩, ⟨[ty]⟩⟩ => lenS tab h ty (ev t x)
  | .call ⟨.builtin .min, ⟨[x, y]⟩, _⟩ => minS (ev t x) (ev t y)
  | .call ⟨.builtin .max, ⟨[x, y]⟩, _⟩ => maxS (ev t x) (ev t y)
  | .lookup ty x k ok => lookS tab h ty (ev t x) (ev t k) ok
  | _ => none

/-- The names whose memory an operation reads. -/
def qn (t : Slots) : Op → List Nat
  | .convert _ _ x => convN (ev t x)
  | .binOp _ _ x _ _ => oslN (ev t x)
  | .load _ a => ldN (ev t a)
  | .indexAddr _ x _ => oslN (ev t x)
  | .slice _ x .. => oslN (ev t x)
  | .call ⟨.builtin .len, ⟨[x]⟩, _⟩ => lenN (ev t x)
  | .lookup _ x _ _ => lenN (ev t x)
  | _ => []

theorem okL_map_ev {n : Nat} {t : Slots} (h : okS n t) (l : List Operand) : okL n (l.map (ev t)) := by
  induction l with
  | nil => trivial
  | cons x l ih => exact ⟨ok_ev t x h, ih⟩
theorem denL_map_ev (ρ : Env) (st : St) {m : Nat} (h : okS m st.t) : ∀ l : List Operand, denL ρ (l.map (ev st.t)) = l.map (act ρ st).eval
  | [] => rfl
  | x :: l => by simp only [List.map_cons, denL, denL_map_ev ρ st h l, act_eval ρ st h]

theorem qv_run {tab : Tab} (hT : tab.Ok P) {st : St} {o : Oper} {v : SV} {p : Prop} (h : qv tab st.t st.h o.op = some (p, v)) (hp : p) (ρ : Env) {n : Nat} (hok : okS n st.t) (w : World)
    (hH : ∀ k ∈ qn st.t o.op, Holds ρ w k (lookH st.h k)) (hg : ∀ k, (lookH st.h k).good n) :
    (execOp (act ρ st).eval o).run P w = .ok (.value (den ρ v)) w ∧ ok n v := by
  have hev := fun x => act_eval ρ st hok x
  have hoe := fun x => ok_ev st.t x hok
  obtain ⟨dst, op, type, pos, after, guard⟩ := o
  simp only at h hH
  unfold qv at h
  unfold execOp
  simp only
  split at h <;> simp only [hev]
  · cases h; exact ⟨rfl, hoe _⟩
  · cases h; exact ⟨rfl, hoe _⟩
  · split at h
    · rename_i c a b _ q hq
      rw [hq]
      split at h <;> cases h <;> simp only [den, asBool, Sem.run_bind, Sem.run_pure, Result.andThen_ok]
      · rename_i h1 h2
        rw [h1, h2]
        refine ⟨?_, trivial⟩
        cases q <;> rfl
      · subst hp
        exact ⟨rfl, hoe _⟩
      · subst hp
        exact ⟨rfl, hoe _⟩
    · cases h
  · split at h <;> cases h <;> rename_i h1 <;> rw [h1] <;> refine ⟨rfl, ?_⟩ <;> rw [← h1] <;> exact hoe _
  · obtain ⟨q1, q2⟩ := binH_run hT h hp ρ (hoe _) (hoe _) _ _ w (by simpa [qn] using hH)
    simp only [Sem.run_bind] at q1 ⊢
    exact ⟨by rw [q1]; rfl, q2 n⟩
  · obtain ⟨q1, q2⟩ := unS_run (P := P) h ρ w
    exact ⟨by simp only [Sem.run_bind, q1]; rfl, q2 n⟩
  · obtain ⟨q1, q2⟩ := convS_run hT h hp ρ w (by simpa [qn] using hH) hg
    exact ⟨by simp only [Sem.run_bind, q1]; rfl, q2⟩
  · obtain ⟨q1, q2⟩ := fldA_run hT h hp ρ w
    exact ⟨by simp only [Sem.run_bind, q1]; rfl, q2 n (hoe _)⟩
  · obtain ⟨q1, q2⟩ := fldS_run hT h hp ρ (hoe _) w
    exact ⟨by simp only [Sem.run_bind, q1]; rfl, q2⟩
  · obtain ⟨q1, q2⟩ := idxA_run hT h hp ρ w (by simpa [qn] using hH)
    exact ⟨by simp only [Sem.run_bind, q1]; rfl, q2 n (hoe _)⟩
  · split at h <;> cases h
    rename_i hx
    obtain ⟨q1, q2⟩ := idxS_run hT hx hp.1 ρ (hoe _) hp.2 w
    exact ⟨by simp only [Sem.run_bind, q1]; rfl, q2⟩
  · rename_i ty x lo hi
    obtain ⟨q1, q2⟩ := slS_run hT h hp ρ w (by simpa [qn] using hH)
    refine ⟨?_, q2 n (hoe _)⟩
    have e1 : Option.map (act ρ st).eval lo = Option.map (den ρ) (Option.map (ev st.t) lo) := by cases lo <;> simp [hev]
    have e2 : Option.map (act ρ st).eval hi = Option.map (den ρ) (Option.map (ev st.t) hi) := by cases hi <;> simp [hev]
    rw [e1, e2]
    simp only [Sem.run_bind, Option.map_none, q1]
    rfl
  · split at h
    · rename_i e he
      obtain ⟨q1, q2⟩ := ldS_run (hT _ _ he) (ρ := ρ) (w := w) (n := n) (by simpa [qn] using hH) hg h hp
      exact ⟨by simp only [Sem.run_bind, q1]; rfl, q2⟩
    · cases h
  · rename_i ty ps
    obtain ⟨q1, q2⟩ := bldS_run hT h ρ (n := n) (by
      intro q hq
      simp only [List.mem_map] at hq
      obtain ⟨y, _, rfl⟩ := hq
      exact hoe _) w
    refine ⟨?_, q2⟩
    have e1 : ps.map (fun x => (x.1, (act ρ st).eval x.2)) = (List.map (fun p => (p.1, den ρ p.2)) (List.map (fun p => (p.1, ev st.t p.2)) ps.toList)).toArray := by
      apply Array.ext'
      simp [hev]
    have e2 : ps.map (fun x => (x.1, den ρ (ev st.t x.2))) = (List.map (fun p => (p.1, den ρ p.2)) (List.map (fun p => (p.1, ev st.t p.2)) ps.toList)).toArray := by
      apply Array.ext'
      simp
    first
      | (rw [e1]; simp only [Sem.run_bind, q1]; rfl)
      | (simp only [Sem.run_bind]; rw [e2, q1]; rfl)
  · rename_i f a c
    cases h
    refine ⟨?_, okL_map_ev hok _, okL_map_ev hok _⟩
    simp only [Instr.makeFunc, Sem.run_bind, Sem.run_pure, Result.andThen_ok, den, denL_map_ev ρ st hok]
    have e1 : ∀ a : Array Operand, a.map (fun x => den ρ (ev st.t x)) = (a.toList.map (act ρ st).eval).toArray := by
      intro a
      apply Array.ext'
      simp [hev]
    have e2 : ∀ a : Array Operand, a.map ((act ρ st).eval) = (a.toList.map (act ρ st).eval).toArray := by
      intro a
      apply Array.ext'
      simp
    first
      | (rw [e2, e2])
      | (rw [e1, e1])
  · split at h <;> cases h
    rename_i l hl
    rw [hl]
    have hlo : okL n l := by have := hoe (by assumption : Operand); rw [hl] at this; exact this
    refine ⟨?_, ok_look l _ hlo⟩
    simp only [Sem.run_bind, Instr.extract, den]
    have hk : ∀ k, k < l.length → (denL ρ l).toArray[k]? = some (den ρ (look l k)) := by
      intro k hk
      have h1 := den_look ρ l k
      simp only [List.getElem?_toArray]
      rw [List.getElem?_eq_getElem (by rw [denL_length]; exact hk)] at h1 ⊢
      simpa using h1
    rw [hk _ hp]
    rfl
  · rename_i x ty
    obtain ⟨q1, q2⟩ := lenS_run hT h ρ (ty := type) w (by simpa [qn] using hH)
    refine ⟨?_, q2 n⟩
    simp only [Sem.run_bind, resolve, Sem.run_pure, Result.andThen_ok, invoke, builtin]
    have : Array.map (act ρ st).eval #[x] = #[den ρ (ev st.t x)] := by simp [hev]
    rw [this, q1]
    rfl
  · rename_i x y _
    unfold minS at h
    split at h <;> cases h
    rename_i h1 h2
    refine ⟨?_, trivial⟩
    simp only [Sem.run_bind, resolve, Sem.run_pure, Result.andThen_ok, invoke, builtin]
    have : Array.map (act ρ st).eval #[x, y] = #[den ρ (ev st.t x), den ρ (ev st.t y)] := by simp [hev]
    rw [this, h1, h2]
    simp [Builtin.min_, den, Builtin.min2]
  · rename_i x y _
    unfold maxS at h
    split at h <;> cases h
    rename_i h1 h2
    refine ⟨?_, trivial⟩
    simp only [Sem.run_bind, resolve, Sem.run_pure, Result.andThen_ok, invoke, builtin]
    have : Array.map (act ρ st).eval #[x, y] = #[den ρ (ev st.t x), den ρ (ev st.t y)] := by simp [hev]
    rw [this, h1, h2]
    simp [Builtin.max_, den, Builtin.max2]
  · obtain ⟨q1, q2⟩ := lookS_run hT h hp ρ (hoe _) w (by simpa [qn] using hH) hg
    exact ⟨by simp only [Sem.run_bind, q1]; rfl, q2⟩
  · cases h
end Go.Sx
