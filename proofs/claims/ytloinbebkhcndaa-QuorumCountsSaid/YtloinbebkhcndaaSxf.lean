/- Making values, conversions; all operations that only read, in one. No condition. -/
import Derived.Test.YtloinbebkhcndaaSxe
set_option linter.all false
namespace Go.Sx
open Go.RowKit

/-- New fields over old ones, at an offset. -/
def wrF (b : Nat) (new l : List SV) : Option (List SV) :=
  match takeC b l with
  | some (a, rest) => match takeC (szL new) rest with
    | some (_, post) => some (a ++ (new ++ post))
    | none => none
  | none => none

theorem wrF_spec {b : Nat} {new l l' : List SV} (h : wrF b new l = some l') : ∃ a old post, l = a ++ (old ++ post) ∧ szL a = b ∧ szL old = szL new ∧ l' = a ++ (new ++ post) := by
  unfold wrF at h
  split at h
  · rename_i a rest h1
    split at h <;> cases h
    rename_i old post h2
    obtain ⟨rfl, h3⟩ := takeC_spec h1
    obtain ⟨rfl, h4⟩ := takeC_spec h2
    exact ⟨a, old, post, rfl, h3, h4, rfl⟩
  · cases h

def bldF (place : Nat → Option (Nat × Nat)) : List SV → List (Nat × SV) → Option (List SV)
  | l, [] => some l
  | l, (i, x) :: r => match place i with
    | some (off, size) => if sz x = size then (match wrF off (parts x) l with
        | some l' => bldF place l' r
        | none => none) else none
    | none => none

def plT (tab : Tab) (l : List (Nat × TypeId)) (i : Nat) : Option (Nat × Nat) :=
  match nthT l i with
  | some (off, ty) => match tab ty with
    | some e => some (off, e.size)
    | none => none
  | none => none

def bldS (tab : Tab) (t : TypeId) (ps : List (Nat × SV)) : Option (Prop × SV) :=
  match tab t with
  | some ⟨.struct l, _, _, z, zl⟩ => match ps with
    | [] => some (True, asRow z)
    | p :: ps => match bldF (plT tab l) zl (p :: ps) with
      | some l' => some (True, .agg l')
      | none => none
  | some ⟨.arr _ el, _, _, z, zl⟩ => match ps with
    | [] => some (True, asRow z)
    | p :: ps => match tab el with
      | some e => match bldF (fun i => some (i * e.size, e.size)) zl (p :: ps) with
        | some l' => some (True, .agg l')
        | none => none
      | none => none
  | _ => none

variable {P : Program}

theorem fill_fold (off : Nat) : ∀ (v : List Value) (k : Nat) (pre old post : List Value), pre.length = off + k → old.length = v.length →
    (v.zipIdx k).foldl (fun (cs : Array Value) (c, j) => cs.setIfInBounds (off + j) c) (pre ++ (old ++ post)).toArray = (pre ++ (v ++ post)).toArray
  | [], k, pre, old, post, h1, h2 => by
    obtain rfl : old = [] := List.length_eq_zero_iff.1 (by simpa using h2)
    rfl
  | x :: v, k, pre, old, post, h1, h2 => by
    cases old with
    | nil => simp at h2
    | cons y old =>
      simp only [List.zipIdx_cons, List.foldl_cons]
      have hs : (pre ++ (y :: old ++ post)).toArray.setIfInBounds (off + k) x = ((pre ++ [x]) ++ (old ++ post)).toArray := by
        rw [List.setIfInBounds_toArray, ← h1, List.set_append_right _ _ (Nat.le_refl _)]
        simp
      rw [hs, fill_fold off v (k + 1) (pre ++ [x]) old post (by simp; omega) (by simpa using h2)]
      simp

theorem bldF_run {place place' : Nat → Option (Nat × Nat)} (hpl : ∀ i x, place i = some x → place' i = some x) (ρ : Env) {n : Nat} : ∀ (ps : List (Nat × SV)) (l l' : List SV), bldF place l ps = some l' → okL n l → (∀ p ∈ ps, ok n p.2) →
    Instr.fill place' (denC ρ l).toArray (ps.map fun p => (p.1, den ρ p.2)) = some (denC ρ l').toArray ∧ okL n l'
  | [], l, l', h, ho, _ => by cases h; exact ⟨rfl, ho⟩
  | (i, x) :: ps, l, l', h, ho, hx => by
    simp only [bldF] at h
    split at h
    · rename_i off size hp
      split at h
      · rename_i hsz
        split at h
        · rename_i l1 hw
          obtain ⟨a, old, post, rfl, ha, hold, rfl⟩ := wrF_spec hw
          rw [szL_parts] at hold
          have hxo : ok n x := hx (i, x) (by simp)
          have h1 := okL_append.1 ho
          have h2 := okL_append.1 h1.2
          have ho' : okL n (a ++ (parts x ++ post)) := okL_append.2 ⟨h1.1, okL_append.2 ⟨okL_parts hxo, h2.2⟩⟩
          obtain ⟨q1, q2⟩ := bldF_run hpl ρ ps _ _ h ho' (fun p hp => hx p (by simp [hp]))
          refine ⟨?_, q2⟩
          rw [← q1]
          have la := denC_len ρ n a h1.1
          have lo := denC_len ρ n old h2.1
          have lx := cells_len ρ n x hxo
          simp only [List.map_cons, Instr.fill, hpl _ _ hp]
          rw [if_neg]
          · congr 1
            rw [denC_append, denC_append, denC_append, denC_append, denC_parts]
            have hf := fill_fold off (den ρ x).cells.toList 0 (denC ρ a) (denC ρ old) (denC ρ post) (by omega) (by omega)
            rw [← Array.foldl_toList, Array.toList_zipIdx]
            exact hf
          · rw [denC_append, denC_append]
            have e0 : (den ρ x).cells.size = sz x := by rw [← lx]; simp
            have e1 : (denC ρ a ++ (denC ρ old ++ denC ρ post)).toArray.size = szL a + (szL old + (denC ρ post).length) := by simp [la, lo]
            rw [e1, e0, Bool.or_eq_true, decide_eq_true_eq, decide_eq_true_eq]
            omega
        · cases h
      · cases h
    · cases h

theorem mapM_fields {P : Program} (w : World) (g : TypeId → Nat) : ∀ (fs : List Field), (∀ f ∈ fs, (sizeOf f.type).run P w = .ok (g f.type) w) →
    (fs.mapM fun f => (do pure (f.offset, ← sizeOf f.type) : Sem (Nat × Nat))).run P w = .ok (fs.map fun f => (f.offset, g f.type)) w
  | [], _ => by simp
  | f :: fs, h => by
    simp only [List.mapM_cons, Sem.run_bind, h f (by simp), Result.andThen_ok, Sem.run_pure, mapM_fields w g fs (fun x hx => h x (by simp [hx]))]
    rfl

theorem zero_run {t : TypeId} {e : Ent} (he : e.Fits P t) (ρ : Env) (w : World) : (zeroValue t).run P w = .ok (den ρ e.zero) w := by
  obtain ⟨i, hi, _, _, hz⟩ := he.info
  simp [zeroValue, typeInfo, hi, hz ρ]

theorem bldS_run {tab : Tab} (hT : tab.Ok P) {t : TypeId} {ps : List (Nat × SV)} {v : SV} {p : Prop} (h : bldS tab t ps = some (p, v)) (ρ : Env) {n : Nat} (hx : ∀ p ∈ ps, ok n p.2) (w : World) :
    (Instr.build t (ps.map fun p => (p.1, den ρ p.2)).toArray).run P w = .ok (den ρ v) w ∧ ok n v := by
  unfold bldS at h
  split at h
  · rename_i l sz' by' z zl he
    have hF := hT _ _ he
    obtain ⟨d, hu, hf⟩ := hF.und w
    obtain ⟨fa, rfl, hfs⟩ := hf
    have hz := zero_run hF ρ w
    have hg : ∀ f ∈ fa.toList, (sizeOf f.type).run P w = .ok (((P.info? f.type).map (·.size)).getD 0) w := by
      intro f hf
      have := hF.fld l rfl (f.offset, f.type) (by rw [← hfs]; exact List.mem_map.2 ⟨f, hf, rfl⟩)
      obtain ⟨i, hi⟩ := Option.isSome_iff_exists.1 this
      simp only at hi
      simp [sizeOf, typeInfo, hi]
    have hm := mapM_fields w (fun ty => ((P.info? ty).map (·.size)).getD 0) fa.toList hg
    have hm' : (fa.mapM fun f => (do pure (f.offset, ← sizeOf f.type) : Sem (Nat × Nat))).run P w = .ok (fa.toList.map fun f => (f.offset, ((P.info? f.type).map (·.size)).getD 0)).toArray w := by
      rw [Array.mapM_eq_mapM_toList, Sem.run_map, hm]
      rfl
    have hpl : ∀ i x, plT tab l i = some x → ((fa.toList.map fun f => (f.offset, ((P.info? f.type).map (·.size)).getD 0)).toArray[i]?) = some x := by
      intro i x hx
      unfold plT at hx
      rw [nthT_eq, ← hfs] at hx
      split at hx
      · rename_i off ty hn
        split at hx <;> cases hx
        rename_i e' hty
        rw [List.getElem?_map] at hn
        obtain ⟨f, hf1, hf2⟩ := Option.map_eq_some_iff.1 hn
        cases hf2
        obtain ⟨i', hi', hs', _⟩ := (hT _ _ hty).info
        simp only [List.getElem?_toArray, List.getElem?_map, hf1, Option.map_some, hi', Option.getD_some, hs']
      · cases hx
    obtain ⟨z1, z2, z3⟩ := hF.zlok
    simp only at z1 z2 z3 hz
    split at h
    · cases h
      have hzok : ok n z := ok_mono (Nat.zero_le _) z hF.zok
      refine ⟨?_, ok_asRow hzok⟩
      simp only [Instr.build, Sem.run_bind, hz, Result.andThen_ok, hu, hm', List.map_nil, Instr.fill, den_asRow, denC]
      simp
    · rename_i p0 ps0
      split at h <;> cases h
      rename_i l' hb
      obtain ⟨q1, q2⟩ := bldF_run hpl ρ (p0 :: ps0) _ _ hb (okL_mono (Nat.zero_le _) _ z1) hx
      refine ⟨?_, q2⟩
      simp only [Instr.build, Sem.run_bind, hz, Result.andThen_ok, hu, hm']
      rw [z3] at q1
      simp only [Array.toArray_toList] at q1
      simp only [q1, den]
      rfl
  · rename_i m el sz' by' z zl he
    have hF := hT _ _ he
    obtain ⟨d, hu, hf⟩ := hF.und w
    simp only [TD.fits] at hf
    subst hf
    have hz := zero_run hF ρ w
    obtain ⟨z1, z2, z3⟩ := hF.zlok
    simp only at z1 z2 z3 hz
    obtain ⟨ie, hie⟩ := Option.isSome_iff_exists.1 (hF.eld m el rfl)
    have hse : (sizeOf el).run P w = .ok ie.size w := by simp [sizeOf, typeInfo, hie]
    split at h
    · cases h
      have hzok : ok n z := ok_mono (Nat.zero_le _) z hF.zok
      refine ⟨?_, ok_asRow hzok⟩
      simp only [Instr.build, Sem.run_bind, hz, Result.andThen_ok, hu, hse, List.map_nil, Instr.fill, den_asRow, denC]
      simp
    · rename_i p0 ps0
      split at h
      · rename_i e hel
        obtain ⟨i', hi', hs', _⟩ := (hT _ _ hel).info
        have hsi : ie.size = e.size := by
          rw [hie] at hi'
          cases hi'
          exact hs'
        split at h <;> cases h
        rename_i l' hb
        obtain ⟨q1, q2⟩ := bldF_run (place' := fun i => some (i * e.size, e.size)) (fun _ _ hx => hx) ρ (p0 :: ps0) _ _ hb (okL_mono (Nat.zero_le _) _ z1) hx
        refine ⟨?_, q2⟩
        simp only [Instr.build, Sem.run_bind, hz, Result.andThen_ok, hu, hse, hsi]
        rw [z3] at q1
        simp only [Array.toArray_toList] at q1
        simp only [q1, den]
        rfl
      · cases h
  · cases h
end Go.Sx
