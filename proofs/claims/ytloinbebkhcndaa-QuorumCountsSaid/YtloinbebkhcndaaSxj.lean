/- Making and writing memory, symbolically; that the model says the same. No condition. -/
import Derived.Test.YtloinbebkhcndaaSxi
set_option linter.all false
namespace Go.Sx
open Go.RowKit
variable {P : Program}

theorem rangeAt_splice {w : World} {b o : Nat} {A B D E : List Value} (hr : w.rangeAt b o (A ++ (B ++ E))) (ht : w.there b o (A ++ (B ++ E)).length) (hl : D.length = B.length) :
    (w.setCells b (o + A.length) D).rangeAt b o (A ++ (D ++ E)) ∧ (w.setCells b (o + A.length) D).there b o (A ++ (D ++ E)).length := by
  rw [rangeAt_app, rangeAt_app] at hr
  have hlen : (A ++ (D ++ E)).length = (A ++ (B ++ E)).length := by simp [hl]
  refine ⟨?_, by rw [hlen]; exact World.there_setCells ht _ _ _⟩
  rw [rangeAt_app, rangeAt_app]
  refine ⟨World.rangeAt_setCells_apart hr.1 _ _ _ (.inr (.inl (Nat.le_refl _))), World.rangeAt_setCells_same _ _ _ _ ?_, ?_⟩
  · intro j hj
    have := ht (A.length + j) (by simp; omega)
    rwa [← Nat.add_assoc] at this
  · have h2 := hr.2.2
    rw [← hl] at h2
    exact World.rangeAt_setCells_apart h2 _ _ _ (.inr (.inr (Nat.le_refl _)))

theorem store_run {ty : TypeId} {e : Ent} (he : e.Fits P ty) (w : World) (b o : Nat) (v : Value) (hs : v.cells.size = e.size) (ht : w.there b o v.cells.size) (h1 : ∀ u ∈ v.cells.toList, u.oneCell' = true) :
    (Instr.storeAt ty (.pointer (some ⟨b, o, none⟩)) v).run P w = .ok () (w.setCells b o v.cells.toList) := by
  have := run_storeCells_cells (P := P) b o v.cells.toList 0 w (fun j hj => by simpa using (ht j (by simpa using hj)).1) (fun j hj => by simpa using (ht j (by simpa using hj)).2) h1
  simp only [Nat.add_zero] at this
  have hS := he.siz w
  simp only [Instr.storeAt, Instr.sureAddr, storeVar, Sem.run_bind, Sem.run_pure, Result.andThen_ok, hS]
  rw [if_neg (by rw [hs]; simp)]
  exact this

theorem there_mono {w : World} {b o n m : Nat} (h : w.there b o n) {k : Nat} (hk : k + m ≤ n) : w.there b (o + k) m := fun j hj => by
  have := h (k + j) (by omega)
  rwa [← Nat.add_assoc] at this

theorem flatMap_range_upd {α : Type} (F G : Nat → List α) (i s : Nat) (hne : ∀ k, k ≠ i → G k = F k) : ∀ n, (∀ k, k < n → (F k).length = s) → i < n →
    ∃ a c, (List.range n).flatMap F = a ++ (F i ++ c) ∧ (List.range n).flatMap G = a ++ (G i ++ c) ∧ a.length = i * s := by
  intro n hF hi
  obtain ⟨r, rfl⟩ : ∃ r, n = i + (1 + r) := ⟨n - i - 1, by omega⟩
  refine ⟨(List.range i).flatMap F, (List.range r).flatMap fun k => F (i + (1 + k)), ?_, ?_, flatMap_len _ s i fun k hk => hF k (by omega)⟩
  · rw [flatMap_range_split F i, flatMap_range_split (fun k => F (i + k)) 1]
    simp
  · rw [flatMap_range_split G i, flatMap_range_split (fun k => G (i + k)) 1]
    have e1 : (List.range i).flatMap G = (List.range i).flatMap F := flatMap_congr' _ _ i fun k hk => hne k (by omega)
    have e2 : ((List.range r).flatMap fun k => G (i + (1 + k))) = (List.range r).flatMap fun k => F (i + (1 + k)) := flatMap_congr' _ _ r fun k _ => hne _ (by omega)
    rw [e1, e2]
    simp

def stS (tab : Tab) (h : List Chunk) (ty : TypeId) (a x : SV) (K : List Chunk → Prop) : Prop :=
  match tab ty with
  | some e => match a with
    | .ptr nm b => match lookH h nm with
      | .cells true fs => match wrF b (parts x) fs with
        | some fs' => (sz x = e.size ∧ stor x) ∧ K (putH h nm (.cells true fs'))
        | none => False
      | _ => False
    | .pix nm b i s j => match lookH h nm with
      | .row true n s' f => (b = 0 ∧ j = 0 ∧ s = s' ∧ sz x = s ∧ i < n ∧ sz x = e.size ∧ stor x) ∧ K (putH h nm (.row true n s' fun k => if k = i then x else f k))
      | .cells true fs => match takeC b fs with
        | some (a, .fam n s' f :: post) => (j = 0 ∧ s = s' ∧ sz x = s ∧ i < n ∧ sz x = e.size ∧ stor x) ∧ K (putH h nm (.cells true (a ++ .fam n s' (fun k => if k = i then x else f k) :: post)))
        | some _ => match wrF (b + i * s + j) (parts x) fs with
          | some fs' => (sz x = e.size ∧ stor x) ∧ K (putH h nm (.cells true fs'))
          | none => False
        | none => False
      | _ => False
    | _ => False
  | none => False

/-- Fields written: what holds behind it. -/
theorem wr_fields {C : Ctx} {ρ : Env} {h : List Chunk} {w : World} (hM : Models C ρ h w) {nm b : Nat} {fs fs' : List SV} {x : SV} (hc : lookH h nm = .cells true fs) (hw : wrF b (parts x) fs = some fs') (hx : ok h.length x) (hst : stor x) :
    (w.there (ρ nm).b ((ρ nm).o + b) (den ρ x).cells.size) ∧ Models C ρ (putH h nm (.cells true fs')) (w.setCells (ρ nm).b ((ρ nm).o + b) (den ρ x).cells.toList) := by
  obtain ⟨a, old, post, rfl, ha, ho, rfl⟩ := wrF_spec hw
  rw [szL_parts] at ho
  have hH := look_holds hM nm
  have hG := look_good hM nm
  rw [hc] at hH hG
  have hok := okL_append.1 hG.1
  have hok2 := okL_append.1 hok.2
  have hs1 := storL_append.1 hG.2
  have hs2 := storL_append.1 hs1.2
  have la := denC_len ρ _ a hok.1
  have lo := denC_len ρ _ old hok2.1
  have lx := cells_len ρ _ x hx
  have lx' : (den ρ x).cells.size = sz x := by rw [← lx]; simp
  have ht := hH.2.2 rfl
  have hr := hH.2.1
  rw [denC_append, denC_append] at hr ht
  have hsp := rangeAt_splice (D := (den ρ x).cells.toList) hr ht (by omega)
  rw [la, ha] at hsp
  refine ⟨?_, ?_⟩
  · refine there_mono ht (k := b) ?_
    simp only [List.length_append]
    omega
  · refine hM.write (lookH_some hc (by simp)) ⟨rfl, hH.1⟩ (keep_setCells w _ _ _) ?_ ?_
    · exact ⟨okL_append.2 ⟨hok.1, okL_append.2 ⟨okL_parts hx, hok2.2⟩⟩, storL_append.2 ⟨hs1.1, storL_append.2 ⟨storL_parts hst, hs2.2⟩⟩⟩
    · refine ⟨hH.1, ?_, fun _ => ?_⟩
      · rw [denC_append, denC_append, denC_parts]; exact hsp.1
      · rw [denC_append, denC_append, denC_parts]; exact hsp.2

theorem stS_run {tab : Tab} (hT : tab.Ok P) {C : Ctx} {h : List Chunk} {ty : TypeId} {a x : SV} {K : List Chunk → Prop} (hs : stS tab h ty a x K) {ρ : Env} {w : World} (hM : Models C ρ h w) (hx : ok h.length x) :
    ∃ w' h', (Instr.storeAt ty (den ρ a) (den ρ x)).run P w = .ok () w' ∧ K h' ∧ Models C ρ h' w' ∧ h'.length = h.length := by
  unfold stS at hs
  have lx := cells_len ρ _ x hx
  have lx' : (den ρ x).cells.size = sz x := by rw [← lx]; simp
  split at hs
  · rename_i e he
    have hF := hT _ _ he
    split at hs
    · rename_i nm b
      split at hs
      · rename_i fs hc
        split at hs
        · rename_i fs' hw
          obtain ⟨⟨h1, h2⟩, hK⟩ := hs
          obtain ⟨q1, q2⟩ := wr_fields hM hc hw hx h2
          exact ⟨_, _, store_run hF w _ _ _ (by omega) q1 (stor_one ρ x h2), hK, q2, putH_length _ _ _⟩
        · exact hs.elim
      · exact hs.elim
    · rename_i nm b i s j
      split at hs
      · rename_i n s' f hc
        obtain ⟨⟨rfl, rfl, rfl, h1, hi, h2, h3⟩, hK⟩ := hs
        have hH := look_holds hM nm
        have hG := look_good hM nm
        rw [hc] at hH hG
        have hnil := (hH.some (by omega)).1
        have hcap := hH.nle
        simp only [Holds, hnil, Bool.false_eq_true, if_false] at hH
        have hfam : ∀ k, k < n → sz (f k) = s ∧ ok h.length (f k) := hG.1
        have hfst : ∀ k, k < n → stor (f k) := hG.2
        have ht := hH.2.2 trivial
        have hr := hH.1
        rw [cells_fam] at hr
        obtain ⟨A, E, e1, e2, hA⟩ := flatMap_range_upd (fun k => (den ρ (f k)).cells.toList) (fun k => (den ρ ((fun k => if k = i then x else f k) k)).cells.toList) i s
          (fun k hk => by simp only [if_neg hk]) n (fun k hk => (cells_len ρ _ (f k) (hfam k hk).2).trans (hfam k hk).1) hi
        simp only [if_true] at e2
        have hlen : (A ++ ((den ρ (f i)).cells.toList ++ E)).length = n * s := by rw [← e1]; exact flatMap_len _ s n fun k hk => (cells_len ρ _ (f k) (hfam k hk).2).trans (hfam k hk).1
        have hns : n * s ≤ (ρ nm).c * s := Nat.mul_le_mul_right _ hcap
        have ht' : w.there (ρ nm).b (ρ nm).o (A ++ ((den ρ (f i)).cells.toList ++ E)).length := by rw [hlen]; exact fun k hk => ht k (by omega)
        rw [e1] at hr
        have lf := (cells_len ρ _ (f i) (hfam i hi).2).trans (hfam i hi).1
        have hsp := rangeAt_splice (D := (den ρ x).cells.toList) hr ht' (by omega)
        rw [hA] at hsp
        have hth : w.there (ρ nm).b ((ρ nm).o + i * s) (den ρ x).cells.size := there_mono ht' (by simp only [List.length_append]; omega)
        refine ⟨w.setCells (ρ nm).b ((ρ nm).o + i * s) (den ρ x).cells.toList, _, ?_, hK, ?_, putH_length _ _ _⟩
        · have := store_run hF w (ρ nm).b ((ρ nm).o + i * s) (den ρ x) (by omega) hth (stor_one ρ x h3)
          simpa [den] using this
        · refine hM.write (lookH_some hc (by simp)) ⟨rfl, hnil⟩ (keep_setCells w _ _ _) ?_ ?_
          · refine ⟨fun k hk => ?_, fun k hk => ?_⟩
            · by_cases hki : k = i
              · simp only [hki, if_true]; exact ⟨h1, hx⟩
              · simp only [if_neg hki]; exact hfam k hk
            · by_cases hki : k = i
              · simp only [hki, if_true]; exact h3
              · simp only [if_neg hki]; exact hfst k hk
          · simp only [Holds, hnil, Bool.false_eq_true, if_false]
            refine ⟨?_, hcap, fun _ => World.there_setCells ht _ _ _⟩
            rw [cells_fam, e2]
            exact hsp.1
      · rename_i fs hc
        split at hs
        · rename_i a0 n s' f post htk
          obtain ⟨⟨rfl, rfl, h1, hi, h2, h3⟩, hK⟩ := hs
          have hH := look_holds hM nm
          have hG := look_good hM nm
          rw [hc] at hH hG
          obtain ⟨rfl, hb⟩ := takeC_spec htk
          have hok := okL_append.1 hG.1
          have hs1 := storL_append.1 hG.2
          have hfam : ∀ k, k < n → sz (f k) = s ∧ ok h.length (f k) := hok.2.1
          have hfst : ∀ k, k < n → stor (f k) := hs1.2.1
          have la := denC_len ρ _ a0 hok.1
          obtain ⟨A, E, e1, e2, hA⟩ := flatMap_range_upd (fun k => (den ρ (f k)).cells.toList) (fun k => (den ρ ((fun k => if k = i then x else f k) k)).cells.toList) i s
            (fun k hk => by simp only [if_neg hk]) n (fun k hk => (cells_len ρ _ (f k) (hfam k hk).2).trans (hfam k hk).1) hi
          simp only [if_true] at e2
          have ht := hH.2.2 rfl
          have hr := hH.2.1
          have hold : denC ρ (a0 ++ .fam n s f :: post) = (denC ρ a0 ++ A) ++ ((den ρ (f i)).cells.toList ++ (E ++ denC ρ post)) := by
            rw [denC_append, denC, cells_fam, e1]; simp
          have hnew : denC ρ (a0 ++ .fam n s (fun k => if k = i then x else f k) :: post) = (denC ρ a0 ++ A) ++ ((den ρ x).cells.toList ++ (E ++ denC ρ post)) := by
            rw [denC_append, denC, cells_fam, e2]; simp
          rw [hold] at hr ht
          have lf := (cells_len ρ _ (f i) (hfam i hi).2).trans (hfam i hi).1
          have hsp := rangeAt_splice (D := (den ρ x).cells.toList) hr ht (by omega)
          rw [List.length_append, la, hb, hA] at hsp
          have hth : w.there (ρ nm).b ((ρ nm).o + (b + i * s)) (den ρ x).cells.size := there_mono ht (by simp only [List.length_append]; omega)
          refine ⟨w.setCells (ρ nm).b ((ρ nm).o + (b + i * s)) (den ρ x).cells.toList, _, ?_, hK, ?_, putH_length _ _ _⟩
          · have := store_run hF w (ρ nm).b ((ρ nm).o + (b + i * s)) (den ρ x) (by omega) hth (stor_one ρ x h3)
            simpa [den, Nat.add_assoc] using this
          · refine hM.write (lookH_some hc (by simp)) ⟨rfl, hH.1⟩ (keep_setCells w _ _ _) ?_ ?_
            · refine ⟨okL_append.2 ⟨hok.1, fun k hk => ?_, hok.2.2⟩, storL_append.2 ⟨hs1.1, fun k hk => ?_, hs1.2.2⟩⟩
              · by_cases hki : k = i
                · simp only [hki, if_true]; exact ⟨h1, hx⟩
                · simp only [if_neg hki]; exact hfam k hk
              · by_cases hki : k = i
                · simp only [hki, if_true]; exact h3
                · simp only [if_neg hki]; exact hfst k hk
            · refine ⟨hH.1, ?_, fun _ => ?_⟩
              · rw [hnew]; exact hsp.1
              · rw [hnew]; exact hsp.2
        · split at hs
          · rename_i fs' hw
            obtain ⟨⟨h1, h2⟩, hK⟩ := hs
            obtain ⟨q1, q2⟩ := wr_fields hM hc hw hx h2
            refine ⟨_, _, ?_, hK, q2, putH_length _ _ _⟩
            have := store_run hF w _ _ (den ρ x) (by omega) q1 (stor_one ρ x h2)
            simpa [den, Nat.add_assoc] using this
          · exact hs.elim
        · exact hs.elim
      · exact hs.elim
    · exact hs.elim
  · exact hs.elim
end Go.Sx
