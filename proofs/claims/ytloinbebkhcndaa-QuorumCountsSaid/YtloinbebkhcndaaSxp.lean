/- Names renamed; what a state may be taken for; loops. No condition. -/
import Derived.Test.YtloinbebkhcndaaSxo
import Derived.Sort.LoopGhostIn
set_option linter.all false
namespace Go.Sx
open Go.RowKit
variable {P : Pr}

def rg : List (Option Nat) → Nat → Option Nat
  | [], _ => none
  | x :: _, 0 => x
  | _ :: r, k + 1 => rg r k

mutual
/-- A value in new names, said in the old. -/
def rnm (g : Nat → Option Nat) : SV → SV
  | .ptr nm b => match g nm with | some k => .ptr k b | none => .v (.pointer (some ⟨0, 0 + b, none⟩))
  | .pix nm b i s j => match g nm with | some k => .pix k b i s j | none => .v (.pointer (some ⟨0, 0 + b + i * s + j, none⟩))
  | .sl nm b e s len cap => match g nm with | some k => .sl k b e s len cap | none => .v (.slice (some ⟨0, 0 + b + e * s, none⟩) len cap)
  | .osl nm d e s n => match g nm with | some k => .osl k d e s n | none => .v (.slice none n (0 - e))
  | .mp nm => match g nm with | some k => .mp k | none => .v (.map (some 0))
  | .agg l => .agg (rnmL g l)
  | .fam n s f => .fam n s fun i => rnm g (f i)
  | .tup l => .tup (rnmL g l)
  | .fn f a c => .fn f (rnmL g a) (rnmL g c)
  | x => x
def rnmL (g : Nat → Option Nat) : List SV → List SV
  | [] => []
  | x :: l => rnm g x :: rnmL g l
end

def viaG (ρ : Env) (g : Nat → Option Nat) : Env := fun k => match g k with | some k0 => ρ k0 | none => ⟨0, 0, 0, true⟩

mutual
theorem den_rnm (ρ : Env) (g : Nat → Option Nat) : ∀ x : SV, den (viaG ρ g) x = den ρ (rnm g x)
  | .v _ | .int .. | .bool _ | .str _ => rfl
  | .ptr nm b | .pix nm b i s j | .sl nm b e s len cap | .mp nm => by
    simp only [rnm, den, viaG]
    cases g nm <;> simp [den]
  | .osl nm d e s n => by
    cases hg : g nm with
    | none =>
      have hv : viaG ρ g nm = ⟨0, 0, 0, true⟩ := by simp [viaG, hg]
      simp only [rnm, den, hg, hv, cond_true]
    | some k =>
      have hv : viaG ρ g nm = ρ k := by simp [viaG, hg]
      simp only [rnm, den, hg, hv]
  | .agg l => by simp only [rnm, den, denC_rnm ρ g l]
  | .fam n s f => by
    simp only [rnm, den]
    rw [flatMap_congr' _ _ n fun i _ => by rw [den_rnm ρ g (f i)]]
  | .tup l => by simp only [rnm, den, denL_rnm ρ g l]
  | .fn f a c => by simp only [rnm, den, denL_rnm ρ g a, denL_rnm ρ g c]
theorem denC_rnm (ρ : Env) (g : Nat → Option Nat) : ∀ l : List SV, denC (viaG ρ g) l = denC ρ (rnmL g l)
  | [] => rfl
  | x :: l => by simp only [rnmL, denC, den_rnm ρ g x, denC_rnm ρ g l]
theorem denL_rnm (ρ : Env) (g : Nat → Option Nat) : ∀ l : List SV, denL (viaG ρ g) l = denL ρ (rnmL g l)
  | [] => rfl
  | x :: l => by simp only [rnmL, denL, den_rnm ρ g x, denL_rnm ρ g l]
end

mutual
/-- Alike: rows place by place. -/
def eqv : SV → SV → Prop
  | .agg l, y => match y with | .agg l' => eqvL l l' | .fam n _ f => l.length = n ∧ eqvF l f | _ => False
  | .fam n s f, y => match y with | .fam n' s' f' => n = n' ∧ s = s' ∧ ∀ i, i < n → eqv (f i) (f' i) | _ => False
  | .tup l, y => match y with | .tup l' => eqvL l l' | _ => False
  | .fn f a c, y => match y with | .fn f' a' c' => f = f' ∧ eqvL a a' ∧ eqvL c c' | _ => False
  | x, y => x = y
def eqvL : List SV → List SV → Prop
  | [], y => y = []
  | x :: l, y => match y with | x' :: l' => eqv x x' ∧ eqvL l l' | [] => False
def eqvF : List SV → (Nat → SV) → Prop
  | [], _ => True
  | x :: l, f => eqv x (f 0) ∧ eqvF l fun i => f (i + 1)
end

mutual
theorem eqv_den (ρ : Env) : ∀ x y : SV, eqv x y → den ρ x = den ρ y
  | .agg l, y, h => by
    cases y <;> simp only [eqv] at h
    · simp only [den, (eqvL_den ρ l _ h).1]
    · obtain ⟨rfl, h⟩ := h
      simp only [den, eqvF_den ρ l _ h]
  | .fam n s f, y, h => by
    cases y <;> simp only [eqv] at h
    obtain ⟨rfl, rfl, h⟩ := h
    simp only [den]
    rw [flatMap_congr' _ _ n fun i hi => by rw [eqv_den ρ (f i) _ (h i hi)]]
  | .tup l, y, h => by
    cases y <;> simp only [eqv] at h
    simp only [den, (eqvL_den ρ l _ h).2]
  | .fn f a c, y, h => by
    cases y <;> simp only [eqv] at h
    obtain ⟨rfl, h1, h2⟩ := h
    simp only [den, (eqvL_den ρ a _ h1).2, (eqvL_den ρ c _ h2).2]
  | .v _, y, h | .int .., y, h | .bool _, y, h | .str _, y, h | .ptr .., y, h | .pix .., y, h | .sl .., y, h | .osl .., y, h | .mp _, y, h => by
    simp only [eqv] at h
    subst h
    rfl
theorem eqvL_den (ρ : Env) : ∀ l l' : List SV, eqvL l l' → denC ρ l = denC ρ l' ∧ denL ρ l = denL ρ l'
  | [], l', h => by simp only [eqvL] at h; subst h; exact ⟨rfl, rfl⟩
  | x :: l, l', h => by
    cases l' with
    | nil => simp only [eqvL] at h
    | cons x' l' =>
      simp only [eqvL] at h
      obtain ⟨h1, h2⟩ := eqvL_den ρ l l' h.2
      simp only [denC, denL, eqv_den ρ x x' h.1, h1, h2]
      exact ⟨trivial, trivial⟩
theorem eqvF_den (ρ : Env) : ∀ (l : List SV) (f : Nat → SV), eqvF l f → denC ρ l = (List.range l.length).flatMap fun i => (den ρ (f i)).cells.toList
  | [], f, _ => rfl
  | x :: l, f, h => by
    simp only [eqvF] at h
    rw [List.length_cons, List.range_succ_eq_map, List.flatMap_cons, denC, eqv_den ρ x _ h.1, eqvF_den ρ l _ h.2, List.flatMap_map]
end

mutual
theorem eqv_refl : ∀ x : SV, eqv x x
  | .agg l => by simp only [eqv]; exact eqvL_refl l
  | .fam n s f => by simp only [eqv]; exact ⟨trivial, trivial, fun i _ => eqv_refl (f i)⟩
  | .tup l => by simp only [eqv]; exact eqvL_refl l
  | .fn f a c => by simp only [eqv]; exact ⟨trivial, eqvL_refl a, eqvL_refl c⟩
  | .v _ | .int .. | .bool _ | .str _ | .ptr .. | .pix .. | .sl .. | .osl .. | .mp _ => by simp only [eqv]
theorem eqvL_refl : ∀ l : List SV, eqvL l l
  | [] => by simp only [eqvL]
  | x :: l => by simp only [eqvL]; exact ⟨eqv_refl x, eqvL_refl l⟩
end
mutual
theorem rnm_fix {g : Nat → Option Nat} {n : Nat} (hg : ∀ k, k < n → g k = some k) : ∀ x : SV, ok n x → eqv x (rnm g x)
  | .v _, _ | .int .., _ | .bool _, _ | .str _, _ => by simp only [rnm, eqv]
  | .ptr nm _, h | .pix nm .., h | .sl nm .., h | .osl nm .., h | .mp nm, h => by
    simp only [ok] at h
    simp only [rnm, hg nm h, eqv]
  | .agg l, h => by simp only [ok] at h; simp only [rnm, eqv]; exact rnmL_fix hg l h
  | .fam k s f, h => by simp only [ok] at h; simp only [rnm, eqv]; exact ⟨trivial, trivial, fun i hi => rnm_fix hg (f i) (h i hi).2⟩
  | .tup l, h => by simp only [ok] at h; simp only [rnm, eqv]; exact rnmL_fix hg l h
  | .fn f a c, h => by simp only [ok] at h; simp only [rnm, eqv]; exact ⟨trivial, rnmL_fix hg a h.1, rnmL_fix hg c h.2⟩
theorem rnmL_fix {g : Nat → Option Nat} {n : Nat} (hg : ∀ k, k < n → g k = some k) : ∀ l : List SV, okL n l → eqvL l (rnmL g l)
  | [], _ => by simp only [rnmL, eqvL]
  | x :: l, h => by simp only [okL] at h; simp only [rnmL, eqvL]; exact ⟨rnm_fix hg x h.1, rnmL_fix hg l h.2⟩
end

/-- An old chunk, and what it is called in new names. -/
def chEq (g : Nat → Option Nat) (c c' : Chunk) : Prop :=
  match c' with
  | .none => True
  | .cells wr' fs' => match c with
    | .cells wr fs => (wr' = true → wr = true) ∧ eqvL fs (rnmL g fs')
    | _ => False
  | .row wr' n' s' f' => match c with
    | .row wr n s f => (wr' = true → wr = true) ∧ n = n' ∧ s = s' ∧ ∀ i, i < n' → eqv (f i) (rnm g (f' i))
    | _ => False
  | .map n' key' val' born' clock' => match c with
    | .map n key val born clock => n = n' ∧ clock = clock' ∧ ∀ i, i < n' → eqv (key i) (rnm g (key' i)) ∧ eqv (val i) (rnm g (val' i)) ∧ born i = born' i
    | _ => False

theorem chEq_holds {ρ : Env} {w : World} {g : Nat → Option Nat} {c c' : Chunk} {k k0 : Nat} (h : chEq g c c') (hg : g k = some k0) (hh : Holds ρ w k0 c) : Holds (viaG ρ g) w k c' := by
  have hv : viaG ρ g k = ρ k0 := by simp [viaG, hg]
  unfold chEq at h
  split at h
  · trivial
  · split at h
    · rename_i wr' fs' _ wr fs
      have e : denC (viaG ρ g) fs' = denC ρ fs := by rw [denC_rnm, (eqvL_den ρ _ _ h.2).1]
      simp only [Holds, hv, e] at hh ⊢
      exact ⟨hh.1, hh.2.1, fun hw => hh.2.2 (h.1 hw)⟩
    · exact h.elim
  · split at h
    · rename_i wr' n' s' f' _ wr n s f
      obtain ⟨h1, rfl, rfl, h4⟩ := h
      have e : den (viaG ρ g) (.fam n s f') = den ρ (.fam n s f) := by
        simp only [den]
        rw [flatMap_congr' _ _ n fun i hi => by rw [den_rnm, ← eqv_den ρ _ _ (h4 i hi)]]
      simp only [Holds, hv, e] at hh ⊢
      split at hh
      · rename_i hn; rw [if_pos hn]; exact hh
      · rename_i hn; rw [if_neg hn]; exact ⟨hh.1, hh.2.1, fun hw => hh.2.2 (h1 hw)⟩
    · exact h.elim
  · split at h
    · rename_i n' key' val' born' clock' _ n key val born clock
      obtain ⟨rfl, rfl, h4⟩ := h
      have e : mapObj (viaG ρ g) n key' val' born' clock = mapObj ρ n key val born clock := by
        unfold mapObj
        congr 2
        apply List.map_congr_left
        intro i hi
        rw [List.mem_range] at hi
        obtain ⟨q1, q2, q3⟩ := h4 i hi
        rw [den_rnm, den_rnm, ← eqv_den ρ _ _ q1, ← eqv_den ρ _ _ q2, q3]
      simp only [Holds, hv, e] at hh ⊢
      exact hh
    · exact h.elim

theorem chEq_live {g : Nat → Option Nat} {c c' : Chunk} (h : chEq g c c') (hl : c'.live = true) : c.live = true := by
  unfold chEq at h
  split at h
  · cases hl
  all_goals
    split at h
    · rfl
    · exact h.elim
theorem chEq_wr {g : Nat → Option Nat} {c c' : Chunk} (h : chEq g c c') (hl : c'.wr = true) : c.wr = true := by
  unfold chEq at h
  split at h
  · cases hl
  · split at h
    · exact h.1 hl
    · exact h.elim
  · split at h
    · exact h.1 hl
    · exact h.elim
  · split at h
    · rfl
    · exact h.elim

/-- The whole heap in new names. A name for nothing old is a slice that is nil. -/
def renH (g : Nat → Option Nat) (h : List Chunk) : Nat → List Chunk → Prop
  | _, [] => True
  | k, c :: r => (match g k with
      | some k0 => chEq g (lookH h k0) c
      | none => match c with
        | .none => True
        | .row _ n _ _ => n = 0
        | _ => False) ∧ renH g h (k + 1) r

theorem renH_get {g : Nat → Option Nat} {h : List Chunk} : ∀ {H : List Chunk} {j k : Nat} {c : Chunk}, renH g h j H → H[k]? = some c →
    (match g (j + k) with
      | some k0 => chEq g (lookH h k0) c
      | none => match c with
        | .none => True
        | .row _ n _ _ => n = 0
        | _ => False)
  | [], _, _, _, _, hc => by simp at hc
  | c0 :: H, j, 0, c, hr, hc => by
    simp only [List.getElem?_cons_zero, Option.some.injEq] at hc
    subst hc
    exact hr.1
  | c0 :: H, j, k + 1, c, hr, hc => by
    have := renH_get (j := j + 1) (k := k) hr.2 (by simpa using hc)
    rw [show j + (k + 1) = j + 1 + k from by omega]
    exact this

/-- What the live names were called. -/
def liveN (g : Nat → Option Nat) : Nat → List Chunk → List Nat
  | _, [] => []
  | k, c :: r => match c.live, g k with
    | true, some k0 => k0 :: liveN g (k + 1) r
    | _, _ => liveN g (k + 1) r

theorem liveN_mem {g : Nat → Option Nat} : ∀ {H : List Chunk} {j k k0 : Nat} {c : Chunk}, H[k]? = some c → c.live = true → g (j + k) = some k0 → k0 ∈ liveN g j H
  | [], _, _, _, _, hc, _, _ => by simp at hc
  | c0 :: H, j, 0, k0, c, hc, hl, hg => by
    simp only [List.getElem?_cons_zero, Option.some.injEq] at hc
    subst hc
    simp only [liveN, hl]
    rw [show g j = some k0 from hg]
    exact List.mem_cons_self ..
  | c0 :: H, j, k + 1, k0, c, hc, hl, hg => by
    have := liveN_mem (g := g) (H := H) (j := j + 1) (k := k) (k0 := k0) (c := c) (by simpa using hc) hl (by rw [← hg]; congr 1; omega)
    simp only [liveN]
    split
    · exact List.mem_cons_of_mem _ this
    · exact this

theorem liveN_inj {g : Nat → Option Nat} : ∀ {H : List Chunk} {j k k' k0 : Nat} {c c' : Chunk}, (liveN g j H).Nodup → H[k]? = some c → H[k']? = some c' → c.live = true → c'.live = true → g (j + k) = some k0 → g (j + k') = some k0 → k = k'
  | [], _, _, _, _, _, _, _, hc, _, _, _, _, _ => by simp at hc
  | c0 :: H, j, 0, 0, _, _, _, _, _, _, _, _, _, _ => rfl
  | c0 :: H, j, 0, k' + 1, k0, c, c', hn, hc, hc', hl, hl', hg, hg' => by
    simp only [List.getElem?_cons_zero, Option.some.injEq] at hc
    subst hc
    simp only [liveN, hl] at hn
    rw [show g j = some k0 from hg] at hn
    have := liveN_mem (g := g) (H := H) (j := j + 1) (k := k') (k0 := k0) (c := c') (by simpa using hc') hl' (by rw [← hg']; congr 1; omega)
    exact absurd this (List.nodup_cons.1 hn).1
  | c0 :: H, j, k + 1, 0, k0, c, c', hn, hc, hc', hl, hl', hg, hg' => by
    simp only [List.getElem?_cons_zero, Option.some.injEq] at hc'
    subst hc'
    simp only [liveN, hl'] at hn
    rw [show g j = some k0 from hg'] at hn
    have := liveN_mem (g := g) (H := H) (j := j + 1) (k := k) (k0 := k0) (c := c) (by simpa using hc) hl (by rw [← hg]; congr 1; omega)
    exact absurd this (List.nodup_cons.1 hn).1
  | c0 :: H, j, k + 1, k' + 1, k0, c, c', hn, hc, hc', hl, hl', hg, hg' => by
    have hn' : (liveN g (j + 1) H).Nodup := by
      simp only [liveN] at hn
      split at hn
      · exact (List.nodup_cons.1 hn).2
      · exact hn
    have := liveN_inj (g := g) (H := H) (j := j + 1) (k := k) (k' := k') (k0 := k0) (c := c) (c' := c') hn' (by simpa using hc) (by simpa using hc') hl hl' (by rw [← hg]; congr 1; omega) (by rw [← hg']; congr 1; omega)
    omega

theorem lookH_get {H : List Chunk} {k : Nat} (hl : (lookH H k).live = true) : H[k]? = some (lookH H k) := lookH_some rfl (by intro hx; rw [hx] at hl; cases hl)

/-- The heap in new names is met as well. -/
theorem Models.rename {C : Ctx} {ρ : Env} {h H : List Chunk} {w : World} (hM : Models C ρ h w) {g : Nat → Option Nat} {nf : Nat} (hnf : C.n0 ≤ nf) (hfix : ∀ k, k < nf → g k = some k) (hle : nf ≤ H.length)
    (hr : renH g h 0 H) (hn : (liveN g 0 H).Nodup) (hgd : ∀ (k : Nat) (c : Chunk), H[k]? = some c → c.good H.length) : Models C (viaG ρ g) H w := by
  have hreal : ∀ k c, H[k]? = some c → Real (viaG ρ g) k c → ∃ k0, g k = some k0 ∧ chEq g (lookH h k0) c ∧ Real ρ k0 (lookH h k0) := by
    intro k c hc hR
    have h1 := renH_get hr hc
    rw [Nat.zero_add] at h1
    cases hg : g k with
    | none => simp [Real, viaG, hg] at hR
    | some k0 =>
      rw [hg] at h1
      refine ⟨k0, rfl, h1, chEq_live h1 hR.1, ?_⟩
      have := hR.2
      simpa [viaG, hg] using this
  refine ⟨hM.keep, ?_, Nat.le_trans hnf hle, ?_, hgd, ?_, ?_, ?_⟩
  · intro k hk
    simp only [viaG, hfix k (by omega)]
    exact hM.agree k hk
  · intro k c hc
    have h1 := renH_get hr hc
    rw [Nat.zero_add] at h1
    cases hg : g k with
    | none =>
      rw [hg] at h1
      have hv : viaG ρ g k = ⟨0, 0, 0, true⟩ := by simp [viaG, hg]
      cases c with
      | none => trivial
      | row wr n s f => simp only [Holds, hv]; simp only at h1; simp [h1]
      | _ => exact h1.elim
    | some k0 =>
      rw [hg] at h1
      exact chEq_holds h1 hg (lookH_holds hM k0)
  · intro k c hc hR
    obtain ⟨k0, hg, h1, h2⟩ := hreal k c hc hR
    have := hM.size k0 _ (lookH_get h2.1) h2
    simpa [viaG, hg] using this
  · intro k c hc hR
    obtain ⟨k0, hg, h1, h2⟩ := hreal k c hc hR.real
    have := hM.wr k0 _ (lookH_get h2.1) ⟨chEq_wr h1 hR.1, h2.2⟩
    simpa [viaG, hg] using this
  · intro k k' c c' hc hc' hne hR hR'
    obtain ⟨k0, hg, h1, h2⟩ := hreal k c hc hR.real
    obtain ⟨k0', hg', h1', h2'⟩ := hreal k' c' hc' hR'
    have hne' : k0 ≠ k0' := by
      rintro rfl
      exact hne (liveN_inj hn hc hc' hR.real.1 hR'.1 (by rw [Nat.zero_add]; exact hg) (by rw [Nat.zero_add]; exact hg'))
    have := hM.sep k0 k0' _ _ (lookH_get h2.1) (lookH_get h2'.1) hne' ⟨chEq_wr h1 hR.1, h2.2⟩ h2'
    simpa [viaG, hg, hg'] using this

/-- The slots that are known on, said in new names. -/
def renT (g : Nat → Option Nat) (t : Slots) : List (Nat × SV) → Prop
  | [] => True
  | (i, v) :: T => (eqv (slot t i) (rnm g v) ∧ i < t.n) ∧ renT g t T
def okT (n : Nat) : List (Nat × SV) → Prop
  | [] => True
  | (_, v) :: T => ok n v ∧ okT n T

theorem okT_E {m : Nat} {g : Nat → Option Nat} {t : Slots} : ∀ (T : List (Nat × SV)), okT m T → renT g t T → okE m t.n T
  | [], _, _ => trivial
  | (i, v) :: T, h, h' => by
    simp only [okT] at h
    simp only [renT] at h'
    exact ⟨⟨h'.1.2, h.1⟩, okT_E T h.2 h'.2⟩

theorem renT_slot {ρ : Env} {g : Nat → Option Nat} {t : Slots} {j : Nat → Value} {i : Nat} (hj : j i = den ρ (slot t i)) : ∀ (T : List (Nat × SV)), renT g t T → den (viaG ρ g) (lkL T j i) = den ρ (slot t i)
  | [], _ => by simp only [lkL, den, hj]
  | (k, v) :: T, h => by
    simp only [renT] at h
    simp only [lkL]
    split
    · rename_i hk; subst hk; rw [den_rnm, ← eqv_den ρ _ _ h.1.1]
    · exact renT_slot hj T h.2

/-- A state may be taken for one of J. -/
def Into (nf : Nat) (st : St) (J : St → Prop) : Prop :=
  ∀ (C : Ctx) (ρ : Env) (w : World), C.n0 ≤ nf → Models C ρ st.h w → okS st.h.length st.t →
    ∃ ρ' st', J st' ∧ Models C ρ' st'.h w ∧ okS st'.h.length st'.t ∧ act ρ st = act ρ' st'

theorem into_refl {nf : Nat} {st : St} {J : St → Prop} (h : J st) : Into nf st J := fun _ ρ _ _ hM hok => ⟨ρ, st, h, hM, hok, rfl⟩

theorem into_mono {nf : Nat} {st : St} {J J' : St → Prop} (h : Into nf st J) (hj : ∀ st, J st → J' st) : Into nf st J' := fun C ρ w hn hM hok =>
  let ⟨ρ', st', h1, h2⟩ := h C ρ w hn hM hok; ⟨ρ', st', hj _ h1, h2⟩

def goodH (n : Nat) : List Chunk → Prop
  | [] => True
  | c :: r => c.good n ∧ goodH n r
theorem goodH_get {n : Nat} : ∀ {H : List Chunk} {k : Nat} {c : Chunk}, goodH n H → H[k]? = some c → c.good n
  | [], _, _, _, hc => by simp at hc
  | c0 :: H, 0, c, h, hc => by simp at hc; subst hc; exact h.1
  | c0 :: H, k + 1, c, h, hc => goodH_get (k := k) h.2 (by simpa using hc)

def fixed (g : Nat → Option Nat) : Nat → Prop
  | 0 => True
  | n + 1 => g n = some n ∧ fixed g n
theorem fixed_spec {g : Nat → Option Nat} : ∀ {n : Nat}, fixed g n → ∀ k, k < n → g k = some k
  | n + 1, h, k, hk => by
    rcases Nat.lt_succ_iff_lt_or_eq.1 hk with h1 | rfl
    · exact fixed_spec h.2 k h1
    · exact h.1

theorem into_mk {nf n : Nat} {l : List (Nat × SV)} {j0 : Nat → Value} {h : List Chunk} {d : List Deferred} {J : St → Prop} (r : List (Option Nat)) (T : List (Nat × SV)) (H : List Chunk)
    (hfix : fixed (rg r) nf) (hle : nf ≤ H.length) (hr : renH (rg r) h 0 H) (hn : (liveN (rg r) 0 H).Nodup) (hg : goodH H.length H) (ht : renT (rg r) ⟨n, l, j0⟩ T) (ho : okT H.length T)
    (hJ : ∀ j, J ⟨⟨n, T, j⟩, H, d⟩) : Into nf ⟨⟨n, l, j0⟩, h, d⟩ J := fun C ρ w hC hM hok => by
  refine ⟨viaG ρ (rg r), ⟨⟨n, T, fun i => if i < n then den ρ (slot ⟨n, l, j0⟩ i) else undef⟩, H, d⟩, hJ _, hM.rename hC (fixed_spec hfix) hle hr hn (fun k c hc => goodH_get hg hc), ⟨fun i hi => if_neg (by simp only at hi; omega), okT_E (t := ⟨n, l, j0⟩) T ho ht⟩, ?_⟩
  have e : tmpsD ρ ⟨n, l, j0⟩ = tmpsD (viaG ρ (rg r)) ⟨n, T, fun i => if i < n then den ρ (slot ⟨n, l, j0⟩ i) else undef⟩ := by
    unfold tmpsD
    apply List.map_congr_left
    intro i hi
    rw [List.mem_range] at hi
    exact (renT_slot (t := ⟨n, l, j0⟩) (if_pos hi) T ht).symm
  simp only [act, e]

section
variable {tab : Tab} {nf : Nat} {pl : Nat → Plan}

theorem codeP_loop (hT : tab.Ok P) (hm : P.p.follows .mixedOrders = true) {c : Code} (hfit : fits pl c = true) {st : St} {N : Tok → St → Prop} {E : Tok → Exit → St → Prop} (I : Nat → St → Prop)
    (h0 : Into nf st (fun s => ∃ n, I n s)) (hr : ∀ n s, I n s → vc .mk P tab nf pl c s (fun _ s' => Into nf s' (fun s'' => ∃ m, m < n ∧ I m s'')) fun k e s' => e ≠ .normal ∧ E k e s') : codeP P nf (.loop c) st N E := by
  intro C ρ w F n hF hC hkn hM hok
  obtain ⟨ρ', st', ⟨n0, hI⟩, hM', hok', he⟩ := h0 C ρ w hC hM hok
  rw [he]
  refine wpIn_loop_ghost (fun n a w => ∃ ρ st, I n st ∧ Models C ρ st.h w ∧ okS st.h.length st.t ∧ a = act ρ st) n0 ⟨ρ', st', hI, hM', hok', rfl⟩ ?_
  rintro k a w ⟨ρ1, s1, hI1, hM1, hok1, rfl⟩
  refine Code.wpIn_mono ?_ (vc_run hT hm hC hkn hF c s1 _ _ hfit (hr k s1 hI1) ρ1 w hM1 hok1)
  rintro e a w ⟨ρ2, s2, hq, hM2, hok2, rfl⟩
  cases e with
  | normal =>
    obtain ⟨ρ3, s3, ⟨m, hlt, hI3⟩, hM3, hok3, he3⟩ := hq C ρ2 w hC hM2 hok2
    exact ⟨m, hlt, ρ3, s3, hI3, hM3, hok3, he3⟩
  | exit id => exact ⟨ρ2, s2, hq.2, hM2, hok2, rfl⟩
  | goto id => exact ⟨ρ2, s2, hq.2, hM2, hok2, rfl⟩
  | ret => exact ⟨ρ2, s2, hq.2, hM2, hok2, rfl⟩
  | panic id => exact ⟨ρ2, s2, hq.2, hM2, hok2, rfl⟩
  | outgrown => exact ⟨ρ2, s2, hq.2, hM2, hok2, rfl⟩

/-- A cut: behind a the state is one of J. -/
theorem codeP_seq (hT : tab.Ok P) (hm : P.p.follows .mixedOrders = true) {a b : Code} (hfa : fits pl a = true) {st : St} {N : Tok → St → Prop} {E : Tok → Exit → St → Prop} (J : St → Prop)
    (ha : vc .mk P tab nf pl a st (fun _ s => Into nf s J) fun k e s => e ≠ .normal ∧ E k e s) (hb : ∀ s, J s → codeP P nf b s N E) : codeP P nf (.seq a b) st N E := by
  intro C ρ w F n hF hC hkn hM hok
  refine wpIn_seq (Code.wpIn_mono ?_ (vc_run hT hm hC hkn hF a st _ _ hfa ha ρ w hM hok))
  rintro e a w ⟨ρ', st', hq, hM', hok', rfl⟩
  cases e with
  | normal =>
    obtain ⟨ρ3, s3, hJ, hM3, hok3, he3⟩ := hq C ρ' w hC hM' hok'
    rw [he3]
    exact hb s3 hJ C ρ3 w F n hF hC hkn hM3 hok3
  | exit id => exact ⟨ρ', st', hq.2, hM', hok', rfl⟩
  | goto id => exact ⟨ρ', st', hq.2, hM', hok', rfl⟩
  | ret => exact ⟨ρ', st', hq.2, hM', hok', rfl⟩
  | panic id => exact ⟨ρ', st', hq.2, hM', hok', rfl⟩
  | outgrown => exact ⟨ρ', st', hq.2, hM', hok', rfl⟩

theorem codeP_of_vc (hT : tab.Ok P) (hm : P.p.follows .mixedOrders = true) {c : Code} (hf : fits pl c = true) {st : St} {N : Tok → St → Prop} {E : Tok → Exit → St → Prop} (h : vc .mk P tab nf pl c st N E) : codeP P nf c st N E :=
  fun C ρ w F n hF hC hkn hM hok => vc_run hT hm hC hkn hF c st N E hf h ρ w hM hok
end
end Go.Sx
