/- A contract said of a few names holds in every heap that has them. No condition. -/
import Derived.Test.YtloinbebkhcndaaSxp
set_option linter.all false
namespace Go.Sx
open Go.RowKit
variable {P : Pr}

theorem GoesOp.mono {C : Ctx} {h : List Chunk} {ρ : Env} {w : World} {r : Result Next} {K K' : SV → List Chunk → Prop} (hg : GoesOp P C h ρ w r K) (hk : ∀ v h', K v h' → K' v h') : GoesOp P C h ρ w r K' := by
  obtain ⟨w', ρ', sv, h', h1, h2, h3⟩ := hg
  exact ⟨w', ρ', sv, h', h1, hk _ _ h2, h3⟩

theorem callP_mono {f : FuncId} {args : List SV} {h : List Chunk} {K K' : Tok → SV → List Chunk → Prop} (hc : callP P f args h K) (hk : ∀ v h', K .mk v h' → K' .mk v h') : callP P f args h K' := by
  intro C ρ w hkn hM hok
  rcases hc C ρ w hkn hM hok with h1 | ⟨h1, h2⟩
  · exact .inl (h1.mono hk)
  · refine .inr ⟨h1, fun F n hF hro => CallsIn.mono (h2 F n hF hro) ?_⟩
    rintro e w' ⟨ρ', sv, h', q1, q2, q3⟩
    exact ⟨ρ', sv, h', q1, hk _ _ q2, q3⟩

def nth : List Nat → Nat → Option Nat
  | [], _ => none
  | x :: _, 0 => some x
  | _ :: r, k + 1 => nth r k

/-- A callee's name, in the caller's. -/
def up (r : List Nat) (n : Nat) (k : Nat) : Nat := match nth r k with | some k0 => k0 | none => n + (k - r.length)

def upG (r : List Nat) (n : Nat) : Nat → Option Nat := fun k => some (up r n k)

def rnmC (g : Nat → Option Nat) : Chunk → Chunk
  | .none => .none
  | .cells wr fs => .cells wr (rnmL g fs)
  | .row wr n s f => .row wr n s fun i => rnm g (f i)
  | .map n key val born clock => .map n (fun i => rnm g (key i)) (fun i => rnm g (val i)) born clock

/-- The callee's heap, laid into the caller's: what the callee could only read stays as the caller knows it. -/
def lay (g : Nat → Option Nat) : List Nat → List Chunk → List Chunk → List Chunk → List Chunk
  | k :: r, c0 :: hl, c :: cs, h => lay g r hl cs (match c0.wr with | true => putH h k (rnmC g c) | false => h)
  | _, _, cs, h => h ++ cs.map (rnmC g)
/-- The names that the callee may write. -/
def wrs : List Nat → List Chunk → List Nat
  | k :: r, c :: hl => match c.wr with | true => k :: wrs r hl | false => wrs r hl
  | _, _ => []

/-- What a callee counts on is there. -/
def has (g : Nat → Option Nat) (h : List Chunk) : List Nat → List Chunk → Prop
  | k :: r, c :: cs => k < h.length ∧ chEq g (lookH h k) c ∧ has g h r cs
  | [], [] => True
  | _, _ => False

def roOk : List Chunk → List Chunk → Prop
  | _ :: hl, c' :: hl' => True ∧ roOk hl hl'
  | [], hl' => ∀ c ∈ hl', c.live = true → c.wr = true
  | _ :: _, [] => False

theorem nth_get : ∀ (r : List Nat) (k : Nat), nth r k = r[k]?
  | [], _ => by simp [nth]
  | x :: r, 0 => by simp [nth]
  | x :: r, k + 1 => by simpa [nth] using nth_get r k

theorem has_get {g : Nat → Option Nat} {h : List Chunk} : ∀ {r : List Nat} {hl : List Chunk}, has g h r hl → r.length = hl.length ∧ ∀ (k k0 : Nat) (c : Chunk), r[k]? = some k0 → hl[k]? = some c → k0 < h.length ∧ chEq g (lookH h k0) c
  | [], [], _ => ⟨rfl, fun k k0 c h1 => by simp at h1⟩
  | k :: r, c :: cs, hh => by
    obtain ⟨h1, h2, h3⟩ := hh
    obtain ⟨q1, q2⟩ := has_get h3
    refine ⟨by simp [q1], fun j k0 c' hj hc => ?_⟩
    cases j with
    | zero => simp at hj hc; subst hj hc; exact ⟨h1, h2⟩
    | succ j => exact q2 j k0 c' (by simpa using hj) (by simpa using hc)
  | [], _ :: _, hh => hh.elim
  | _ :: _, [], hh => hh.elim

theorem lay_len {g : Nat → Option Nat} : ∀ (r : List Nat) (hl cs h : List Chunk), r.length = hl.length → r.length ≤ cs.length → (lay g r hl cs h).length = h.length + (cs.length - r.length)
  | [], [], cs, h, _, _ => by simp [lay]
  | k :: r, [], _, _, he, _ => by simp at he
  | [], _ :: _, _, _, he, _ => by simp at he
  | k :: r, _ :: _, [], h, _, hl => by simp at hl
  | k :: r, c0 :: hl, c :: cs, h, he, hl' => by
    simp only [lay, List.length_cons] at hl' ⊢
    rw [lay_len r hl cs _ (by simpa using he) (by omega)]
    cases c0.wr <;> simp [putH_length]

theorem wrs_sub : ∀ (r : List Nat) (hl : List Chunk) (x : Nat), x ∈ wrs r hl → x ∈ r
  | [], [], _, h => by simp [wrs] at h
  | [], _ :: _, _, h => by simp [wrs] at h
  | _ :: _, [], _, h => by simp [wrs] at h
  | k :: r, c :: hl, x, h => by
    simp only [wrs] at h
    split at h
    · rcases List.mem_cons.1 h with rfl | h
      · exact List.mem_cons_self ..
      · exact List.mem_cons_of_mem _ (wrs_sub r hl x h)
    · exact List.mem_cons_of_mem _ (wrs_sub r hl x h)

theorem wrs_mem : ∀ {r : List Nat} {hl : List Chunk} {k k0 : Nat} {c : Chunk}, r[k]? = some k0 → hl[k]? = some c → c.wr = true → k0 ∈ wrs r hl
  | [], _, _, _, _, h, _, _ => by simp at h
  | _ :: _, [], _, _, _, _, h, _ => by simp at h
  | x :: r, c :: hl, 0, k0, c', h1, h2, h3 => by
    simp at h1 h2
    subst h1 h2
    simp [wrs, h3]
  | x :: r, c :: hl, k + 1, k0, c', h1, h2, h3 => by
    have := wrs_mem (r := r) (hl := hl) (k := k) (by simpa using h1) (by simpa using h2) h3
    simp only [wrs]
    split
    · exact List.mem_cons_of_mem _ this
    · exact this

/-- Where a chunk of the whole comes from. -/
theorem lay_get {g : Nat → Option Nat} : ∀ (r : List Nat) (hl cs h : List Chunk) (k : Nat) (c : Chunk), r.length = hl.length → r.Nodup → (∀ x ∈ r, x < h.length) → r.length ≤ cs.length → (lay g r hl cs h)[k]? = some c →
    (k ∉ wrs r hl ∧ k < h.length ∧ h[k]? = some c) ∨ (∃ j, j < r.length ∧ r[j]? = some k ∧ ∃ c0, cs[j]? = some c0 ∧ c = rnmC g c0) ∨ (∃ j, r.length ≤ j ∧ k = h.length + (j - r.length) ∧ ∃ c0, cs[j]? = some c0 ∧ c = rnmC g c0)
  | [], [], cs, h, k, c, _, _, _, _, hc => by
    simp only [lay] at hc
    rcases Nat.lt_or_ge k h.length with hlt | hge
    · rw [List.getElem?_append_left hlt] at hc
      exact .inl ⟨by simp [wrs], hlt, hc⟩
    · rw [List.getElem?_append_right hge, List.getElem?_map] at hc
      obtain ⟨c0, h1, h2⟩ := Option.map_eq_some_iff.1 hc
      exact .inr (.inr ⟨k - h.length, by simp, by simp; omega, c0, h1, h2.symm⟩)
  | [], _ :: _, _, _, _, _, he, _, _, _, _ => by simp at he
  | _ :: _, [], _, _, _, _, he, _, _, _, _ => by simp at he
  | k0 :: r, _ :: _, [], h, k, c, _, _, _, hl, _ => by simp at hl
  | k0 :: r, ci :: hl, c1 :: cs, h, k, c, he, hn, hb, hl', hc => by
    simp only [lay] at hc
    obtain ⟨hn1, hn2⟩ := List.nodup_cons.1 hn
    cases hw : ci.wr with
    | true =>
      simp only [hw] at hc
      have hlen := putH_length h k0 (rnmC g c1)
      rcases lay_get r hl cs _ k c (by simpa using he) hn2 (fun x hx => by rw [hlen]; exact hb x (by simp [hx])) (by simpa using hl') hc with ⟨h1, h2, h3⟩ | ⟨j, h1, h2, c0, h3, h4⟩ | ⟨j, h1, h2, c0, h3, h4⟩
      · rw [hlen] at h2
        rw [putH_get] at h3
        by_cases hk : k = k0
        · subst hk
          rw [if_pos rfl, List.getElem?_eq_getElem h2] at h3
          simp at h3
          exact .inr (.inl ⟨0, by simp, by simp, c1, by simp, h3.symm⟩)
        · rw [if_neg hk] at h3
          exact .inl ⟨by simp [wrs, hw, hk, h1], h2, h3⟩
      · exact .inr (.inl ⟨j + 1, by simp; omega, by simpa using h2, c0, by simpa using h3, h4⟩)
      · refine .inr (.inr ⟨j + 1, by simp; omega, ?_, c0, by simpa using h3, h4⟩)
        rw [h2, hlen]
        simp only [List.length_cons]
        omega
    | false =>
      simp only [hw] at hc
      rcases lay_get r hl cs _ k c (by simpa using he) hn2 (fun x hx => hb x (by simp [hx])) (by simpa using hl') hc with ⟨h1, h2, h3⟩ | ⟨j, h1, h2, c0, h3, h4⟩ | ⟨j, h1, h2, c0, h3, h4⟩
      · exact .inl ⟨by simp [wrs, hw, h1], h2, h3⟩
      · exact .inr (.inl ⟨j + 1, by simp; omega, by simpa using h2, c0, by simpa using h3, h4⟩)
      · refine .inr (.inr ⟨j + 1, by simp; omega, ?_, c0, by simpa using h3, h4⟩)
        rw [h2]
        simp only [List.length_cons]
        omega

mutual
theorem ok_rnm {n m : Nat} {g : Nat → Option Nat} (hg : ∀ k, k < n → ∃ k0, g k = some k0 ∧ k0 < m) : ∀ x : SV, ok n x → sz (rnm g x) = sz x ∧ ok m (rnm g x)
  | .v _, _ | .int .., _ | .bool _, _ | .str _, _ => ⟨rfl, trivial⟩
  | .ptr nm b, h | .pix nm b i s j, h | .sl nm b e s len cap, h | .osl nm d e s n', h | .mp nm, h => by
    obtain ⟨k0, h1, h2⟩ := hg nm h
    simp only [rnm, h1]
    exact ⟨rfl, h2⟩
  | .agg l, h => by simp only [ok] at h; obtain ⟨h1, h2⟩ := okL_rnm hg l h; exact ⟨by simp only [rnm, sz, h1], by simpa only [rnm, ok] using h2⟩
  | .fam k s f, h => by
    simp only [ok] at h
    refine ⟨rfl, ?_⟩
    simp only [rnm, ok]
    intro i hi
    obtain ⟨h1, h2⟩ := ok_rnm hg (f i) (h i hi).2
    exact ⟨h1.trans (h i hi).1, h2⟩
  | .tup l, h => by simp only [ok] at h; obtain ⟨h1, h2⟩ := okL_rnm hg l h; exact ⟨rfl, by simpa only [rnm, ok] using h2⟩
  | .fn f a c, h => by
    simp only [ok] at h
    exact ⟨rfl, by simp only [rnm, ok]; exact ⟨(okL_rnm hg a h.1).2, (okL_rnm hg c h.2).2⟩⟩
theorem okL_rnm {n m : Nat} {g : Nat → Option Nat} (hg : ∀ k, k < n → ∃ k0, g k = some k0 ∧ k0 < m) : ∀ l : List SV, okL n l → szL (rnmL g l) = szL l ∧ okL m (rnmL g l)
  | [], _ => ⟨rfl, trivial⟩
  | x :: l, h => by
    simp only [okL] at h
    obtain ⟨h1, h2⟩ := ok_rnm hg x h.1
    obtain ⟨h3, h4⟩ := okL_rnm hg l h.2
    exact ⟨by simp only [rnmL, szL, h1, h3], by simp only [rnmL, okL]; exact ⟨h2, h4⟩⟩
end

mutual
theorem stor_rnm {g : Nat → Option Nat} : ∀ x : SV, stor x → stor (rnm g x)
  | .v _, h => h
  | .int .., _ | .bool _, _ | .str _, _ => trivial
  | .ptr nm b, h | .pix nm b i s j, h | .sl nm b e s len cap, h | .osl nm d e s n', h | .mp nm, h => by
    simp only [rnm]
    cases g nm <;> first | trivial | rfl
  | .agg l, h => by simp only [stor, rnm] at h ⊢; exact storL_rnm l h
  | .fam k s f, h => by simp only [stor, rnm] at h ⊢; exact fun i hi => stor_rnm (f i) (h i hi)
  | .tup l, h => h.elim
  | .fn f a c, _ => trivial
theorem storL_rnm {g : Nat → Option Nat} : ∀ l : List SV, storL l → storL (rnmL g l)
  | [], _ => trivial
  | x :: l, h => by simp only [storL, rnmL] at h ⊢; exact ⟨stor_rnm x h.1, storL_rnm l h.2⟩
end

theorem good_rnm {n m : Nat} {g : Nat → Option Nat} (hg : ∀ k, k < n → ∃ k0, g k = some k0 ∧ k0 < m) {c : Chunk} (h : c.good n) : (rnmC g c).good m := by
  cases c with
  | none => trivial
  | cells wr fs => exact ⟨(okL_rnm hg fs h.1).2, storL_rnm fs h.2⟩
  | row wr k s f => exact ⟨(ok_rnm hg (.fam k s f) h.1).2, stor_rnm (.fam k s f) h.2⟩
  | map k key val born clock => exact fun i hi => ⟨(ok_rnm hg _ (h i hi).1).2, (ok_rnm hg _ (h i hi).2).2⟩

theorem live_rnm {g : Nat → Option Nat} (c : Chunk) : (rnmC g c).live = c.live := by cases c <;> rfl
theorem wr_rnm {g : Nat → Option Nat} (c : Chunk) : (rnmC g c).wr = c.wr := by cases c <;> rfl

theorem holds_rnm {ρ ρ' : Env} {w : World} {g : Nat → Option Nat} {n : Nat} (hg : ∀ j, j < n → ρ' j = viaG ρ g j) {k k0 : Nat} {c : Chunk} (hk : k < n) (hgk : g k = some k0) (hc : c.good n) (hh : Holds ρ' w k c) : Holds ρ w k0 (rnmC g c) := by
  have ha : Agree n ρ' (viaG ρ g) := fun j hj => (hg j hj).symm
  have h1 := holds_agree ha hk hc hh
  have hv : viaG ρ g k = ρ k0 := by simp [viaG, hgk]
  cases c with
  | none => trivial
  | cells wr fs => simpa only [Holds, rnmC, hv, denC_rnm] using h1
  | row wr m s f =>
    have e : den (viaG ρ g) (.fam m s f) = den ρ (.fam m s fun i => rnm g (f i)) := by
      rw [den_rnm]; rfl
    simpa only [Holds, rnmC, hv, e] using h1
  | map m key val born clock =>
    have e : mapObj (viaG ρ g) m key val born clock = mapObj ρ m (fun i => rnm g (key i)) (fun i => rnm g (val i)) born clock := by
      unfold mapObj
      simp only [den_rnm]
    simpa only [Holds, rnmC, hv, e] using h1

theorem roOk_new : ∀ {hl hl' : List Chunk}, roOk hl hl' → hl.length ≤ hl'.length ∧ ∀ (j : Nat) (c : Chunk), hl.length ≤ j → hl'[j]? = some c → c.live = true → c.wr = true
  | [], hl', h => ⟨by simp, fun j c _ hc hl => h c (List.mem_of_getElem? hc) hl⟩
  | _ :: hl, [], h => h.elim
  | _ :: hl, c' :: hl', h => by
    obtain ⟨h1, h2⟩ := roOk_new h.2
    refine ⟨by simp; omega, fun j c hj hc => ?_⟩
    cases j with
    | zero => simp at hj
    | succ j => exact h2 j c (by simp at hj; omega) (by simpa using hc)

def keepsLive : List Chunk → List Chunk → Prop
  | c :: hl, c' :: hl' => (c'.live = true → c.live = true) ∧ keepsLive hl hl'
  | _, _ => True
theorem keepsLive_get : ∀ {hl hl' : List Chunk} {j : Nat} {c' : Chunk}, keepsLive hl hl' → j < hl.length → hl'[j]? = some c' → c'.live = true → ∃ c, hl[j]? = some c ∧ c.live = true
  | [], _, j, _, _, hj, _, _ => by simp at hj
  | c :: hl, [], j, _, _, _, hc, _ => by simp at hc
  | c :: hl, c1 :: hl', 0, c', h, hj, hc, hl1 => by
    simp at hc
    subst hc
    exact ⟨c, by simp, h.1 hl1⟩
  | c :: hl, c1 :: hl', j + 1, c', h, hj, hc, hl1 => by
    obtain ⟨c0, h1, h2⟩ := keepsLive_get (j := j) h.2 (by simpa using hj) (by simpa using hc) hl1
    exact ⟨c0, by simpa using h1, h2⟩

theorem viaG_up {ρ : Env} {r : List Nat} {n k k0 : Nat} (h : r[k]? = some k0) : viaG ρ (upG r n) k = ρ k0 := by
  simp only [viaG, upG, up, nth_get, h]

/-- The frame, in the model: what a callee leaves is met by the caller's heap with the callee's laid in. -/
theorem frame_models {C : Ctx} {ρ : Env} {h : List Chunk} {w : World} (hM : Models C ρ h w) {r : List Nat} {hl : List Chunk} (hr : r.Nodup) (hh : has (upG r h.length) h r hl) {X : Nat → Prop}
    (hX : ∀ b, X b → ∃ (k k0 : Nat) (c : Chunk), r[k]? = some k0 ∧ hl[k]? = some c ∧ c.wr = true ∧ (ρ k0).nil = false ∧ b = (ρ k0).b)
    {ρ' : Env} {hl' : List Chunk} {w' : World} (hM' : Models ⟨w, X, viaG ρ (upG r h.length), hl.length⟩ ρ' hl' w') (ha : Agree hl.length (viaG ρ (upG r h.length)) ρ') (hle : hl.length ≤ hl'.length) (hro : roOk hl hl') (hkl : keepsLive hl hl') :
    ∃ ρ'', Models C ρ'' (lay (upG r h.length) r hl hl' h) w' ∧ Agree h.length ρ ρ'' ∧ ∀ x, ok hl'.length x → den ρ' x = den ρ'' (rnm (upG r h.length) x) := by
  obtain ⟨hlen, hget⟩ := has_get hh
  let n := h.length
  let g := upG r n
  let ρ'' : Env := fun k => if k < n then ρ k else ρ' (k - n + hl.length)
  have hrl : ∀ x ∈ r, x < n := fun x hx => by
    obtain ⟨k, hk⟩ := List.getElem?_of_mem hx
    have hkl : k < hl.length := by rw [← hlen]; exact get_lt hk
    exact (hget k x hl[k] hk (List.getElem?_eq_getElem hkl)).1
  have hrlen : r.length ≤ hl'.length := by omega
  have hlay : (lay g r hl hl' h).length = n + (hl'.length - r.length) := lay_len r hl hl' h hlen hrlen
  have hga : Agree n ρ ρ'' := fun k hk => by simp only [ρ'', if_pos hk]
  have hupold : ∀ j, j < r.length → ∃ k0, r[j]? = some k0 ∧ g j = some k0 ∧ k0 < n := fun j hj =>
    ⟨r[j], List.getElem?_eq_getElem hj, by simp [g, upG, up, nth_get, hj], hrl _ (List.getElem_mem hj)⟩
  have hupnew : ∀ j, r.length ≤ j → g j = some (n + (j - r.length)) := fun j hj => by
    simp only [g, upG, up, nth_get, List.getElem?_eq_none hj]
  have hρ : ∀ j, j < hl'.length → ρ' j = viaG ρ'' g j := fun j _ => by
    rcases Nat.lt_or_ge j r.length with hj | hj
    · obtain ⟨k0, h1, h2, h3⟩ := hupold j hj
      have h4 := ha j (by omega)
      rw [h4]
      simp only [viaG, h2]
      rw [show upG r h.length j = some k0 from h2]
      simp only [ρ'', if_pos h3]
    · simp only [viaG, hupnew j hj, ρ'']
      rw [if_neg (by omega)]
      congr 1
      omega
  have hgn : ∀ k, k < hl'.length → ∃ k0, g k = some k0 ∧ k0 < (lay g r hl hl' h).length := fun k hk => by
    rcases Nat.lt_or_ge k r.length with hj | hj
    · obtain ⟨k0, h1, h2, h3⟩ := hupold k hj
      exact ⟨k0, h2, by omega⟩
    · exact ⟨_, hupnew k hj, by omega⟩
  -- what the callee's own names are
  have himg : ∀ (j : Nat) (c0 : Chunk), hl'[j]? = some c0 → ∀ k, g j = some k → (Real ρ'' k (rnmC g c0) ↔ Real ρ' j c0) ∧ (RealW ρ'' k (rnmC g c0) ↔ RealW ρ' j c0) ∧ ρ'' k = ρ' j := fun j c0 hc k hk => by
    have h1 : ρ'' k = ρ' j := by
      rw [hρ j (get_lt hc)]
      simp only [viaG, hk]
    exact ⟨by simp only [Real, live_rnm, h1], by simp only [RealW, wr_rnm, h1], h1⟩
  have hwrX : ∀ (k0 : Nat) (c0 : Chunk), k0 ∉ wrs r hl → h[k0]? = some c0 → Real ρ k0 c0 → ¬ X (ρ k0).b := fun k0 c0 hk hc hR hx => by
    obtain ⟨k, k1, c, q1, q2, q3, q4, q5⟩ := hX _ hx
    obtain ⟨p1, p2⟩ := hget k k1 c q1 q2
    have hw := chEq_wr p2 q3
    have hne : k1 ≠ k0 := fun e => hk (e ▸ wrs_mem q1 q2 q3)
    exact hM.sep k1 k0 _ c0 (lookH_get (live_of_wr hw)) hc hne ⟨hw, q4⟩ hR q5.symm
  refine ⟨ρ'', ?_, hga, fun x hx => ?_⟩
  · refine hM.step (Y := X) hM'.keep ?_ hga (by show n ≤ _; rw [hlay]; omega) ?_ ?_
    · intro b hb
      obtain ⟨k, k1, c, q1, q2, q3, q4, q5⟩ := hX _ hb
      obtain ⟨p1, p2⟩ := hget k k1 c q1 q2
      have hw := chEq_wr p2 q3
      exact ⟨k1, _, lookH_get (live_of_wr hw), ⟨hw, q4⟩, q5.symm⟩
    · intro k c' hc
      have himage : ∀ (j : Nat) (c0 : Chunk), hl'[j]? = some c0 → g j = some k → c' = rnmC g c0 → (c'.good (lay g r hl hl' h).length ∧ Holds ρ'' w' k c' ∧ (Real ρ'' k c' → (ρ'' k).b < w'.heap.size) ∧
          (RealW ρ'' k c' → w.heap.size ≤ (ρ'' k).b ∨ ∃ k0 c0, h[k0]? = some c0 ∧ RealW ρ k0 c0 ∧ (ρ k0).b = (ρ'' k).b)) := by
        rintro j c0 h1 h2 rfl
        obtain ⟨i1, i2, i3⟩ := himg j c0 h1 k h2
        refine ⟨good_rnm hgn (hM'.okc j c0 h1), holds_rnm hρ (get_lt h1) h2 (hM'.okc j c0 h1) (hM'.holds j c0 h1), fun hR => ?_, fun hR => ?_⟩
        · rw [i3]; exact hM'.size j c0 h1 (i1.1 hR)
        · rw [i3]
          rcases hM'.wr j c0 h1 (i2.1 hR) with hx | hx
          · obtain ⟨k2, k1, c, q1, q2, q3, q4, q5⟩ := hX _ hx
            obtain ⟨p1, p2⟩ := hget k2 k1 c q1 q2
            have hw := chEq_wr p2 q3
            exact .inr ⟨k1, _, lookH_get (live_of_wr hw), ⟨hw, q4⟩, q5.symm⟩
          · exact .inl hx
      rcases lay_get r hl hl' h k c' hlen hr hrl hrlen hc with ⟨h1, h2, h3⟩ | ⟨j, h1, h2, c0, h3, h4⟩ | ⟨j, h1, h2, c0, h3, h4⟩
      · exact .inl ⟨h3, fun hR => hwrX k c' h1 h3 hR⟩
      · refine .inr (himage j c0 h3 ?_ h4)
        obtain ⟨k0, q1, q2, _⟩ := hupold j h1
        rw [h2] at q1
        cases q1
        exact q2
      · refine .inr (himage j c0 h3 ?_ h4)
        rw [hupnew j h1, h2]
    · intro k k' c c' hc hc' hne hR hR'
      have cls : ∀ (k : Nat) (c : Chunk), (lay g r hl hl' h)[k]? = some c → (k ∉ wrs r hl ∧ k < n ∧ h[k]? = some c) ∨ ∃ (j : Nat) (c0 : Chunk), hl'[j]? = some c0 ∧ g j = some k ∧ c = rnmC g c0 := by
        intro k c hc
        rcases lay_get r hl hl' h k c hlen hr hrl hrlen hc with h1 | ⟨j, h1, h2, c0, h3, h4⟩ | ⟨j, h1, h2, c0, h3, h4⟩
        · exact .inl h1
        · obtain ⟨k0, q1, q2, _⟩ := hupold j h1
          rw [h2] at q1
          cases q1
          exact .inr ⟨j, c0, h3, q2, h4⟩
        · exact .inr ⟨j, c0, h3, by rw [hupnew j h1, h2], h4⟩
      rcases cls k c hc with ⟨a1, a2, a3⟩ | ⟨j, c0, b1, b2, rfl⟩ <;> rcases cls k' c' hc' with ⟨a1', a2', a3'⟩ | ⟨j', c0', b1', b2', rfl⟩
      · rw [hga k a2, hga k' a2']
        exact hM.sep k k' c c' a3 a3' hne (realW_agree hga a2 hR) (real_agree hga a2' hR')
      · obtain ⟨i1, i2, i3⟩ := himg j' c0' b1' k' b2'
        rw [i3, hga k a2]
        have hRk := realW_agree hga a2 hR
        have hRj := i1.1 hR'
        rcases Nat.lt_or_ge j' hl.length with hj | hj
        · obtain ⟨cl, q1, q2⟩ := keepsLive_get hkl hj b1' hRj.1
          obtain ⟨k0, p1, p2, p3⟩ := hupold j' (by omega)
          obtain ⟨_, p5⟩ := hget j' k0 cl p1 q1
          have hk0 : k' = k0 := by rw [p2] at b2'; cases b2'; rfl
          subst hk0
          have hlv := chEq_live p5 q2
          rw [← i3, hga k' p3]
          refine hM.sep k k' c _ a3 (lookH_get hlv) hne hRk ⟨hlv, ?_⟩
          have := hR'.2
          rw [hga k' p3] at this
          exact this
        · have hw := (roOk_new hro).2 j' c0' hj b1' hRj.1
          have hsz := hM.size k c a3 hRk.real
          rcases hM'.wr j' c0' b1' ⟨hw, hRj.2⟩ with hx | hx
          · intro e
            rw [← e] at hx
            exact hwrX k c a1 a3 hRk.real hx
          · have hx' : w.heap.size ≤ (ρ' j').b := hx
            omega
      · obtain ⟨i1, i2, i3⟩ := himg j c0 b1 k b2
        rw [i3, hga k' a2']
        have hRk' := real_agree hga a2' hR'
        have hsz := hM.size k' c' a3' hRk'
        rcases hM'.wr j c0 b1 (i2.1 hR) with hx | hx
        · intro e
          rw [e] at hx
          exact hwrX k' c' a1' a3' hRk' hx
        · have hx' : w.heap.size ≤ (ρ' j).b := hx
          omega
      · obtain ⟨i1, i2, i3⟩ := himg j c0 b1 k b2
        obtain ⟨i1', i2', i3'⟩ := himg j' c0' b1' k' b2'
        rw [i3, i3']
        refine hM'.sep j j' c0 c0' b1 b1' ?_ (i2.1 hR) (i1'.1 hR')
        rintro rfl
        rw [b2] at b2'
        cases b2'
        exact hne rfl
  · have h1 := den_agree (n := hl'.length) (fun j hj => (hρ j hj).symm) x hx
    rw [← h1, den_rnm]

/-- A contract of a few names, in a heap that has them. -/
theorem callP_frame {f : FuncId} {args argsL : List SV} {h hl : List Chunk} {K KL : Tok → SV → List Chunk → Prop} (r : List Nat) (hc : callP P f argsL hl KL) (hr : r.Nodup) (hh : has (upG r h.length) h r hl)
    (hgl : goodH hl.length hl) (hol : okL hl.length argsL) (ha : args = rnmL (upG r h.length) argsL)
    (hk : ∀ v hl', KL .mk v hl' → roOk hl hl' ∧ keepsLive hl hl' ∧ K .mk (rnm (upG r h.length) v) (lay (upG r h.length) r hl hl' h)) : callP P f args h K := by
  intro C ρ w hkn hM hok
  obtain ⟨hlen, hget⟩ := has_get hh
  let X : Nat → Prop := fun b => ∃ (k k0 : Nat) (c : Chunk), r[k]? = some k0 ∧ hl[k]? = some c ∧ c.wr = true ∧ (ρ k0).nil = false ∧ b = (ρ k0).b
  have hpair : ∀ (k : Nat) (c : Chunk), hl[k]? = some c → ∃ k0, r[k]? = some k0 ∧ upG r h.length k = some k0 ∧ chEq (upG r h.length) (lookH h k0) c ∧ viaG ρ (upG r h.length) k = ρ k0 := fun k c hc' => by
    have hk' : k < r.length := by rw [hlen]; exact get_lt hc'
    refine ⟨r[k], List.getElem?_eq_getElem hk', by simp [upG, up, nth_get, hk'], (hget k _ c (List.getElem?_eq_getElem hk') hc').2, viaG_up (List.getElem?_eq_getElem hk')⟩
  have hML : Models ⟨w, X, viaG ρ (upG r h.length), hl.length⟩ (viaG ρ (upG r h.length)) hl w := by
    refine ⟨Keep.refl _ _, fun _ _ => rfl, Nat.le_refl _, ?_, fun k c hc' => goodH_get hgl hc', ?_, ?_, ?_⟩
    · intro k c hc'
      obtain ⟨k0, h1, h2, h3, h4⟩ := hpair k c hc'
      exact chEq_holds h3 h2 (lookH_holds hM k0)
    · intro k c hc' hR
      obtain ⟨k0, h1, h2, h3, h4⟩ := hpair k c hc'
      have hlv := chEq_live h3 hR.1
      rw [h4]
      exact hM.size k0 _ (lookH_get hlv) ⟨hlv, by rw [← h4]; exact hR.2⟩
    · intro k c hc' hR
      obtain ⟨k0, h1, h2, h3, h4⟩ := hpair k c hc'
      exact .inl ⟨k, k0, c, h1, hc', hR.1, by rw [← h4]; exact hR.2, by rw [h4]⟩
    · intro k k' c c' hc1 hc2 hne hR hR'
      obtain ⟨k0, h1, h2, h3, h4⟩ := hpair k c hc1
      obtain ⟨k0', h1', h2', h3', h4'⟩ := hpair k' c' hc2
      have hlv := chEq_live h3 (live_of_wr hR.1)
      have hlv' := chEq_live h3' hR'.1
      rw [h4, h4']
      refine hM.sep k0 k0' _ _ (lookH_get hlv) (lookH_get hlv') ?_ ⟨chEq_wr h3 hR.1, by rw [← h4]; exact hR.2⟩ ⟨hlv', by rw [← h4']; exact hR'.2⟩
      rintro rfl
      have hk1 := get_lt h1
      have hk2 := get_lt h1'
      rw [List.getElem?_eq_getElem hk1] at h1
      rw [List.getElem?_eq_getElem hk2] at h1'
      have := (List.getElem_inj (h₀ := hk1) (h₁ := hk2) hr).1 (by simp at h1 h1'; rw [h1, h1'])
      exact hne this
  have hargs : denL ρ args = denL (viaG ρ (upG r h.length)) argsL := by rw [denL_rnm, ha]
  have hkn' : P.know w X := P.keep hkn hM.keep fun b hb => by
    obtain ⟨k, k0, c, q1, q2, q3, q4, rfl⟩ := hb
    obtain ⟨p1, p2⟩ := hget k k0 c q1 q2
    have hw := chEq_wr p2 q3
    exact hM.wr k0 _ (lookH_get (live_of_wr hw)) ⟨hw, q4⟩
  have hgoes := hc ⟨w, X, viaG ρ (upG r h.length), hl.length⟩ (viaG ρ (upG r h.length)) w hkn' hML hol
  rw [hargs]
  have fin : ∀ ρ' sv hl' w', KL .mk sv hl' → Models ⟨w, X, viaG ρ (upG r h.length), hl.length⟩ ρ' hl' w' → Agree hl.length (viaG ρ (upG r h.length)) ρ' → ok hl'.length sv → hl.length ≤ hl'.length →
      ∃ ρ'', den ρ' sv = den ρ'' (rnm (upG r h.length) sv) ∧ K .mk (rnm (upG r h.length) sv) (lay (upG r h.length) r hl hl' h) ∧ Models C ρ'' (lay (upG r h.length) r hl hl' h) w' ∧ Agree h.length ρ ρ'' ∧
        ok (lay (upG r h.length) r hl hl' h).length (rnm (upG r h.length) sv) ∧ h.length ≤ (lay (upG r h.length) r hl hl' h).length := by
    intro ρ' sv hl' w' hK hM' ha' hs hl2
    obtain ⟨q1, q2, q3⟩ := hk sv hl' hK
    obtain ⟨ρ'', m1, m2, m3⟩ := frame_models hM hr hh (X := X) (fun b hb => hb) hM' ha' hl2 q1 q2
    have hrlen : r.length ≤ hl'.length := by omega
    have hll := lay_len (g := upG r h.length) r hl hl' h hlen hrlen
    refine ⟨ρ'', m3 sv hs, q3, m1, m2, ?_, by omega⟩
    refine (ok_rnm (n := hl'.length) (fun k hk => ?_) sv hs).2
    rcases Nat.lt_or_ge k r.length with hj | hj
    · refine ⟨r[k], by simp [upG, up, nth_get, hj], ?_⟩
      have := (hget k _ hl[k] (List.getElem?_eq_getElem hj) (List.getElem?_eq_getElem (by omega))).1
      omega
    · exact ⟨h.length + (k - r.length), by simp [upG, up, nth_get, List.getElem?_eq_none hj], by omega⟩
  rcases hgoes with ⟨w', ρ', sv, hl', h1, h2, h3, h4, h5, h6⟩ | ⟨h1, h2⟩
  · obtain ⟨ρ'', e1, e2, e3, e4, e5, e6⟩ := fin ρ' sv hl' w' h2 h3 h4 h5 h6
    refine .inl ⟨w', ρ'', _, _, ?_, e2, e3, e4, e5, e6⟩
    rcases h1 with h1 | ⟨h1, rfl⟩
    · exact .inl (by rw [h1, e1])
    · exact .inr ⟨h1, rfl⟩
  · refine .inr ⟨h1, fun F n hF hro => CallsIn.mono (h2 F n hF hro) ?_⟩
    rintro e w' ⟨ρ', sv, hl', rfl, q2, q3, q4, q5, q6⟩
    obtain ⟨ρ'', e1, e2, e3, e4, e5, e6⟩ := fin ρ' sv hl' w' q2 q3 q4 q5 q6
    exact ⟨ρ'', _, _, by rw [e1], e2, e3, e4, e5, e6⟩
/-- What holds without knowledge holds with it. -/
theorem callP_weak {f : FuncId} {args : List SV} {h : List Chunk} {K : Tok → SV → List Chunk → Prop} (hc : callP (Pr.of P.p) f args h K) : callP P f args h K :=
  fun C ρ w _ hM hok => hc C ρ w trivial hM hok
end Go.Sx
