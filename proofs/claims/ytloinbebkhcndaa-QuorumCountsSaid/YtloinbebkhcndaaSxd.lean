/- Reading memory and aggregates, symbolically; that the model says the same. No condition. -/
import Derived.Test.YtloinbebkhcndaaSxc
set_option linter.all false
namespace Go.Sx
open Go.RowKit

/-- The first b cells of a row of fields, and what follows. -/
def takeC : Nat → List SV → Option (List SV × List SV)
  | b, [] => if b = 0 then some ([], []) else none
  | b, x :: r => if b = 0 then some ([], x :: r) else if sz x ≤ b then (match takeC (b - sz x) r with
      | some (a, c) => some (x :: a, c)
      | none => none) else none

theorem takeC_spec : ∀ {b : Nat} {l a c : List SV}, takeC b l = some (a, c) → l = a ++ c ∧ szL a = b
  | b, [], a, c, h => by
    simp only [takeC] at h
    split at h <;> simp at h
    obtain ⟨rfl, rfl⟩ := h
    exact ⟨rfl, by simp [szL]; omega⟩
  | b, x :: r, a, c, h => by
    simp only [takeC] at h
    split at h
    · simp at h; obtain ⟨rfl, rfl⟩ := h; exact ⟨rfl, by simp [szL]; omega⟩
    · split at h
      · split at h <;> simp at h
        rename_i a' c' hr
        obtain ⟨rfl, rfl⟩ := h
        obtain ⟨h1, h2⟩ := takeC_spec hr
        exact ⟨by rw [h1]; rfl, by simp only [szL]; omega⟩
      · simp at h

def parts : SV → List SV
  | .agg l => l
  | x => [x]
theorem denC_parts (ρ : Env) (x : SV) : denC ρ (parts x) = (den ρ x).cells.toList := by
  cases x <;> simp [parts, denC, den, Value.cells]
theorem szL_parts (x : SV) : szL (parts x) = sz x := by cases x <;> simp [parts, szL, sz]
theorem okL_parts {n : Nat} {x : SV} (h : ok n x) : okL n (parts x) := by
  cases x <;> first | exact ⟨h, trivial⟩ | exact h
theorem storL_parts {x : SV} (h : stor x) : storL (parts x) := by
  cases x <;> first | exact ⟨h, trivial⟩ | exact h
theorem szL_append : ∀ a b : List SV, szL (a ++ b) = szL a + szL b
  | [], b => by simp [szL]
  | x :: a, b => by simp [szL, szL_append a b]; omega
theorem okL_append {n : Nat} : ∀ {a b : List SV}, okL n (a ++ b) ↔ okL n a ∧ okL n b
  | [], b => by simp [okL]
  | x :: a, b => by simp [okL, okL_append (a := a), and_assoc]
theorem storL_append : ∀ {a b : List SV}, storL (a ++ b) ↔ storL a ∧ storL b
  | [], b => by simp [storL]
  | x :: a, b => by simp [storL, storL_append (a := a), and_assoc]

/-- A row's value as a value. -/
def asRow : SV → SV
  | .agg l => .agg l
  | .fam n s f => .fam n s f
  | x => .agg [x]
def single : SV → Bool
  | .agg _ | .fam .. | .tup _ => false
  | _ => true

def rdF (e : Ent) (l : List SV) : Option SV :=
  match e.row with
  | true => match takeC e.size l with
    | some ([x], _) => some (asRow x)
    | some (xs, _) => some (.agg xs)
    | none => none
  | false => match l with
    | x :: _ => match single x with
      | true => some x
      | false => none
    | [] => none

theorem den_asRow (ρ : Env) (x : SV) : den ρ (asRow x) = .agg (denC ρ [x]).toArray := by
  cases x <;> simp [asRow, den, denC, Value.cells]
theorem ok_asRow {n : Nat} {x : SV} (h : ok n x) : ok n (asRow x) := by
  cases x <;> first | exact h | exact ⟨h, trivial⟩
theorem den_single (ρ : Env) {x : SV} (h : single x = true) (hs : stor x) : (den ρ x).cells.toList = [den ρ x] := by
  cases x <;> simp [single] at h <;> simp [den, Value.cells]
  rename_i y
  simp only [stor] at hs
  cases y <;> simp_all [Value.oneCell']

theorem rangeAt_app {w : World} {b o : Nat} {xs ys : List Value} : w.rangeAt b o (xs ++ ys) ↔ w.rangeAt b o xs ∧ w.rangeAt b (o + xs.length) ys := by
  constructor
  · intro h
    refine ⟨fun j v hj => h j v ?_, fun j v hj => ?_⟩
    · have hlt : j < xs.length := by
        rcases Nat.lt_or_ge j xs.length with h' | h'
        · exact h'
        · simp [List.getElem?_eq_none h'] at hj
      rw [List.getElem?_append_left hlt]; exact hj
    · have := h (xs.length + j) v (by rw [List.getElem?_append_right (by omega)]; simpa using hj)
      rwa [← Nat.add_assoc] at this
  · rintro ⟨h1, h2⟩ j v hj
    rcases Nat.lt_or_ge j xs.length with h' | h'
    · rw [List.getElem?_append_left h'] at hj; exact h1 j v hj
    · rw [List.getElem?_append_right h'] at hj
      have := h2 _ v hj
      rwa [show o + xs.length + (j - xs.length) = o + j by omega] at this

variable {P : Program}

theorem rdF_run {t : TypeId} {e : Ent} (he : e.Fits P t) {ρ : Env} {w : World} {b o n : Nat} {l : List SV} {v : SV} (hr : w.rangeAt b o (denC ρ l)) (hok : okL n l) (hst : storL l)
    (h : rdF e l = some v) : (loadVar t ⟨b, o, none⟩).run P w = .ok (den ρ v) w ∧ ok n v ∧ stor v := by
  unfold rdF at h
  have hag := he.agg w
  have hsz := he.siz w
  split at h
  · rename_i hrow
    have hd : ∃ d, P.underlying t = some d ∧ d.isRow = true := by
      obtain ⟨d, hd, hf⟩ := he.desc
      refine ⟨d, hd, ?_⟩
      unfold Ent.row at hrow
      split at hrow <;> rename_i hed <;> simp_all [TD.fits]
      obtain ⟨fs, rfl, _⟩ := hf
      rfl
    obtain ⟨d, hd, hdr⟩ := hd
    have key : ∀ (xs c : List SV), takeC e.size l = some (xs, c) → (loadVar t ⟨b, o, none⟩).run P w = .ok (.agg (denC ρ xs).toArray) w ∧ okL n xs ∧ storL xs := by
      intro xs c hx
      obtain ⟨rfl, hs⟩ := takeC_spec hx
      rw [okL_append] at hok
      rw [storL_append] at hst
      rw [denC_append, rangeAt_app] at hr
      refine ⟨run_loadVar_mid w b o t _ d hr.1 hd hdr ?_, hok.1, hst.1⟩
      obtain ⟨i, hi, his, _⟩ := he.info
      rw [denC_len ρ n xs hok.1, hs, hi]
      simp [his]
    split at h
    · rename_i x c hx
      cases h
      obtain ⟨h1, h2, h3⟩ := key _ _ hx
      refine ⟨by rw [h1, den_asRow], ok_asRow h2.1, ?_⟩
      have h31 : stor x := h3.1
      cases x <;> first | exact h31 | exact ⟨h31, trivial⟩
    · rename_i xs c hx _
      cases h
      obtain ⟨h1, h2, h3⟩ := key _ _ (by assumption)
      exact ⟨h1, h2, h3⟩
    · cases h
  · rename_i hrow
    split at h
    · rename_i x r
      split at h <;> cases h
      rename_i hs
      have hst1 : stor v := hst.1
      have h1 := den_single ρ hs hst1
      have hcell : w.cell? ⟨b, o, none⟩ = some (den ρ v) := by
        have := hr 0 (den ρ v) (by simp [denC, h1])
        simpa using this
      refine ⟨?_, hok.1, hst1⟩
      unfold loadVar
      rw [Sem.run_bind, hag, hrow]
      simp [hcell]
    · cases h

theorem cells_fam (ρ : Env) (n s : Nat) (f : Nat → SV) : (den ρ (.fam n s f)).cells.toList = (List.range n).flatMap fun i => (den ρ (f i)).cells.toList := by
  simp only [den]
  rfl

/-- What lies at an address, as a value of a type. -/
def ldS (h : List Chunk) (e : Ent) (a : SV) : Option (Prop × SV) :=
  match a with
  | .ptr nm b => match lookH h nm with
    | .cells _ fs => match takeC b fs with
      | some (_, rest) => match rdF e rest with
        | some v => some (True, v)
        | none => none
      | none => none
    | _ => none
  | .pix nm b i s j => match lookH h nm with
    | .cells _ fs => match takeC b fs with
      | some (_, .fam n s' f :: _) => match takeC j (parts (f i)) with
        | some (_, rest) => match rdF e rest with
          | some v => some (s = s' ∧ i < n, v)
          | none => none
        | none => none
      | some (_, rest) => match takeC (i * s + j) rest with
        | some (_, rest) => match rdF e rest with
          | some v => some (True, v)
          | none => none
        | none => none
      | none => none
    | .row _ n s' f => match b with
      | 0 => match takeC j (parts (f i)) with
        | some (_, rest) => match rdF e rest with
          | some v => some (s = s' ∧ i < n, v)
          | none => none
        | none => none
      | _ => none
    | _ => none
  | _ => none

/-- The names whose memory is read there. -/
def ldN : SV → List Nat
  | .ptr nm _ | .pix nm .. => [nm]
  | _ => []

theorem flatMap_range {α : Type} (g : Nat → List α) (s : Nat) : ∀ (n : Nat), (∀ i, i < n → (g i).length = s) → ∀ i, i < n →
    ∃ a c, (List.range n).flatMap g = a ++ g i ++ c ∧ a.length = i * s
  | 0, _, i, hi => by omega
  | n + 1, h, i, hi => by
    rw [List.range_succ, List.flatMap_append]
    rcases Nat.lt_or_ge i n with h' | h'
    · obtain ⟨a, c, h1, h2⟩ := flatMap_range g s n (fun i hi => h i (by omega)) i h'
      exact ⟨a, c ++ [n].flatMap g, by rw [h1]; simp, h2⟩
    · obtain rfl : i = n := by omega
      exact ⟨(List.range i).flatMap g, [], by simp, flatMap_len g s i (fun i hi => h i (by omega))⟩

theorem ldS_run {t : TypeId} {e : Ent} (he : e.Fits P t) {ρ : Env} {w : World} {n : Nat} {h : List Chunk} {a v : SV} {p : Prop}
    (hh : ∀ k ∈ ldN a, Holds ρ w k (lookH h k)) (hg : ∀ k, (lookH h k).good n) (hl : ldS h e a = some (p, v)) (hp : p) :
    (Instr.loadAt t (den ρ a)).run P w = .ok (den ρ v) w ∧ ok n v := by
  unfold ldS at hl
  split at hl
  · rename_i nm b
    have h1 := hh nm (by simp [ldN])
    have h2 := hg nm
    split at hl
    · rename_i wr fs hc
      rw [hc] at h1 h2
      split at hl
      · rename_i a' rest ht
        split at hl <;> cases hl
        rename_i hr
        obtain ⟨rfl, hs⟩ := takeC_spec ht
        have hok := okL_append.1 h2.1
        have hrg := h1.2.1
        rw [denC_append, rangeAt_app, denC_len ρ n a' hok.1, hs] at hrg
        obtain ⟨q1, q2, _⟩ := rdF_run he hrg.2 hok.2 (storL_append.1 h2.2).2 hr
        exact ⟨by simpa [Instr.loadAt, Instr.sureAddr, den] using q1, q2⟩
      · cases hl
    · cases hl
  · rename_i nm b i s j
    have h1 := hh nm (by simp [ldN])
    have h2 := hg nm
    split at hl
    · rename_i wr fs hc
      rw [hc] at h1 h2
      split at hl
      · rename_i a' m s' f c' ht
        split at hl
        · rename_i a'' rest ht2
          split at hl <;> cases hl
          rename_i hr
          obtain ⟨rfl, hi⟩ := hp
          obtain ⟨rfl, hs⟩ := takeC_spec ht
          obtain ⟨ht3, hs2⟩ := takeC_spec ht2
          have hok := okL_append.1 h2.1
          have hst := (storL_append.1 h2.2).2
          have hrg := h1.2.1
          rw [denC_append, rangeAt_app, denC_len ρ n a' hok.1, hs] at hrg
          have hfam : ∀ i, i < m → sz (f i) = s ∧ ok n (f i) := hok.2.1
          have hfst : ∀ i, i < m → stor (f i) := hst.1
          have hrg2 := hrg.2
          rw [denC, cells_fam, rangeAt_app] at hrg2
          obtain ⟨x1, x2, hx, hxl⟩ := flatMap_range (fun i => (den ρ (f i)).cells.toList) s m (fun k hk => (cells_len ρ n (f k) (hfam k hk).2).trans (hfam k hk).1) i hi
          have hrg3 := hrg2.1
          rw [hx, rangeAt_app, rangeAt_app, hxl] at hrg3
          have hrg4 := hrg3.1.2
          rw [← denC_parts, ht3, denC_append, rangeAt_app] at hrg4
          have hpo := okL_parts (hfam i hi).2
          have hps := storL_parts (hfst i hi)
          rw [ht3] at hpo hps
          rw [denC_len ρ n a'' (okL_append.1 hpo).1, hs2] at hrg4
          obtain ⟨q1, q2, _⟩ := rdF_run he hrg4.2 (okL_append.1 hpo).2 (storL_append.1 hps).2 hr
          exact ⟨by simpa [Instr.loadAt, Instr.sureAddr, den] using q1, q2⟩
        · cases hl
      · rename_i a' rest0 _ ht
        split at hl
        · rename_i a'' rest ht2
          split at hl <;> cases hl
          rename_i hr
          obtain ⟨rfl, hs⟩ := takeC_spec ht
          obtain ⟨rfl, hs2⟩ := takeC_spec ht2
          have hok := okL_append.1 h2.1
          have hok2 := okL_append.1 hok.2
          have hrg := h1.2.1
          rw [denC_append, rangeAt_app, denC_len ρ n a' hok.1, hs, denC_append, rangeAt_app, denC_len ρ n a'' hok2.1, hs2] at hrg
          obtain ⟨q1, q2, _⟩ := rdF_run he hrg.2.2 hok2.2 (storL_append.1 (storL_append.1 h2.2).2).2 hr
          exact ⟨by simpa [Instr.loadAt, Instr.sureAddr, den, Nat.add_assoc] using q1, q2⟩
        · cases hl
      · cases hl
    · rename_i wr m s' f hc
      rw [hc] at h1 h2
      split at hl
      · split at hl
        · rename_i a'' rest ht2
          split at hl <;> cases hl
          rename_i hr
          obtain ⟨rfl, hi⟩ := hp
          obtain ⟨ht3, hs2⟩ := takeC_spec ht2
          have hfam : ∀ i, i < m → sz (f i) = s ∧ ok n (f i) := h2.1
          have hfst : ∀ i, i < m → stor (f i) := h2.2
          have hrg3 := (Holds.some h1 (by omega)).2
          rw [cells_fam] at hrg3
          obtain ⟨x1, x2, hx, hxl⟩ := flatMap_range (fun i => (den ρ (f i)).cells.toList) s m (fun k hk => (cells_len ρ n (f k) (hfam k hk).2).trans (hfam k hk).1) i hi
          rw [hx, rangeAt_app, rangeAt_app, hxl] at hrg3
          have hrg4 := hrg3.1.2
          rw [← denC_parts, ht3, denC_append, rangeAt_app] at hrg4
          have hpo := okL_parts (hfam i hi).2
          have hps := storL_parts (hfst i hi)
          rw [ht3] at hpo hps
          rw [denC_len ρ n a'' (okL_append.1 hpo).1, hs2] at hrg4
          obtain ⟨q1, q2, _⟩ := rdF_run he hrg4.2 (okL_append.1 hpo).2 (storL_append.1 hps).2 hr
          exact ⟨by simpa [Instr.loadAt, Instr.sureAddr, den] using q1, q2⟩
        · cases hl
      · cases hl
    · cases hl
  · cases hl
end Go.Sx
