/- What symbolic heaps say of a world; the symbolic state; type tables. No condition. -/
import Derived.Test.YtloinbebkhcndaaSxa
import Derived.Deep.MidRow
set_option linter.all false
namespace Go.Sx
open Go.RowKit

/-- What is known of the memory at a name's place. -/
inductive Chunk where
  | none
  | cells (wr : Bool) (fs : List SV)
  | row (wr : Bool) (n s : Nat) (f : Nat → SV)
  | map (n : Nat) (key val : Nat → SV) (born : Nat → Nat) (clock : Nat)

def Chunk.live : Chunk → Bool
  | .none => false
  | _ => true
def Chunk.wr : Chunk → Bool
  | .none => false
  | .cells wr _ => wr
  | .row wr .. => wr
  | .map .. => true

def isTup : SV → Bool
  | .tup _ => true
  | _ => false

mutual
/-- Each cell of it is one value that a cell can hold. -/
def stor : SV → Prop
  | .v x => x.oneCell' = true
  | .tup _ => False
  | .agg l => storL l
  | .fam n _ f => ∀ i, i < n → stor (f i)
  | _ => True
def storL : List SV → Prop
  | [] => True
  | x :: l => stor x ∧ storL l
end

def Chunk.good (n : Nat) : Chunk → Prop
  | .none => True
  | .cells _ fs => okL n fs ∧ storL fs
  | .row _ m s f => ok n (.fam m s f) ∧ stor (.fam m s f)
  | .map m key val _ _ => ∀ i, i < m → ok n (key i) ∧ ok n (val i)

mutual
theorem stor_one (ρ : Env) : ∀ x : SV, stor x → ∀ u ∈ (den ρ x).cells.toList, u.oneCell' = true
  | .v x, h, u, hu => by
    simp only [stor] at h
    cases x <;> simp_all [den, Value.cells, Value.oneCell']
  | .int .., _, u, hu | .bool .., _, u, hu | .str .., _, u, hu | .ptr .., _, u, hu | .pix .., _, u, hu | .sl .., _, u, hu | .osl .., _, u, hu | .fn .., _, u, hu | .mp .., _, u, hu => by
    simp only [den, Value.cells, List.mem_singleton] at hu
    subst hu
    rfl
  | .tup _, h, _, _ => (h : False).elim
  | .agg l, h, u, hu => by
    simp only [stor] at h
    simp only [den, Value.cells] at hu
    exact storL_one ρ l h u hu
  | .fam n s f, h, u, hu => by
    simp only [stor] at h
    simp only [den, Value.cells, List.mem_flatMap, List.mem_range] at hu
    obtain ⟨i, hi, hu⟩ := hu
    exact stor_one ρ (f i) (h i hi) u hu
theorem storL_one (ρ : Env) : ∀ l : List SV, storL l → ∀ u ∈ denC ρ l, u.oneCell' = true
  | [], _, u, hu => by simp [denC] at hu
  | x :: l, h, u, hu => by
    simp only [storL] at h
    simp only [denC, List.mem_append] at hu
    rcases hu with hu | hu
    · exact stor_one ρ x h.1 u hu
    · exact storL_one ρ l h.2 u hu
end

def mapObj (ρ : Env) (n : Nat) (key val : Nat → SV) (born : Nat → Nat) (clock : Nat) : Obj :=
  .map ((List.range n).map fun i => { key := den ρ (key i), val := den ρ (val i), born := born i : MapEntry }).toArray clock

def Holds (ρ : Env) (w : World) (k : Nat) : Chunk → Prop
  | .none => True
  | .cells wr fs => (ρ k).nil = false ∧ w.rangeAt (ρ k).b (ρ k).o (denC ρ fs) ∧ (wr = true → w.there (ρ k).b (ρ k).o (denC ρ fs).length)
  | .row wr n s f => if (ρ k).nil = true then n = 0 ∧ (ρ k).c = 0 else w.rangeAt (ρ k).b (ρ k).o (den ρ (.fam n s f)).cells.toList ∧ n ≤ (ρ k).c ∧ (wr = true → w.there (ρ k).b (ρ k).o ((ρ k).c * s))
  | .map n key val born clock => (ρ k).nil = false ∧ w.heap[(ρ k).b]? = some (mapObj ρ n key val born clock)

theorem Holds.nle {ρ : Env} {w : World} {k n s : Nat} {wr : Bool} {f : Nat → SV} (h : Holds ρ w k (.row wr n s f)) : n ≤ (ρ k).c := by
  simp only [Holds] at h
  split at h
  · omega
  · exact h.2.1
theorem Holds.some {ρ : Env} {w : World} {k n s : Nat} {wr : Bool} {f : Nat → SV} (h : Holds ρ w k (.row wr n s f)) (hn : 0 < n) :
    (ρ k).nil = false ∧ w.rangeAt (ρ k).b (ρ k).o (den ρ (.fam n s f)).cells.toList := by
  simp only [Holds] at h
  split at h
  · omega
  · rename_i hh
    exact ⟨by simpa using hh, h.1⟩

/-- A name that has memory of its own. -/
def Real (ρ : Env) (k : Nat) (c : Chunk) : Prop := c.live = true ∧ (ρ k).nil = false
def RealW (ρ : Env) (k : Nat) (c : Chunk) : Prop := c.wr = true ∧ (ρ k).nil = false

/-- Blocks of w0 outside X are as they were. -/
structure Keep (X : Nat → Prop) (w0 w : World) : Prop where
  os : w.os = w0.os
  tape : w.tape = w0.tape
  output : w.output = w0.output
  size : w0.heap.size ≤ w.heap.size
  block : ∀ b, b < w0.heap.size → ¬ X b → w.heap[b]? = w0.heap[b]?

theorem Keep.refl (X : Nat → Prop) (w : World) : Keep X w w := ⟨rfl, rfl, rfl, Nat.le_refl _, fun _ _ _ => rfl⟩

/-- One step on: blocks outside Y of w are as they were; Y lies in X or is new. -/
theorem Keep.step {X Y : Nat → Prop} {w0 w w' : World} (h : Keep X w0 w) (h' : Keep Y w w') (hY : ∀ b, Y b → X b ∨ w0.heap.size ≤ b) : Keep X w0 w' :=
  ⟨h'.os.trans h.os, h'.tape.trans h.tape, h'.output.trans h.output, Nat.le_trans h.size h'.size, fun b hb hX =>
    (h'.block b (Nat.lt_of_lt_of_le hb h.size) (fun hy => (hY b hy).elim hX (fun hle => by omega))).trans (h.block b hb hX)⟩

/-- What stays fixed while a function is walked. -/
structure Ctx where
  w0 : World
  X : Nat → Prop
  ρ0 : Env
  n0 : Nat

structure Models (C : Ctx) (ρ : Env) (H : List Chunk) (w : World) : Prop where
  keep : Keep C.X C.w0 w
  agree : Agree C.n0 C.ρ0 ρ
  len : C.n0 ≤ H.length
  holds : ∀ k c, H[k]? = some c → Holds ρ w k c
  okc : ∀ (k : Nat) (c : Chunk), H[k]? = some c → c.good H.length
  size : ∀ k c, H[k]? = some c → Real ρ k c → (ρ k).b < w.heap.size
  wr : ∀ k c, H[k]? = some c → RealW ρ k c → C.X (ρ k).b ∨ C.w0.heap.size ≤ (ρ k).b
  sep : ∀ k k' c c', H[k]? = some c → H[k']? = some c' → k ≠ k' → RealW ρ k c → Real ρ k' c' → (ρ k).b ≠ (ρ k').b

/-- Slots: how many; what is known of them, newest first; what the others hold. -/
structure Slots where
  n : Nat
  l : List (Nat × SV)
  j : Nat → Value

structure St where
  t : Slots
  h : List Chunk
  d : List Deferred

def lkL : List (Nat × SV) → (Nat → Value) → Nat → SV
  | [], j, i => .v (j i)
  | (k, v) :: l, j, i => if k = i then v else lkL l j i
def slot (t : Slots) (i : Nat) : SV := lkL t.l t.j i
def tmpsD (ρ : Env) (t : Slots) : List Value := (List.range t.n).map fun i => den ρ (slot t i)
def act (ρ : Env) (st : St) : Act := ⟨(tmpsD ρ st.t).toArray, st.d⟩
def okE (m n : Nat) : List (Nat × SV) → Prop
  | [] => True
  | (k, v) :: l => (k < n ∧ ok m v) ∧ okE m n l
def okS (m : Nat) (t : Slots) : Prop := (∀ i, t.n ≤ i → t.j i = undef) ∧ okE m t.n t.l
def putS (t : Slots) (d : Nat) (v : SV) : Slots := if d < t.n then ⟨t.n, (d, v) :: t.l, t.j⟩ else t

/-- Operand look-up, by recursion (for simp). -/
def look : List SV → Nat → SV
  | [], _ => .tup []
  | v :: _, 0 => v
  | _ :: l, n + 1 => look l n
def lookH : List Chunk → Nat → Chunk
  | [], _ => .none
  | v :: _, 0 => v
  | _ :: l, n + 1 => lookH l n
def putH : List Chunk → Nat → Chunk → List Chunk
  | [], _, _ => []
  | _ :: l, 0, v => v :: l
  | x :: l, n + 1, v => x :: putH l n v
def putO (t : Slots) : Option Nat → SV → Slots
  | none, _ => t
  | some d, v => putS t d v

def allOne (cs : Array Value) : Bool := cs.toList.all (·.oneCell')

def of1 : Value → SV
  | .int k n => .int k n
  | .bool b => .bool b
  | .string s => .str s
  | x => .v x
def ofV : Value → SV
  | .int k n => .int k n
  | .bool b => .bool b
  | .string s => .str s
  | .agg cs => bif allOne cs then .agg (cs.toList.map of1) else .v (.agg cs)
  | x => .v x

def ev (t : Slots) : Operand → SV
  | .tmp i => slot t i
  | .const v => ofV v
  | .global g => .v (.pointer (some ⟨g, 0, none⟩))
  | .func f => .fn (.func f) [] []

theorem den_look (ρ : Env) : ∀ (t : List SV) (i : Nat), (denL ρ t)[i]?.getD undef = den ρ (look t i)
  | [], i => by simp [denL, look, den, undef]
  | x :: t, 0 => by simp [denL, look]
  | x :: t, i + 1 => by simpa [denL, look] using den_look ρ t i

theorem denL_length (ρ : Env) : ∀ t : List SV, (denL ρ t).length = t.length
  | [] => rfl
  | x :: t => by simp [denL, denL_length ρ t]

theorem denL_append (ρ : Env) : ∀ a b : List SV, denL ρ (a ++ b) = denL ρ a ++ denL ρ b
  | [], b => rfl
  | x :: a, b => by simp [denL, denL_append ρ a b]
theorem denC_append (ρ : Env) : ∀ a b : List SV, denC ρ (a ++ b) = denC ρ a ++ denC ρ b
  | [], b => rfl
  | x :: a, b => by simp [denC, denC_append ρ a b]

theorem ok_look {n : Nat} : ∀ (t : List SV) (i : Nat), okL n t → ok n (look t i)
  | [], _, _ => by simp [look, ok, okL]
  | x :: t, 0, h => h.1
  | x :: t, i + 1, h => ok_look t i h.2

theorem lookH_some : ∀ {H : List Chunk} {k : Nat} {c : Chunk}, lookH H k = c → c ≠ .none → H[k]? = some c
  | [], k, c, h, hc => absurd h.symm hc
  | x :: H, 0, c, h, _ => by simpa [lookH] using h
  | x :: H, k + 1, c, h, hc => by simpa using lookH_some (H := H) (k := k) h hc
theorem putH_length : ∀ (H : List Chunk) (k : Nat) (c : Chunk), (putH H k c).length = H.length
  | [], _, _ => rfl
  | x :: H, 0, c => rfl
  | x :: H, k + 1, c => by simp [putH, putH_length H k c]
theorem putH_get : ∀ (H : List Chunk) (k : Nat) (c : Chunk) (j : Nat), (putH H k c)[j]? = if j = k then (H[j]?).map fun _ => c else H[j]?
  | [], k, c, j => by simp [putH]
  | x :: H, 0, c, 0 => by simp [putH]
  | x :: H, 0, c, j + 1 => by simp [putH]
  | x :: H, k + 1, c, 0 => by simp [putH]
  | x :: H, k + 1, c, j + 1 => by simpa [putH] using putH_get H k c j

theorem slot_put (t : Slots) (d : Nat) (v : SV) (i : Nat) (hi : i < t.n) : slot (putS t d v) i = if d = i then v else slot t i := by
  unfold putS
  split
  · rfl
  · rename_i h
    rw [if_neg (by omega)]
theorem n_put (t : Slots) (d : Nat) (v : SV) : (putS t d v).n = t.n := by
  unfold putS
  split <;> rfl

theorem act_put (ρ : Env) (st : St) (d : Option Nat) (v : SV) : (act ρ st).put d (den ρ v) = act ρ { st with t := putO st.t d v } := by
  cases d with
  | none => rfl
  | some d =>
    simp only [act, Act.put, putO]
    congr 1
    apply Array.ext'
    simp only [Array.toList_setIfInBounds, tmpsD, n_put]
    apply List.ext_getElem?
    intro i
    simp only [List.getElem?_set, List.getElem?_map, List.length_map, List.length_range]
    rcases Nat.lt_or_ge i st.t.n with hi | hi
    · rw [List.getElem?_range hi, Option.map_some, Option.map_some, slot_put _ _ _ _ hi]
      by_cases hd : d = i
      · subst hd; simp [hi]
      · simp [hd]
    · rw [List.getElem?_eq_none (by simpa using hi)]
      simp only [Option.map_none]
      split
      · rename_i hd; subst hd; rw [if_neg (by omega)]
      · rfl

theorem lkL_out {m n : Nat} : ∀ (l : List (Nat × SV)) (j : Nat → Value) (i : Nat), okE m n l → n ≤ i → lkL l j i = .v (j i)
  | [], _, _, _, _ => rfl
  | (k, v) :: l, j, i, h, hi => by
    simp only [okE] at h
    simp only [lkL, if_neg (show ¬ k = i by omega)]
    exact lkL_out l j i h.2 hi
theorem lkL_ok {m n : Nat} : ∀ (l : List (Nat × SV)) (j : Nat → Value) (i : Nat), okE m n l → ok m (lkL l j i)
  | [], _, _, _ => trivial
  | (k, v) :: l, j, i, h => by
    simp only [okE] at h
    simp only [lkL]
    split
    · exact h.1.2
    · exact lkL_ok l j i h.2
theorem ok_slot {m : Nat} (t : Slots) (i : Nat) (h : okS m t) : ok m (slot t i) := lkL_ok _ _ _ h.2
theorem okE_mono {m m' n : Nat} (h : m ≤ m') : ∀ l : List (Nat × SV), okE m n l → okE m' n l
  | [], _ => trivial
  | (k, v) :: l, h' => by simp only [okE] at h' ⊢; exact ⟨⟨h'.1.1, ok_mono h v h'.1.2⟩, okE_mono h l h'.2⟩
theorem okS_mono {m m' : Nat} (h : m ≤ m') {t : Slots} (ht : okS m t) : okS m' t := ⟨ht.1, okE_mono h _ ht.2⟩
theorem okS_put {m : Nat} {t : Slots} {d : Nat} {v : SV} (h : okS m t) (hv : ok m v) : okS m (putS t d v) := by
  unfold putS
  split
  · rename_i hd; exact ⟨h.1, ⟨hd, hv⟩, h.2⟩
  · exact h
theorem tmpsD_get (ρ : Env) {m : Nat} {t : Slots} (h : okS m t) (i : Nat) : (tmpsD ρ t)[i]?.getD undef = den ρ (slot t i) := by
  simp only [tmpsD, List.getElem?_map]
  rcases Nat.lt_or_ge i t.n with hi | hi
  · rw [List.getElem?_range hi]; rfl
  · rw [List.getElem?_eq_none (by simpa using hi)]
    simp only [Option.map_none, Option.getD_none, slot, lkL_out _ _ _ h.2 hi, den, h.1 i hi]
theorem tmpsD_agree {n : Nat} {ρ ρ' : Env} (ha : Agree n ρ ρ') {t : Slots} (h : okS n t) : tmpsD ρ' t = tmpsD ρ t := by
  unfold tmpsD
  apply List.map_congr_left
  intro i _
  exact den_agree ha _ (ok_slot t i h)

theorem act_eval_tmp (ρ : Env) (st : St) {m : Nat} (h : okS m st.t) (i : Nat) : (act ρ st).eval (.tmp i) = den ρ (slot st.t i) := by
  simp only [act, Act.eval, ← tmpsD_get ρ h]
  simp [Array.getD_eq_getD_getElem?]

theorem den_of1 (ρ : Env) (x : Value) : den ρ (of1 x) = x := by cases x <;> rfl
theorem denC_of1 (ρ : Env) : ∀ l : List Value, l.all (·.oneCell') = true → denC ρ (l.map of1) = l
  | [], _ => rfl
  | x :: l, h => by
    simp only [List.all_cons, Bool.and_eq_true] at h
    simp only [List.map_cons, denC, denC_of1 ρ l h.2, den_of1]
    have h1 := h.1
    cases x <;> simp_all [Value.cells, Value.oneCell']
theorem den_ofV (ρ : Env) (x : Value) : den ρ (ofV x) = x := by
  cases x <;> try rfl
  rename_i cs
  simp only [ofV]
  cases h : allOne cs
  · rfl
  · simp only [cond_true, den, denC_of1 ρ _ h]
theorem okL_all {n : Nat} {α : Type} (g : α → SV) (h : ∀ x, ok n (g x)) : ∀ l : List α, okL n (l.map g)
  | [] => trivial
  | x :: l => ⟨h x, okL_all g h l⟩
theorem ok_of1 (n : Nat) (x : Value) : ok n (of1 x) := by cases x <;> trivial
theorem ok_ofV (n : Nat) (x : Value) : ok n (ofV x) := by
  cases x <;> try trivial
  rename_i cs
  simp only [ofV]
  cases h : allOne cs
  · trivial
  · simp only [cond_true, ok]
    exact okL_all _ (ok_of1 n) _

theorem act_eval (ρ : Env) (st : St) {m : Nat} (h : okS m st.t) (x : Operand) : (act ρ st).eval x = den ρ (ev st.t x) := by
  cases x with
  | tmp i => exact act_eval_tmp ρ st h i
  | const v => simp [Act.eval, ev, den_ofV]
  | global g => simp [Act.eval, ev, den]
  | func f => simp [Act.eval, ev, den, denL]
theorem ok_ev {n : Nat} (t : Slots) (x : Operand) (h : okS n t) : ok n (ev t x) := by
  cases x with
  | tmp i => exact ok_slot t i h
  | const v => exact ok_ofV n v
  | global g => trivial
  | func f => exact ⟨trivial, trivial⟩
end Go.Sx
