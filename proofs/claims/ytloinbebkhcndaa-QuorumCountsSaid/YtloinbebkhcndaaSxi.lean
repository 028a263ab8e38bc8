/- append: symbolically; that the model says the same. No condition. -/
import Derived.Test.YtloinbebkhcndaaSxh
set_option linter.all false
namespace Go.Sx
open Go.RowKit
variable {P : Program}

/-- What a source of append holds: how many elements, which. -/
def srcS (h : List Chunk) (s : Nat) : SV → Option (Prop × Nat × (Nat → SV))
  | .osl nm _ e s' m => match lookH h nm with
    | .row _ n' s'' f => some (s' = s ∧ s'' = s ∧ e + m ≤ n', m, fun i => f (e + i))
    | _ => none
  | .sl nm b e s' m _ => match lookH h nm with
    | .cells _ fs => match takeC b fs with
      | some (_, .fam n' s'' f :: _) => some (s' = s ∧ s'' = s ∧ e + m ≤ n', m, fun i => f (e + i))
      | _ => none
    | _ => none
  | .str bs => some (s = 1, bs.size, fun i => .int .u8 (byteAt bs i))
  | .v (.slice _ m _) => some (m = 0, 0, fun _ => .tup [])
  | _ => none

def cellsOf (ρ : Env) (m : Nat) (g : Nat → SV) : List Value := (List.range m).flatMap fun i => (den ρ (g i)).cells.toList

theorem cellsOf_len {ρ : Env} {n m s : Nat} {g : Nat → SV} (h : ∀ i, i < m → sz (g i) = s ∧ ok n (g i)) : (cellsOf ρ m g).length = m * s :=
  flatMap_len _ s m fun i hi => (cells_len ρ n (g i) (h i hi).2).trans (h i hi).1

theorem flatMap_range_split {α : Type} (F : Nat → List α) (e : Nat) : ∀ m, (List.range (e + m)).flatMap F = (List.range e).flatMap F ++ (List.range m).flatMap fun i => F (e + i)
  | 0 => by simp
  | m + 1 => by
    rw [← Nat.add_assoc, List.range_succ, List.flatMap_append, flatMap_range_split F e m, List.range_succ, List.flatMap_append]
    simp

theorem cellsOf_part {ρ : Env} {n m e k s : Nat} {f : Nat → SV} (h : ∀ i, i < n → sz (f i) = s ∧ ok k (f i)) (hle : e + m ≤ n) :
    ∃ a c, cellsOf ρ n f = a ++ cellsOf ρ m (fun i => f (e + i)) ++ c ∧ a.length = e * s := by
  obtain ⟨r, rfl⟩ : ∃ r, n = (e + m) + r := ⟨n - (e + m), by omega⟩
  refine ⟨cellsOf ρ e f, (List.range r).flatMap fun i => (den ρ (f (e + m + i))).cells.toList, ?_, cellsOf_len (fun i hi => h i (by omega))⟩
  unfold cellsOf
  rw [flatMap_range_split _ (e + m) r, flatMap_range_split _ e m]

theorem load_list (w w' : World) (hw : w'.heap = w.heap) (b o : Nat) (cs : List Value) (h : w.rangeAt b o cs) : ∀ j v, cs[j]? = some v → w'.cell? ((⟨b, o, none⟩ : Addr).add j) = some v := fun j v hj => by
  rw [Addr.add_mid]
  have := h j v hj
  simpa [World.cell?, hw] using this

theorem str_cells (ρ : Env) (bs : ByteArray) : (((bs.extract 0 bs.size).data.map fun b => Value.int .u8 b.toNat)).toList = cellsOf ρ bs.size fun i => .int .u8 (byteAt bs i) := by
  have h1 : bs.extract 0 bs.size = bs := by simp
  rw [h1]
  unfold cellsOf
  simp only [den, Value.cells, List.flatMap_singleton']
  apply List.ext_getElem?
  intro i
  simp only [Array.toList_map, List.getElem?_map]
  have : ∀ l : List UInt8, (l.map fun b => Value.int .u8 (b.toNat : Int))[i]? = ((List.range l.length).map fun j => Value.int .u8 ((l.getD j 0).toNat : Int))[i]? := by
    intro l
    simp only [List.getElem?_map]
    by_cases hi : i < l.length
    · simp [hi, List.getD_eq_getElem?_getD]
    · simp [hi]
  have h2 := this bs.data.toList
  simp only [List.getElem?_map] at h2
  rw [h2]
  simp only [byteAt]
  have h3 : (List.range bs.size).flatMap (fun i => #[Value.int .u8 ((bs.data.toList.getD i 0).toNat : Int)].toList) = (List.range bs.size).map fun j => Value.int .u8 ((bs.data.toList.getD j 0).toNat : Int) := by
    induction (List.range bs.size) with
    | nil => rfl
    | cons x l ih => rw [List.flatMap_cons, ih]; rfl
  rw [h3, List.getElem?_map]
  rfl

theorem src_run {h : List Chunk} {s : Nat} {x : SV} {p : Prop} {m : Nat} {g : Nat → SV} (hs : srcS h s x = some (p, m, g)) (hp : p) {ρ : Env} {n : Nat} {w : World}
    (hH : ∀ k, Holds ρ w k (lookH h k)) (hg : ∀ k, (lookH h k).good n) :
    (Builtin.lenOf (den ρ x) = pure m) ∧ (∀ w', w'.heap = w.heap → (Builtin.firstCells s m (den ρ x)).run P w' = .ok (cellsOf ρ m g).toArray w') ∧ (∀ i, i < m → sz (g i) = s ∧ ok n (g i)) ∧ ∀ i, i < m → stor (g i) := by
  unfold srcS at hs
  split at hs
  · rename_i nm d0 e s' m'
    split at hs <;> cases hs
    rename_i wr n' s'' f hc
    obtain ⟨hs1, hs2, hle⟩ := hp
    subst hs1 hs2
    have h1 := hH nm
    have h2 := hg nm
    rw [hc] at h1 h2
    have hfam : ∀ i, i < n' → sz (f i) = s'' ∧ ok n (f i) := h2.1
    have hst : ∀ i, i < n' → stor (f i) := h2.2
    refine ⟨rfl, ?_, fun i hi => hfam (e + i) (by omega), fun i hi => hst (e + i) (by omega)⟩
    intro w' hw
    simp only [den]
    rcases Nat.eq_zero_or_pos m with rfl | hm
    · cases (ρ nm).nil <;> simp [Builtin.firstCells, cellsOf, loadCells, loadCellsFrom]
    · obtain ⟨hn, hr⟩ := h1.some (by omega)
      have hcap := h1.nle
      rw [cells_fam] at hr
      obtain ⟨a, c, hac, hal⟩ := cellsOf_part (ρ := ρ) (e := e) (m := m) hfam hle
      unfold cellsOf at hac
      rw [hac, rangeAt_app, rangeAt_app, hal] at hr
      simp only [hn, cond_false]
      rw [if_neg (by omega)]
      exact run_firstCells_some (P := P) w' s'' m _ _ _ _ (cellsOf_len (fun i hi => hfam (e + i) (by omega))) (load_list w w' hw _ _ _ hr.1.2)
  · rename_i nm b e s' m' cp
    split at hs
    · rename_i wr fs hc
      split at hs <;> cases hs
      rename_i a0 n' s'' f post ht
      obtain ⟨hs1, hs2, hle⟩ := hp
      subst hs1 hs2
      have h1 := hH nm
      have h2 := hg nm
      rw [hc] at h1 h2
      obtain ⟨rfl, hs0⟩ := takeC_spec ht
      have hok := okL_append.1 h2.1
      have hfam : ∀ i, i < n' → sz (f i) = s'' ∧ ok n (f i) := hok.2.1
      have hst : ∀ i, i < n' → stor (f i) := (storL_append.1 h2.2).2.1
      refine ⟨rfl, ?_, fun i hi => hfam (e + i) (by omega), fun i hi => hst (e + i) (by omega)⟩
      intro w' hw
      simp only [den]
      have hr := h1.2.1
      rw [denC_append, rangeAt_app, denC_len ρ n a0 hok.1, hs0] at hr
      have hr2 := hr.2
      rw [denC, cells_fam, rangeAt_app] at hr2
      obtain ⟨a, c, hac, hal⟩ := cellsOf_part (ρ := ρ) (e := e) (m := m) hfam hle
      have hr3 := hr2.1
      unfold cellsOf at hac
      rw [hac, rangeAt_app, rangeAt_app, hal] at hr3
      exact run_firstCells_some (P := P) w' s'' m _ _ _ _ (cellsOf_len (fun i hi => hfam (e + i) (by omega))) (load_list w w' hw _ _ _ hr3.1.2)
    · cases hs
  · rename_i bs
    cases hs
    subst hp
    refine ⟨rfl, ?_, fun i _ => ⟨rfl, trivial⟩, fun i _ => trivial⟩
    intro w' _
    simp only [den, Builtin.firstCells, Sem.run_pure]
    congr 1
    apply Array.ext'
    exact str_cells ρ bs
  · cases hs
    subst hp
    refine ⟨rfl, ?_, fun i hi => absurd hi (Nat.not_lt_zero _), fun i hi => absurd hi (Nat.not_lt_zero _)⟩
    intro w' _
    rename_i a0 _ _
    cases a0 <;> simp [den, Builtin.firstCells, cellsOf, loadCells, loadCellsFrom]
  · cases hs

theorem drew_heap (w : World) : w.drew.heap = w.heap := rfl
theorem keep_drew_alloc (w : World) (o : Obj) : Keep (fun _ => False) w (w.drew.alloc o) :=
  ⟨rfl, rfl, rfl, by simp, fun b hb _ => Below.heap_alloc w.drew o b hb⟩

theorem choose_cap (w : World) (need old : Nat) (e : TypeId) : (choose (.appendCap need old e)).run P w = .ok (grownCap w need old e) w.drew := by
  simp only [choose, Sem.run, Question.forced]
  rfl

theorem askRoom_run (n : Nat) (w : World) : (askRoom n).run P w = .ok () w := by
  unfold askRoom
  split <;> rfl

/-- The built-in, over whatever source whose elements can be read. -/
theorem app_grow {dT xT ty el : TypeId} {e : Ent} (hd : P.underlying dT = some (.slice el)) (hx : ∃ d, P.underlying xT = some d ∧ ∀ k, d ≠ .int k) (he : e.Fits P el)
    (a : Option Addr) (n c m : Nat) (x : Value) (olds news : List Value) (w : World) (hlen : Builtin.lenOf x = pure m)
    (hnew : ∀ w', w'.heap = w.heap → (Builtin.firstCells e.size m x).run P w' = .ok news.toArray w')
    (hold : ∀ w', w'.heap = w.heap → (Builtin.firstCells e.size n (.slice a n c)).run P w' = .ok olds.toArray w')
    (hg : c < n + m) (h63 : ((n + m : Nat) : Int) ≤ 9223372036854775807) (hb : (n + m) * e.bytes ≤ 140737488355328) (ρ : Env) :
    (Builtin.append_ #[dT, xT] ty #[.slice a n c, x]).run P w =
      .ok (.slice (some ⟨w.heap.size, 0, none⟩) (n + m) (grownCap w (n + m) c el))
        (w.drew.alloc (.cells (olds.toArray ++ news.toArray ++ Builtin.zeroCells (den ρ e.zero).cells (grownCap w (n + m) c el - (n + m))) el)) := by
  obtain ⟨i, hi, his, hib, hiz⟩ := he.info
  obtain ⟨d, hxd, hdk⟩ := hx
  have hn : ¬ (n + m ≤ c) := by omega
  have h63' : ¬ (((n + m : Nat) : Int) > IntKind.i64.max) := by
    have : IntKind.i64.max = 9223372036854775807 := by decide
    omega
  have hfit : ¬ (Builtin.nextslicecap (n + m) c * i.bytes > 2 ^ 48) := by
    have := growslice_fits (bytes := e.bytes) hg hb
    rw [hib]
    omega
  have hz : (match d with | .int _ => true | _ => false) = false := by
    cases d <;> first | rfl | exact absurd rfl (hdk _)
  have hU := fun w' => run_underlying (P := P) hd w'
  have hX := fun w' => run_underlying (P := P) hxd w'
  have hS := he.siz
  have hI : ∀ w', (typeInfo el).run P w' = .ok i w' := fun w' => by simp [typeInfo, hi]
  have hZ := zero_run he ρ
  have hC := choose_cap (P := P) w (n + m) c el
  unfold Builtin.append_
  simp only [List.getElem?_toArray, List.getElem?_cons_zero, List.getElem?_cons_succ, Sem.run_bind, hU, hX, hS, Result.andThen_ok, Sem.run_pure]
  simp only [Bool.false_eq_true, if_false, Bool.not_false, if_true, Sem.run_bind, Sem.run_pure, Result.andThen_ok, hlen, if_neg hn, Sem.run_ite, false_or, hI]
  rw [if_neg (by intro hh; exact h63' hh.1)]
  simp only [Sem.run_bind, hI, Result.andThen_ok, if_neg hfit, Sem.run_ite, hC, Sem.run_pure, askRoom_run, hold w.drew rfl, hnew w.drew rfl, hZ, newRow, newObj, Sem.run]
  rfl

theorem app_room {dT xT ty el : TypeId} {e : Ent} (hd : P.underlying dT = some (.slice el)) (hx : ∃ d, P.underlying xT = some d ∧ ∀ k, d ≠ .int k) (he : e.Fits P el)
    (b o : Nat) (n c m : Nat) (x : Value) (news : List Value) (w : World) (hlen : Builtin.lenOf x = pure m)
    (hnew : ∀ w', w'.heap = w.heap → (Builtin.firstCells e.size m x).run P w' = .ok news.toArray w') (hnl : news.length = m * e.size) (h1 : ∀ v ∈ news, v.oneCell' = true)
    (ht : w.there b o (c * e.size)) (hg : n + m ≤ c) :
    (Builtin.append_ #[dT, xT] ty #[.slice (some ⟨b, o, none⟩) n c, x]).run P w = .ok (.slice (some ⟨b, o, none⟩) (n + m) c) (w.setCells b (o + n * e.size) news) := by
  obtain ⟨d, hxd, hdk⟩ := hx
  have hU := fun w' => run_underlying (P := P) hd w'
  have hX := fun w' => run_underlying (P := P) hxd w'
  have hS := he.siz
  have hz : (match d with | .int _ => true | _ => false) = false := by
    cases d <;> first | rfl | exact absurd rfl (hdk _)
  have hle : n * e.size + news.length ≤ c * e.size := by rw [hnl, ← Nat.add_mul]; exact Nat.mul_le_mul_right _ hg
  have hst := run_storeCells_cells (P := P) b (o + n * e.size) news 0 w (fun j hj => by
      have := (ht (n * e.size + j) (by omega)).1
      rwa [← Nat.add_assoc] at this) (fun j hj => by
      have := (ht (n * e.size + j) (by omega)).2
      rwa [← Nat.add_assoc] at this) h1
  unfold Builtin.append_
  simp only [List.getElem?_toArray, List.getElem?_cons_zero, List.getElem?_cons_succ, Sem.run_bind, hU, hX, hS, Result.andThen_ok, Sem.run_pure]
  simp only [Bool.false_eq_true, if_false, Bool.not_false, if_true, Sem.run_bind, Sem.run_pure, Result.andThen_ok, hlen, if_pos hg, Sem.run_ite, hnew w rfl, Addr.add_mid, hst]
  rfl

/-- With room, from nothing: nothing turns. -/
theorem app_none {dT xT ty el : TypeId} {e : Ent} (hd : P.underlying dT = some (.slice el)) (hx : ∃ d, P.underlying xT = some d ∧ ∀ k, d ≠ .int k) (he : e.Fits P el)
    (x : Value) (w : World) (hlen : Builtin.lenOf x = pure 0)
    (hnew : ∀ w', w'.heap = w.heap → (Builtin.firstCells e.size 0 x).run P w' = .ok #[] w') :
    (Builtin.append_ #[dT, xT] ty #[.slice none 0 0, x]).run P w = .ok (.slice none 0 0) w := by
  obtain ⟨d, hxd, hdk⟩ := hx
  have hU := fun w' => run_underlying (P := P) hd w'
  have hX := fun w' => run_underlying (P := P) hxd w'
  have hS := he.siz
  have hz : (match d with | .int _ => true | _ => false) = false := by
    cases d <;> first | rfl | exact absurd rfl (hdk _)
  unfold Builtin.append_
  simp only [List.getElem?_toArray, List.getElem?_cons_zero, List.getElem?_cons_succ, Sem.run_bind, hU, hX, hS, Result.andThen_ok, Sem.run_pure]
  simp only [Bool.false_eq_true, if_false, Bool.not_false, if_true, Sem.run_bind, Sem.run_pure, Result.andThen_ok, hlen, Sem.run_ite, hnew w rfl, Nat.add_zero, Nat.le_refl]

def notInt (tab : Tab) (t : TypeId) : Bool := match tab t with
  | some ⟨.slice _, _, _, _, _⟩ => true
  | some ⟨.str, _, _, _, _⟩ => true
  | _ => false

theorem notInt_spec {tab : Tab} (hT : tab.Ok P) {t : TypeId} (h : notInt tab t = true) : ∃ d, P.underlying t = some d ∧ ∀ k, d ≠ .int k := by
  unfold notInt at h
  split at h
  · rename_i he
    obtain ⟨d, h1, h2⟩ := (hT _ _ he).desc
    exact ⟨d, h1, fun k hk => by simp only [TD.fits] at h2; subst h2; cases hk⟩
  · rename_i he
    obtain ⟨d, h1, h2⟩ := (hT _ _ he).desc
    exact ⟨d, h1, fun k hk => by simp only [TD.fits] at h2; subst h2; cases hk⟩
  · cases h

def appS (tab : Tab) (h : List Chunk) (dT xT : TypeId) (d x : SV) (K : SV → List Chunk → Prop) : Prop :=
  match tab dT with
  | some ⟨.slice el, _, _, _, _⟩ => match tab el with
    | some e => match srcS h e.size x with
      | some (p, m, g) => match d with
        | .osl nm 0 0 s n => match lookH h nm with
          | .row true n' s' f => (p ∧ notInt tab xT = true ∧ s = e.size ∧ s' = e.size ∧ n = n' ∧ (n + m) * e.bytes ≤ 140737488355328 ∧ ((n + m : Nat) : Int) ≤ 9223372036854775807) ∧
              K (.osl h.length 0 0 e.size (n + m)) (putH h nm .none ++ [.row true (n + m) e.size fun i => if i < n then f i else g (i - n)])
          | _ => False
        | .v (.slice none 0 0) => (p ∧ notInt tab xT = true ∧ m * e.bytes ≤ 140737488355328 ∧ (m : Int) ≤ 9223372036854775807) ∧ K (.osl h.length 0 0 e.size m) (h ++ [.row true m e.size g])
        | _ => False
      | none => False
    | none => False
  | _ => False

/-- An operation that makes or writes memory goes through, and the symbolic heap follows. -/
def Goes (P : Program) (C : Ctx) (h : List Chunk) (ρ : Env) (w : World) (r : Result Value) (K : SV → List Chunk → Prop) : Prop :=
  ∃ w' ρ' sv h', r = .ok (den ρ' sv) w' ∧ K sv h' ∧ Models C ρ' h' w' ∧ Agree h.length ρ ρ' ∧ ok h'.length sv ∧ h.length ≤ h'.length

theorem look_holds {C : Ctx} {ρ : Env} {H : List Chunk} {w : World} (hM : Models C ρ H w) (k : Nat) : Holds ρ w k (lookH H k) := by
  cases hc : lookH H k with
  | none => trivial
  | cells wr fs => rw [← hc]; exact hM.holds k _ (lookH_some rfl (by rw [hc]; simp))
  | row wr n s f => rw [← hc]; exact hM.holds k _ (lookH_some rfl (by rw [hc]; simp))
  | map a b c d e => rw [← hc]; exact hM.holds k _ (lookH_some rfl (by rw [hc]; simp))
theorem look_good {C : Ctx} {ρ : Env} {H : List Chunk} {w : World} (hM : Models C ρ H w) (k : Nat) : (lookH H k).good H.length := by
  cases hc : lookH H k with
  | none => trivial
  | cells wr fs => rw [← hc]; exact hM.okc k _ (lookH_some rfl (by rw [hc]; simp))
  | row wr n s f => rw [← hc]; exact hM.okc k _ (lookH_some rfl (by rw [hc]; simp))
  | map a b c d e => rw [← hc]; exact hM.okc k _ (lookH_some rfl (by rw [hc]; simp))

theorem cellsOf_add {ρ : Env} {n m : Nat} {f g : Nat → SV} : cellsOf ρ (n + m) (fun i => if i < n then f i else g (i - n)) = cellsOf ρ n f ++ cellsOf ρ m g := by
  unfold cellsOf
  rw [flatMap_range_split _ n m]
  congr 1
  · exact flatMap_congr' _ _ n fun i hi => by simp only [if_pos hi]
  · exact flatMap_congr' _ _ m fun i hi => by simp only [if_neg (show ¬ n + i < n by omega), Nat.add_sub_cancel_left]

theorem cellsOf_agree {n : Nat} {ρ ρ' : Env} (ha : Agree n ρ ρ') {m s : Nat} {g : Nat → SV} (h : ∀ i, i < m → sz (g i) = s ∧ ok n (g i)) : cellsOf ρ' m g = cellsOf ρ m g :=
  flatMap_congr' _ _ m fun i hi => by rw [den_agree ha _ (h i hi).2]
theorem cellsOf_one {ρ : Env} {m : Nat} {g : Nat → SV} (h : ∀ i, i < m → stor (g i)) : ∀ v ∈ cellsOf ρ m g, v.oneCell' = true := by
  intro v hv
  unfold cellsOf at hv
  rw [List.mem_flatMap] at hv
  obtain ⟨i, hi, hv⟩ := hv
  rw [List.mem_range] at hi
  exact stor_one ρ (g i) (h i hi) v hv

theorem there_alloc (w : World) (cs : Array Value) (T : TypeId) (n : Nat) (h : n ≤ cs.size) : (w.alloc (.cells cs T)).there w.heap.size 0 n := fun j hj => by
  rw [Nat.zero_add]
  refine ⟨?_, by simp⟩
  rw [World.cell?_alloc_new]
  simp; omega
theorem rangeAt_alloc (w : World) (cs : List Value) (more : List Value) (T : TypeId) : (w.alloc (.cells (cs ++ more).toArray T)).rangeAt w.heap.size 0 cs := fun j v hj => by
  rw [Nat.zero_add, World.cell?_alloc_new]
  have hlt := get_lt hj
  simp only [List.getElem?_toArray]
  rw [List.getElem?_append_left hlt]
  exact hj

theorem appS_run {tab : Tab} (hT : tab.Ok P) {C : Ctx} {h : List Chunk} {dT xT ty : TypeId} {d x : SV} {K : SV → List Chunk → Prop} (ha : appS tab h dT xT d x K) {ρ : Env} {w : World} (hM : Models C ρ h w) :
    Goes P C h ρ w ((Builtin.append_ #[dT, xT] ty #[den ρ d, den ρ x]).run P w) K := by
  unfold appS at ha
  split at ha
  · rename_i el _ _ _ _ hdt
    split at ha
    · rename_i e hel
      split at ha
      · rename_i p m g hsrc
        obtain ⟨dd, hdd, hfd⟩ := (hT _ _ hdt).desc
        simp only [TD.fits] at hfd
        subst hfd
        have he := hT _ _ hel
        have hgrow : ∀ (a : Option Addr) (n c : Nat) (f : Nat → SV), p → notInt tab xT = true → (n + m) * e.bytes ≤ 140737488355328 → ((n + m : Nat) : Int) ≤ 9223372036854775807 → c < n + m →
            (∀ i, i < n → sz (f i) = e.size ∧ ok h.length (f i)) → (∀ i, i < n → stor (f i)) → (∀ w', w'.heap = w.heap → (Builtin.firstCells e.size n (.slice a n c)).run P w' = .ok (cellsOf ρ n f).toArray w') →
            ∀ H0, H0.length = h.length → Models C ρ H0 w → K (.osl h.length 0 0 e.size (n + m)) (H0 ++ [.row true (n + m) e.size fun i => if i < n then f i else g (i - n)]) →
            Goes P C h ρ w ((Builtin.append_ #[dT, xT] ty #[.slice a n c, den ρ x]).run P w) K := by
          intro a n c f hp hxt hb h63 hlt hfam hst hold H0 hH0 hM0 hK
          obtain ⟨s1, s2, s3, s4⟩ := src_run (P := P) hsrc hp (look_holds hM) (look_good hM)
          have hr := app_grow (P := P) (ty := ty) hdd (notInt_spec hT hxt) he a n c m (den ρ x) (cellsOf ρ n f) (cellsOf ρ m g) w s1 s2 hold hlt h63 hb ρ
          have hge := grownCap_ge w (n + m) c el
          have hnew : ∀ i, i < n + m → sz ((fun i => if i < n then f i else g (i - n)) i) = e.size ∧ ok (h.length + 1) ((fun i => if i < n then f i else g (i - n)) i) := by
            intro i hi
            by_cases hin : i < n
            · simp only [if_pos hin]; exact ⟨(hfam i hin).1, ok_mono (by omega) _ (hfam i hin).2⟩
            · simp only [if_neg hin]; exact ⟨(s3 (i - n) (by omega)).1, ok_mono (by omega) _ (s3 (i - n) (by omega)).2⟩
          have hnst : ∀ i, i < n + m → stor ((fun i => if i < n then f i else g (i - n)) i) := by
            intro i hi
            by_cases hin : i < n
            · simp only [if_pos hin]; exact hst i hin
            · simp only [if_neg hin]; exact s4 (i - n) (by omega)
          have hag := agree_upd ρ h.length ⟨w.heap.size, 0, grownCap w (n + m) c el, false⟩
          have hcells : cellsOf (upd ρ h.length ⟨w.heap.size, 0, grownCap w (n + m) c el, false⟩) (n + m) (fun i => if i < n then f i else g (i - n)) = cellsOf ρ n f ++ cellsOf ρ m g := by
            rw [cellsOf_add, cellsOf_agree hag hfam, cellsOf_agree hag s3]
          have hzl : (den ρ e.zero).cells.toList.length = e.size := (cells_len ρ 0 e.zero he.zok).trans he.zsz
          have hM' := hM0.alloc (w' := w.drew.alloc (.cells ((cellsOf ρ n f).toArray ++ (cellsOf ρ m g).toArray ++ Builtin.zeroCells (den ρ e.zero).cells (grownCap w (n + m) c el - (n + m))) el))
            (keep_drew_alloc w _) (c := .row true (n + m) e.size fun i => if i < n then f i else g (i - n)) (p := ⟨w.heap.size, 0, grownCap w (n + m) c el, false⟩) (fun _ => ⟨rfl, by simp⟩)
            (by rw [hH0]; exact ⟨hnew, hnst⟩)
            (by
              rw [hH0]
              simp only [Holds, upd_self, Bool.false_eq_true, if_false]
              refine ⟨?_, hge, fun _ => ?_⟩
              · rw [cells_fam]
                show (w.drew.alloc _).rangeAt w.drew.heap.size 0 (cellsOf _ _ _)
                rw [hcells]
                have := rangeAt_alloc w.drew (cellsOf ρ n f ++ cellsOf ρ m g) (Builtin.zeroCells (den ρ e.zero).cells (grownCap w (n + m) c el - (n + m))).toList el
                have e1 : (cellsOf ρ n f ++ cellsOf ρ m g ++ (Builtin.zeroCells (den ρ e.zero).cells (grownCap w (n + m) c el - (n + m))).toList).toArray = (cellsOf ρ n f).toArray ++ (cellsOf ρ m g).toArray ++ Builtin.zeroCells (den ρ e.zero).cells (grownCap w (n + m) c el - (n + m)) := by
                  apply Array.ext'; simp
                rw [e1] at this
                exact this
              · refine there_alloc w.drew _ el _ ?_
                have l1 := cellsOf_len (ρ := ρ) hfam
                have l2 := cellsOf_len (ρ := ρ) s3
                have l3 : (den ρ e.zero).cells.size = e.size := by rw [← hzl]; simp
                simp only [Array.size_append, List.size_toArray, size_zeroCells, l1, l2, l3, ← Nat.add_mul]
                refine Nat.mul_le_mul_right _ ?_
                omega)
          refine ⟨_, _, _, _, ?_, hK, by rw [hH0] at hM'; exact hM', hag, ?_, by simp [hH0]⟩
          · rw [hr]
            simp [den, upd_self]
          · simp [ok, hH0]
        have hnone : ∀ (f : Nat → SV), p → notInt tab xT = true → m = 0 → ∀ H0, H0.length = h.length → Models C ρ H0 w → K (.osl h.length 0 0 e.size 0) (H0 ++ [.row true 0 e.size f]) →
            Goes P C h ρ w ((Builtin.append_ #[dT, xT] ty #[.slice none 0 0, den ρ x]).run P w) K := by
          intro f hp hxt hm0 H0 hH0 hM0 hK
          obtain ⟨s1, s2, s3, s4⟩ := src_run (P := P) hsrc hp (look_holds hM) (look_good hM)
          subst hm0
          have hr := app_none (P := P) (ty := ty) hdd (notInt_spec hT hxt) he (den ρ x) w s1 (fun w' hw => by rw [s2 w' hw]; rfl)
          have hM' := hM0.alloc (w' := w) (Keep.refl _ _) (c := .row true 0 e.size f) (p := ⟨0, 0, 0, true⟩) (fun hh => by simp at hh)
            (by exact ⟨fun i hi => absurd hi (Nat.not_lt_zero _), fun i hi => absurd hi (Nat.not_lt_zero _)⟩) (by simp [Holds, upd_self])
          refine ⟨_, _, _, _, ?_, hK, by rw [hH0] at hM'; exact hM', agree_upd _ _ _, ?_, by simp [hH0]⟩
          · rw [hr]
            simp [den, upd_self]
          · simp [ok, hH0]
        split at ha
        · rename_i nm s n
          split at ha
          · rename_i n' s' f hc
            obtain ⟨⟨hp, hxt, hs1, hs2, hn, hb, h63⟩, hK⟩ := ha
            subst hs1 hs2 hn
            have hHn := look_holds hM nm
            have hGn := look_good hM nm
            rw [hc] at hHn hGn
            have hget : h[nm]? = some (.row true n e.size f) := lookH_some hc (by simp)
            have hfam : ∀ i, i < n → sz (f i) = e.size ∧ ok h.length (f i) := hGn.1
            have hst : ∀ i, i < n → stor (f i) := hGn.2
            have hM0 := hM.forget nm
            have hl0 := putH_length h nm .none
            cases hnil : (ρ nm).nil with
            | true =>
              simp only [Holds, hnil, if_true] at hHn
              obtain ⟨rfl, hc0⟩ := hHn
              have hden : den ρ (.osl nm 0 0 e.size 0) = .slice none 0 0 := by simp [den, hnil, hc0]
              rw [hden]
              by_cases hm : m = 0
              · subst hm
                exact hnone _ hp hxt rfl _ hl0 hM0 hK
              · exact hgrow none 0 0 f hp hxt hb h63 (by omega) hfam hst (fun w' _ => by simp [Builtin.firstCells, cellsOf]) _ hl0 hM0 hK
            | false =>
              have hcap := hHn.nle
              simp only [Holds, hnil, Bool.false_eq_true, if_false] at hHn
              have hden : den ρ (.osl nm 0 0 e.size n) = .slice (some ⟨(ρ nm).b, (ρ nm).o, none⟩) n (ρ nm).c := by
                simp only [den, hnil, cond_false, Nat.zero_mul, ite_self, Nat.add_zero, Nat.sub_zero]
              rw [hden]
              have hra := hHn.1
              rw [cells_fam] at hra
              by_cases hroom : n + m ≤ (ρ nm).c
              · obtain ⟨s1, s2, s3, s4⟩ := src_run (P := P) hsrc hp (look_holds hM) (look_good hM)
                have l1 := cellsOf_len (ρ := ρ) hfam
                have l2 := cellsOf_len (ρ := ρ) s3
                have ht := hHn.2.2 trivial
                have hr := app_room (P := P) (ty := ty) hdd (notInt_spec hT hxt) he (ρ nm).b (ρ nm).o n (ρ nm).c m (den ρ x) (cellsOf ρ m g) w s1 s2 l2 (cellsOf_one s4) ht hroom
                have hag := agree_upd ρ h.length (ρ nm)
                have hnew : ∀ i, i < n + m → sz ((fun i => if i < n then f i else g (i - n)) i) = e.size ∧ ok (h.length + 1) ((fun i => if i < n then f i else g (i - n)) i) := by
                  intro i hi
                  by_cases hin : i < n
                  · simp only [if_pos hin]; exact ⟨(hfam i hin).1, ok_mono (by omega) _ (hfam i hin).2⟩
                  · simp only [if_neg hin]; exact ⟨(s3 (i - n) (by omega)).1, ok_mono (by omega) _ (s3 (i - n) (by omega)).2⟩
                have hnst : ∀ i, i < n + m → stor ((fun i => if i < n then f i else g (i - n)) i) := by
                  intro i hi
                  by_cases hin : i < n
                  · simp only [if_pos hin]; exact hst i hin
                  · simp only [if_neg hin]; exact s4 (i - n) (by omega)
                have hle : n * e.size + (cellsOf ρ m g).length ≤ (ρ nm).c * e.size := by rw [l2, ← Nat.add_mul]; exact Nat.mul_le_mul_right _ hroom
                have hM' := hM.move (w' := w.setCells (ρ nm).b ((ρ nm).o + n * e.size) (cellsOf ρ m g)) hget ⟨rfl, hnil⟩ (keep_setCells w _ _ _) (p := ρ nm) rfl
                  (c' := .row true (n + m) e.size fun i => if i < n then f i else g (i - n)) ⟨hnew, hnst⟩ (by
                    simp only [Holds, upd_self, hnil, Bool.false_eq_true, if_false]
                    refine ⟨?_, hroom, fun _ => World.there_setCells ht _ _ _⟩
                    rw [cells_fam]
                    show World.rangeAt _ _ _ (cellsOf _ _ _)
                    rw [cellsOf_add, cellsOf_agree hag hfam, cellsOf_agree hag s3, rangeAt_app, l1]
                    refine ⟨World.rangeAt_setCells_apart hra _ _ _ (.inr (.inl ?_)), World.rangeAt_setCells_same _ _ _ _ ?_⟩
                    · show (ρ nm).o + (cellsOf ρ n f).length ≤ _
                      rw [l1]; exact Nat.le_refl _
                    · intro j hj
                      have := ht (n * e.size + j) (by omega)
                      rwa [← Nat.add_assoc] at this)
                refine ⟨_, _, _, _, ?_, hK, hM', hag, ?_, by simp [hl0]⟩
                · rw [hr]
                  simp [den, upd_self, hnil]
                · simp [ok, hl0]
              · exact hgrow _ n (ρ nm).c f hp hxt hb h63 (by omega) hfam hst (fun w' hw => run_firstCells_some (P := P) w' e.size n _ _ _ _ (cellsOf_len hfam) (load_list w w' hw _ _ _ hra)) _ hl0 hM0 hK
          · exact ha.elim
        · obtain ⟨⟨hp, hxt, hb, h63⟩, hK⟩ := ha
          have hden : den ρ (.v (.slice none 0 0)) = .slice none 0 0 := rfl
          rw [hden]
          by_cases hm : m = 0
          · subst hm
            exact hnone g hp hxt rfl h rfl hM hK
          · have := hgrow none 0 0 (fun _ => .tup []) hp hxt (by simpa using hb) (by simpa using h63) (by omega) (fun i hi => absurd hi (Nat.not_lt_zero _)) (fun i hi => absurd hi (Nat.not_lt_zero _))
              (fun w' _ => by simp [Builtin.firstCells, cellsOf]) h rfl hM
            simp only [Nat.zero_add, Nat.not_lt_zero, if_false, Nat.sub_zero] at this
            exact this hK
        · exact ha.elim
      · exact ha.elim
    · exact ha.elim
  · exact ha.elim
end Go.Sx
