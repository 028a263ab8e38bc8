/- All operations that make or write memory, in one. No condition. -/
import Derived.Laws.MakeOwn
import Derived.Test.YtloinbebkhcndaaSxj
set_option linter.all false
namespace Go.Sx
open Go.RowKit
variable {P : Program}

theorem Goes.block {C : Ctx} {h : List Chunk} {ρ : Env} {w : World} {K : SV → List Chunk → Prop} (hM : Models C ρ h w) {x : SV} (hx : ok h.length x) (hst : stor x) (T : TypeId) {r : Result Value}
    (hr : r = .ok (.pointer (some ⟨w.heap.size, 0, none⟩)) (w.alloc (.cells (den ρ x).cells T))) (hK : K (.ptr h.length 0) (h ++ [.cells true (parts x)])) : Goes P C h ρ w r K := by
  have hag := agree_upd ρ h.length ⟨w.heap.size, 0, 0, false⟩
  have hd : denC (upd ρ h.length ⟨w.heap.size, 0, 0, false⟩) (parts x) = (den ρ x).cells.toList := by rw [denC_agree hag _ (okL_parts hx), denC_parts]
  have e1 : (den ρ x).cells = ((den ρ x).cells.toList ++ []).toArray := by simp
  have hM' := hM.alloc (w' := w.alloc (.cells (den ρ x).cells T)) (keep_alloc w _) (c := .cells true (parts x)) (p := ⟨w.heap.size, 0, 0, false⟩) (fun _ => ⟨rfl, by simp⟩)
    ⟨okL_mono (by omega) _ (okL_parts hx), storL_parts hst⟩ (by
      simp only [Holds, upd_self]
      refine ⟨trivial, ?_, fun _ => ?_⟩
      · rw [hd]; have := rangeAt_alloc w (den ρ x).cells.toList [] T; rw [← e1] at this; exact this
      · rw [hd]; exact there_alloc w _ T _ (by simp))
  refine ⟨_, _, _, _, ?_, hK, hM', hag, ?_, by simp⟩
  · rw [hr]; simp [den, upd_self]
  · simp [ok]

theorem fill_all (size : Nat) : ∀ (l : List SV) (k : Nat) (ρ : Env) (n : Nat) (pre rest : List Value), (∀ x ∈ l, sz x = size ∧ ok n x) → pre.length = k * size → rest.length = l.length * size →
    Instr.fill (fun i => some (i * size, size)) (pre ++ rest).toArray ((l.zipIdx k).map fun p => (p.2, den ρ p.1)) = some (pre ++ denC ρ l).toArray
  | [], k, ρ, n, pre, rest, _, _, hr => by
    obtain rfl : rest = [] := List.length_eq_zero_iff.1 (by simpa using hr)
    rfl
  | x :: l, k, ρ, n, pre, rest, h, hp, hr => by
    have hx := h x (by simp)
    have lx := cells_len ρ n x hx.2
    have hle : (den ρ x).cells.toList.length ≤ rest.length := by
      rw [lx, hx.1, hr, List.length_cons, Nat.succ_mul]; omega
    obtain ⟨r1, r2, rfl, hr1⟩ : ∃ r1 r2, rest = r1 ++ r2 ∧ r1.length = (den ρ x).cells.toList.length := ⟨rest.take (den ρ x).cells.toList.length, rest.drop (den ρ x).cells.toList.length, (List.take_append_drop _ _).symm, by rw [List.length_take]; omega⟩
    simp only [List.zipIdx_cons, List.map_cons, Instr.fill]
    have e0 : (den ρ x).cells.size = size := by rw [← hx.1, ← lx]; simp
    rw [if_neg]
    · have hf := fill_fold (k * size) (den ρ x).cells.toList 0 pre r1 r2 (by omega) hr1
      rw [← Array.foldl_toList, Array.toList_zipIdx, hf]
      have ih := fill_all size l (k + 1) ρ n (pre ++ (den ρ x).cells.toList) r2 (fun y hy => h y (by simp [hy])) (by rw [List.length_append, lx, hx.1, hp, Nat.succ_mul]) (by
        rw [List.length_append, List.length_cons, Nat.succ_mul] at hr; rw [lx, hx.1] at hr1; omega)
      rw [← List.append_assoc, ih, denC, List.append_assoc]
    · have e1 : (pre ++ (r1 ++ r2)).toArray.size = k * size + (r1.length + r2.length) := by simp [hp]
      rw [e1, e0, Bool.or_eq_true, decide_eq_true_eq, decide_eq_true_eq]
      rw [lx, hx.1] at hr1
      omega

theorem denC_look (ρ : Env) : ∀ (l : List SV), denC ρ l = cellsOf ρ l.length (look l)
  | [] => rfl
  | x :: l => by
    unfold cellsOf
    rw [List.length_cons, List.range_succ_eq_map, List.flatMap_cons, List.flatMap_map, denC, denC_look ρ l]
    rfl

theorem look_all {Q : SV → Prop} : ∀ (l : List SV) (i : Nat), (∀ x ∈ l, Q x) → i < l.length → Q (look l i)
  | [], i, _, h => by simp at h
  | x :: l, 0, h, _ => h x (by simp)
  | x :: l, i + 1, h, hi => look_all l i (fun y hy => h y (by simp [hy])) (by simpa using hi)

def bslS (tab : Tab) (h : List Chunk) (t : TypeId) (len : Nat) (ps : List (Nat × SV)) (K : SV → List Chunk → Prop) : Prop :=
  match tab t with
  | some ⟨.slice el, _, _, _, _⟩ => match tab el with
    | some e => (ps = (ps.map (·.2)).zipIdx.map (fun p => (p.2, p.1)) ∧ ps.length = len ∧ len * e.size ≤ 16777216 ∧ (∀ x ∈ ps.map (·.2), sz x = e.size ∧ stor x)) ∧
        K (.osl h.length 0 0 e.size len) (h ++ [.row true len e.size (look (ps.map (·.2)))])
    | none => False
  | _ => False

theorem bslS_run {tab : Tab} (hT : tab.Ok P) {C : Ctx} {h : List Chunk} {t : TypeId} {len : Nat} {ps : List (Nat × SV)} {K : SV → List Chunk → Prop} (hb : bslS tab h t len ps K) {ρ : Env} {w : World} (hM : Models C ρ h w)
    (hx : ∀ p ∈ ps, ok h.length p.2) : Goes P C h ρ w ((Instr.buildSlice t len (ps.map fun p => (p.1, den ρ p.2)).toArray).run P w) K := by
  unfold bslS at hb
  split at hb
  · rename_i el _ _ _ _ ht
    split at hb
    · rename_i e hel
      obtain ⟨⟨h1, h2, h3, h4⟩, hK⟩ := hb
      obtain ⟨xs, hxs⟩ : ∃ xs, xs = ps.map (·.2) := ⟨_, rfl⟩
      rw [← hxs] at h1 h4 hK
      obtain ⟨d, hu, hf⟩ := (hT _ _ ht).und w
      simp only [TD.fits] at hf
      subst hf
      have he := hT _ _ hel
      have hS := he.siz w
      have hZ := zero_run he ρ w
      have hall : ∀ x ∈ xs, sz x = e.size ∧ ok h.length x := by
        intro x hxm
        refine ⟨(h4 x hxm).1, ?_⟩
        rw [hxs] at hxm
        obtain ⟨p, hp, rfl⟩ := List.mem_map.1 hxm
        exact hx p hp
      have hll : xs.length = len := by rw [hxs]; simpa using h2
      have key : ∀ (zs : Array Value), zs.size = len * e.size → Instr.fill (fun i => some (i * e.size, e.size)) zs (ps.map fun p => (p.1, den ρ p.2)) = some (denC ρ xs).toArray := by
        intro zs hzs
        have := fill_all e.size xs 0 ρ h.length [] zs.toList hall (by simp) (by rw [hll]; simpa using hzs)
        rw [List.nil_append, List.nil_append, Array.toArray_toList] at this
        rw [← this]
        congr 1
        conv => lhs; rw [h1]
        simp [Function.comp_def]
      have hag := agree_upd ρ h.length ⟨w.heap.size, 0, len, false⟩
      have hlk : ∀ i, i < len → sz (look xs i) = e.size ∧ ok h.length (look xs i) := fun i hi => look_all _ i hall (by omega)
      have hls : ∀ i, i < len → stor (look xs i) := fun i hi => (look_all (Q := fun x => sz x = e.size ∧ stor x) _ i h4 (by omega)).2
      have hlen : (denC ρ xs).length = len * e.size := by rw [denC_look, hll]; exact cellsOf_len hlk
      have hM' := hM.alloc (w' := w.alloc (.cells (denC ρ xs).toArray el)) (keep_alloc w _) (c := .row true len e.size (look xs)) (p := ⟨w.heap.size, 0, len, false⟩) (fun _ => ⟨rfl, by simp⟩)
        ⟨fun i hi => ⟨(hlk i hi).1, ok_mono (by omega) _ (hlk i hi).2⟩, hls⟩ (by
          simp only [Holds, upd_self, Bool.false_eq_true, if_false]
          refine ⟨?_, Nat.le_refl _, fun _ => ?_⟩
          · rw [cells_fam]
            show World.rangeAt _ _ _ (cellsOf _ _ _)
            rw [cellsOf_agree hag hlk]
            have := rangeAt_alloc w (denC ρ xs) [] el
            rw [List.append_nil] at this
            rw [← hll, ← denC_look]
            exact this
          · exact there_alloc w _ el _ (by simp [hlen]))
      refine ⟨_, _, _, _, ?_, hK, hM', hag, ?_, by simp⟩
      · unfold Instr.buildSlice
        simp only [Sem.run_bind, hu, hS, Result.andThen_ok]
        rw [if_neg (by omega)]
        simp only [Sem.run_pure, Result.andThen_ok, Sem.run_ite, Sem.run_bind, hZ]
        by_cases hz : len * e.size = 0
        · rw [if_pos hz]
          try simp only [Result.andThen_ok]
          rw [key]
          · simp only [Sem.run_bind, newRow, newObj, Sem.run, Result.andThen_ok, den, upd_self]
            simp
          · simp
        · rw [if_neg hz]
          try simp only [Result.andThen_ok]
          rw [key]
          · simp only [Sem.run_bind, newRow, newObj, Sem.run, Result.andThen_ok, den, upd_self]
            simp
          · simp
      · simp [ok]
    · exact hb.elim
  · exact hb.elim

/-- A row of so many, all zero. -/
def mkS (tab : Tab) (h : List Chunk) (t : TypeId) (l c : SV) (K : SV → List Chunk → Prop) : Prop :=
  match tab t with
  | some ⟨.slice el, _, _, _, _⟩ => match tab el with
    | some e => match l, c with
      | .int _ n, .int _ m => (n = m ∧ 0 ≤ n ∧ (e.bytes : Int) * n ≤ 281474976710656 ∧ n ≤ 9223372036854775807) ∧ K (.osl h.length 0 0 e.size n.toNat) (h ++ [.row true n.toNat e.size fun _ => e.zero])
      | _, _ => False
    | none => False
  | _ => False

theorem made_list (zc : Array Value) : ∀ n, (madeCells zc (n * zc.size)).toList = (List.range n).flatMap fun _ => zc.toList
  | 0 => by simp [madeCells]
  | n + 1 => by
    have ih := made_list zc n
    have hl : ∀ m, (madeCells zc m).toList = (List.range m).map (zc[· % zc.size]!) := fun m => by
      simp [madeCells, Array.toList_range]
    rw [hl] at ih ⊢
    rw [Nat.succ_mul, List.range_add, List.map_append, ih, List.range_succ, List.flatMap_append]
    congr 1
    rw [List.map_map, List.flatMap_cons, List.flatMap_nil, List.append_nil]
    apply List.ext_getElem?
    intro i
    rcases Nat.lt_or_ge i zc.size with hi | hi
    · rw [List.getElem?_map, List.getElem?_range hi, Option.map_some]
      simp only [Function.comp_apply]
      rw [show (n * zc.size + i) % zc.size = i by rw [Nat.mul_comm, Nat.mul_add_mod]; exact Nat.mod_eq_of_lt hi]
      rw [getElem!_pos zc i hi, Array.getElem?_toList, Array.getElem?_eq_getElem hi]
    · rw [List.getElem?_eq_none (by simpa using hi), List.getElem?_eq_none (by simpa using hi)]

theorem mkS_run {tab : Tab} (hT : tab.Ok P) {C : Ctx} {h : List Chunk} {t : TypeId} {l c : SV} {K : SV → List Chunk → Prop} (hb : mkS tab h t l c K) {ρ : Env} {w : World} (hM : Models C ρ h w) :
    Goes P C h ρ w ((Instr.makeSlice t (den ρ l) (den ρ c)).run P w) K := by
  unfold mkS at hb
  split at hb
  · rename_i el _ _ _ _ ht
    split at hb
    · rename_i e hel
      split at hb
      · rename_i kl n kc m
        obtain ⟨⟨rfl, h0, hbt, h63⟩, hK⟩ := hb
        obtain ⟨d, hu, hf⟩ := (hT _ _ ht).desc
        simp only [TD.fits] at hf
        subst hf
        have he := hT _ _ hel
        obtain ⟨i, hi, his, hib, hiz⟩ := he.info
        have hr := run_make (P := P) w t el i (den ρ e.zero) hu hi (hiz ρ) kl kc n n h0 (Int.le_refl _) (by rw [hib]; exact hbt) h63
        have hag := agree_upd ρ h.length ⟨w.heap.size, 0, n.toNat, false⟩
        have hlk : ∀ i, i < n.toNat → sz ((fun _ => e.zero) i) = e.size ∧ ok h.length ((fun _ => e.zero) i) := fun i _ => ⟨he.zsz, ok_mono (Nat.zero_le _) _ he.zok⟩
        have hzs : (den ρ e.zero).cells.size = e.size := by
          have := cells_len ρ 0 _ he.zok
          rw [he.zsz] at this
          simpa using this
        have hcs : (madeCells (den ρ e.zero).cells (n.toNat * i.size)).toList = cellsOf ρ n.toNat fun _ => e.zero := by
          rw [his, ← hzs, made_list]
          rfl
        have hsize : (madeCells (den ρ e.zero).cells (n.toNat * i.size)).size = n.toNat * e.size := by rw [size_madeCells, his]
        have hM' := hM.alloc (w' := w.alloc (.cells (madeCells (den ρ e.zero).cells (n.toNat * i.size)) el)) (keep_alloc w _) (c := .row true n.toNat e.size fun _ => e.zero) (p := ⟨w.heap.size, 0, n.toNat, false⟩) (fun _ => ⟨rfl, by simp⟩)
          ⟨fun i hi => ⟨(hlk i hi).1, ok_mono (by omega) _ (hlk i hi).2⟩, fun i hi => he.zstor⟩ (by
            simp only [Holds, upd_self, Bool.false_eq_true, if_false]
            refine ⟨?_, Nat.le_refl _, fun _ => ?_⟩
            · rw [cells_fam]
              show World.rangeAt _ _ _ (cellsOf _ _ _)
              rw [cellsOf_agree hag hlk, ← hcs]
              have := rangeAt_alloc w (madeCells (den ρ e.zero).cells (n.toNat * i.size)).toList [] el
              rw [List.append_nil, Array.toArray_toList] at this
              exact this
            · exact there_alloc w _ el _ (by rw [hsize]; omega))
        refine ⟨_, _, _, _, ?_, hK, hM', hag, ?_, by simp⟩
        · simp only [den] at hr ⊢
          rw [hr]
          simp [upd_self]
        · simp [ok]
      · exact hb.elim
    · exact hb.elim
  · exact hb.elim

/-- A text as bytes of its own. -/
def s2bS (tab : Tab) (h : List Chunk) (s d : TypeId) (x : SV) (K : SV → List Chunk → Prop) : Prop :=
  match tab s, tab d with
  | some _, some ⟨.slice el, _, _, _, _⟩ => match tab el with
    | some ⟨.int .u8, _, _, _, _⟩ => match x with
      | .str bs => (bs.size : Int) ≤ 9223372036854775807 ∧ K (.osl h.length 0 0 1 bs.size) (h ++ [.row true bs.size 1 fun i => .int .u8 (byteAt bs i)])
      | .osl nm d0 e0 sz' len => match lookH h nm with
        | .row true m 1 f => (s = d ∧ 0 < m ∧ nm < h.length) ∧ K (.osl nm d0 e0 sz' len) (putH h nm (.row false m 1 f))
        | _ => False
      | _ => False
    | _ => False
  | _, _ => False

theorem freeze_run {w : World} {b : Nat} {cs : Array Value} {el : TypeId} {fr : Nat × Nat} (hb : w.heap[b]? = some (.cells cs el fr)) (o : Nat) :
    ∃ w', (markStringish ⟨b, o, none⟩).run P w = .ok () w' ∧ Keep (fun k => k = b) w w' ∧ ∀ j, w'.cell? ⟨b, j, none⟩ = w.cell? ⟨b, j, none⟩ := by
  refine ⟨w.freeze ⟨b, cs.size, none⟩ 1, ?_, ⟨rfl, rfl, rfl, by simp [World.freeze], fun k _ hk => ?_⟩, fun j => ?_⟩
  · unfold markStringish
    have hsh : w.shape? b = some (el, cs.size) := by unfold World.shape?; rw [hb]
    simp only [Sem.run_bind, shape, Sem.run, hsh, Result.andThen_ok]
    simp only [freeze, Sem.run, Result.andThen_ok]
  · simp only [World.freeze, Nat.one_ne_zero, if_false, Array.getElem?_modify]
    rw [if_neg (fun h => hk h.symm)]
  · simp only [World.cell?, World.freeze, Nat.one_ne_zero, if_false, Array.getElem?_modify, if_true, hb, Option.map_some]

theorem s2bS_run {tab : Tab} (hT : tab.Ok P) {C : Ctx} {h : List Chunk} {s d : TypeId} {x : SV} {K : SV → List Chunk → Prop} (hb : s2bS tab h s d x K) {ρ : Env} {w : World} (hM : Models C ρ h w) :
    Goes P C h ρ w ((convert s d (den ρ x)).run P w) K := by
  unfold s2bS at hb
  split at hb
  · rename_i es el _ _ _ _ hes hd
    split at hb
    · rename_i _ _ _ _ hel
      split at hb
      · rename_i bs
        obtain ⟨h63, hK⟩ := hb
        obtain ⟨ds, hus, hfs⟩ := (hT _ _ hes).und w
        obtain ⟨dd, hud, hfd⟩ := (hT _ _ hd).und w
        obtain ⟨de, hue, hfe⟩ := (hT _ _ hel).und w
        simp only [TD.fits] at hfd hfe
        subst hfd hfe
        have hC := choose_cap (P := P) w bs.size 0 el
        have hge := grownCap_ge w bs.size 0 el
        have hag := agree_upd ρ h.length ⟨w.heap.size, 0, grownCap w bs.size 0 el, false⟩
        have hlk : ∀ i, i < bs.size → sz ((fun i => SV.int .u8 (byteAt bs i)) i) = 1 ∧ ok h.length ((fun i => SV.int .u8 (byteAt bs i)) i) := fun i _ => ⟨rfl, trivial⟩
        have hcs : (bs.data.map fun b => Value.int .u8 b.toNat).toList = cellsOf ρ bs.size fun i => .int .u8 (byteAt bs i) := by
          have := str_cells ρ bs
          simpa using this
        -- the world behind it
        let cells : Array Value := (bs.data.map fun b => Value.int .u8 b.toNat) ++ Array.replicate (grownCap w bs.size 0 el - bs.size) (.int .u8 0)
        have hsz : cells.size = grownCap w bs.size 0 el := by
          have : bs.data.size = bs.size := rfl
          simp [cells]; omega
        let w1 : World := (w.drew.alloc (.cells cells el)).freeze ⟨w.heap.size, cells.size, none⟩ 1
        have hb1 : ∀ k, k ≠ w.heap.size → w1.heap[k]? = (w.drew.alloc (.cells cells el)).heap[k]? := by
          intro k hk
          simp only [w1, World.freeze, Nat.one_ne_zero, if_false, Array.getElem?_modify]
          rw [if_neg (by omega)]
        have hb2 : w1.heap[w.heap.size]? = some (.cells cells el (cells.size, cells.size + 1)) := by
          have hx : (w.drew.alloc (.cells cells el)).heap[w.heap.size]? = some (.cells cells el) := heap_alloc_new w.drew _
          simp only [w1, World.freeze, Nat.one_ne_zero, if_false, Array.getElem?_modify, if_true, hx, Option.map_some]
          rfl
        have hkeep : Keep (fun _ => False) w w1 := by
          refine ⟨rfl, rfl, rfl, ?_, fun b hb _ => ?_⟩
          · simp [w1, World.freeze]
          · rw [hb1 b (by omega)]; exact Below.heap_alloc w.drew _ b hb
        have hcell : ∀ j, w1.cell? ⟨w.heap.size, j, none⟩ = cells[j]? := by
          intro j
          simp [World.cell?, hb2]
        have hM' := hM.alloc (w' := w1) hkeep (c := .row true bs.size 1 fun i => .int .u8 (byteAt bs i)) (p := ⟨w.heap.size, 0, grownCap w bs.size 0 el, false⟩)
          (fun _ => ⟨rfl, by simp [w1, World.freeze]⟩) ⟨fun i hi => ⟨rfl, trivial⟩, fun i hi => trivial⟩ (by
            simp only [Holds, upd_self, Bool.false_eq_true, if_false]
            refine ⟨?_, hge, fun _ => ?_⟩
            · rw [cells_fam]
              show World.rangeAt _ _ _ (cellsOf _ _ _)
              rw [cellsOf_agree hag hlk, ← hcs]
              intro j v hj
              rw [Nat.zero_add, hcell]
              have hlt := get_lt hj
              simp only [cells]
              rw [Array.getElem?_append_left (by simpa using hlt)]
              simpa using hj
            · intro j hj
              rw [Nat.zero_add]
              refine ⟨?_, ?_⟩
              · rw [hcell]
                simp only [Nat.mul_one] at hj
                rw [← hsz] at hj
                simp [hj]
              · simp only [Nat.mul_one] at hj
                rw [← hsz] at hj
                simp [World.frozen?, hb2]
                omega)
        refine ⟨w1, _, _, _, ?_, hK, hM', hag, by simp [ok], by simp⟩
        simp only [den, convert, Sem.run_bind, hus, hud, Result.andThen_ok]
        have hmatch : (Conv.stringToBytes el bs).run P w = .ok (.slice (some ⟨w.heap.size, 0, none⟩) bs.size (grownCap w bs.size 0 el)) w1 := by
          unfold Conv.stringToBytes
          simp only [Sem.run_bind, hC, Result.andThen_ok, newRow, newObj, Sem.run, Sem.run_pure]
          have hx : (w.drew.alloc (.cells cells el)).heap[w.heap.size]? = some (.cells cells el) := heap_alloc_new w.drew _
          have hsh : (w.drew.alloc (.cells cells el)).shape? w.heap.size = some (el, cells.size) := by
            unfold World.shape?
            rw [hx]
          unfold markStringish
          simp only [Sem.run_bind, shape, Sem.run, World.alloc_eq, Result.andThen_ok]
          have hsh' : (w.drew.alloc (.cells ((bs.data.map fun b => Value.int .u8 b.toNat) ++ Array.replicate (grownCap w bs.size 0 el - bs.size) (.int .u8 0)) el)).shape? w.drew.heap.size = some (el, cells.size) := hsh
          rw [hsh']
          simp only [freeze, Sem.run, Result.andThen_ok]
          rfl
        cases ds <;> simp only [Sem.run_bind, hue, Result.andThen_ok, hmatch] <;> simp [upd_self]
      · rename_i nm d0 e0 sz' len
        split at hb
        · rename_i m f hlk
          obtain ⟨⟨rfl, hm, hnm⟩, hK⟩ := hb
          obtain ⟨dd, hud, hfd⟩ := (hT _ _ hd).und w
          obtain ⟨de, hue, hfe⟩ := (hT _ _ hel).und w
          simp only [TD.fits] at hfd hfe
          subst hfd hfe
          have hc := lookH_some hlk (by simp)
          have hH := hM.holds _ _ hc
          obtain ⟨hn, hr⟩ := hH.some hm
          have hcell : ∃ v, w.cell? ⟨(ρ nm).b, (ρ nm).o, none⟩ = some v := by
            have hlen : (den ρ (.fam m 1 f)).cells.toList.length = m * 1 := cells_len ρ _ _ (hM.okc _ _ hc).1
            obtain ⟨v, hv⟩ : ∃ v, (den ρ (.fam m 1 f)).cells.toList[0]? = some v := ⟨_, List.getElem?_eq_getElem (by omega)⟩
            exact ⟨v, hr 0 v hv⟩
          obtain ⟨v, hv⟩ := hcell
          obtain ⟨cs, el', fr, hob⟩ : ∃ cs el' fr, w.heap[(ρ nm).b]? = some (.cells cs el' fr) := by
            unfold World.cell? at hv
            split at hv
            · exact ⟨_, _, _, by assumption⟩
            · cases hv
          obtain ⟨w', hrun, hkeep, hcells⟩ := freeze_run (P := P) hob ((ρ nm).o + (if (ρ nm).c = e0 then d0 * sz' else e0 * sz'))
          have hM' := hM.write hc ⟨rfl, hn⟩ hkeep (c' := .row false m 1 f) (show Chunk.good h.length (.row false m 1 f) from hM.okc nm (.row true m 1 f) hc) (by
            simp only [Holds, hn, Bool.false_eq_true, if_false]
            refine ⟨fun j v hj => ?_, hH.nle, fun h => by cases h⟩
            rw [hcells]
            exact hr j v hj)
          refine ⟨w', ρ, _, _, ?_, hK, hM', fun _ _ => rfl, by simpa [ok, putH_length] using hnm, by simp [putH_length]⟩
          simp only [den, hn, cond_false]
          simp [convert, hud, hue, hrun]
        · exact hb.elim
      · exact hb.elim
    · exact hb.elim
  · exact hb.elim

/-! ### Maps made and written -/
theorem keep_putMap {w : World} {r : Nat} {o : Obj} : Keep (fun b => b = r) w { w with heap := w.heap.setIfInBounds r o } :=
  ⟨rfl, rfl, rfl, by simp, fun b _ hb => by
    show (w.heap.setIfInBounds r o)[b]? = _
    rw [Array.getElem?_setIfInBounds, if_neg (Ne.symm hb)]⟩

/-- A map written. -/
def mupS (tab : Tab) (h : List Chunk) (ty : TypeId) (x k v : SV) (K : SV → List Chunk → Prop) : Prop :=
  match tab ty with
  | some e0 => match e0.d with
    | .map kt _ => match tab kt with
      | some _ => match x with
        | .mp nm => match lookH h nm with
          | .map n key val born clock => (keyS tab kt k ∧ keysS tab kt k n key) ∧ match mfind tab kt k n key with
            | some i => (∀ ρ, Instr.sameBits 10000 (den ρ (key i)) (den ρ k) = true) ∧ K (.tup []) (putH h nm (.map n (fun j => if j = i then k else key j) (fun j => if j = i then v else val j) born clock))
            | none => True ∧ K (.tup []) (putH h nm (.map (n + 1) (fun j => if j < n then key j else k) (fun j => if j < n then val j else v) (fun j => if j < n then born j else clock) (clock + 1)))
          | _ => False
        | _ => False
      | none => False
    | _ => False
  | none => False

theorem ents_get (ρ : Env) (key val : Nat → SV) (born : Nat → Nat) (n i : Nat) : (ents ρ key val born n 0)[i]? = if i < n then some { key := den ρ (key i), val := den ρ (val i), born := born i } else none := by
  unfold ents
  rw [List.getElem?_map]
  by_cases h : i < n
  · rw [List.getElem?_range' (by omega)]
    simp [h]
  · rw [List.getElem?_eq_none (by simp; omega)]
    simp [h]

theorem ents_push (ρ : Env) (key val : Nat → SV) (born : Nat → Nat) (n clock : Nat) (k v : SV) :
    (ents ρ key val born n 0).toArray.push { key := den ρ k, val := den ρ v, born := clock } = (ents ρ (fun j => if j < n then key j else k) (fun j => if j < n then val j else v) (fun j => if j < n then born j else clock) (n + 1) 0).toArray := by
  apply Array.ext'
  simp only [Array.toList_push]
  apply List.ext_getElem?
  intro i
  rw [ents_get, List.getElem?_append, ents_get]
  have hl : (ents ρ key val born n 0).length = n := by simp [ents]
  rw [hl]
  by_cases h : i < n
  · simp [h, show i < n + 1 by omega]
  · by_cases h2 : i = n
    · subst h2; simp
    · rw [if_neg h, if_neg (show ¬ i < n + 1 by omega), List.getElem?_eq_none (by simp; omega)]

theorem ents_modify (ρ : Env) (key val : Nat → SV) (born : Nat → Nat) (n i : Nat) (k v : SV) :
    ((ents ρ key val born n 0).toArray.modify i fun e => { e with key := den ρ k, val := den ρ v }) = (ents ρ (fun j => if j = i then k else key j) (fun j => if j = i then v else val j) born n 0).toArray := by
  apply Array.ext'
  apply List.ext_getElem?
  intro j
  rw [Array.toList_modify, List.getElem?_modify, ents_get, ents_get]
  by_cases h : j < n
  · by_cases h2 : i = j
    · subst h2; simp [h]
    · simp [h, h2, Ne.symm h2]
  · simp [h]

theorem mupS_run {tab : Tab} (hT : tab.Ok P) {C : Ctx} {h : List Chunk} {ty : TypeId} {x k v : SV} {K : SV → List Chunk → Prop} (hm : mupS tab h ty x k v K) {ρ : Env} {w : World} (hM : Models C ρ h w) (hk : ok h.length k) (hv : ok h.length v)
    (hH : ∀ j, Holds ρ w j (lookH h j)) (hg : ∀ j, (lookH h j).good h.length) :
    ∃ w' h', (Instr.mapUpdate ty (den ρ x) (den ρ k) (den ρ v)).run P w = .ok () w' ∧ K (.tup []) h' ∧ Models C ρ h' w' ∧ h'.length = h.length := by
  unfold mupS at hm
  split at hm
  · rename_i e0 he0
    split at hm
    · rename_i kt et hd
      split at hm
      · rename_i ek hek
        obtain ⟨dd, hu, hf⟩ := (hT ty e0 he0).desc
        rw [hd] at hf
        simp only [TD.fits] at hf
        subst hf
        split at hm
        · rename_i nm
          split at hm
          · rename_i n key val born clock hc
            obtain ⟨⟨hp1, hp2⟩, hm⟩ := hm
            have h1 := hH nm
            have h2 := hg nm
            rw [hc] at h1 h2
            simp only [Holds, mapObj_list] at h1
            have h0 := findKey_run (key := key) (val := val) (born := born) (m := n) hT hek ρ hk hp2 (fun i hi => (h2 i hi).1) w
            have hgo : (getObj (ρ nm).b).run P w = .ok (.map (ents ρ key val born n 0).toArray clock) w := by simp [getObj, Sem.run, h1.2]
            have hlt : (ρ nm).b < w.heap.size := (Array.getElem?_eq_some_iff.1 h1.2).1
            have hset : ∀ o, (setObj (ρ nm).b o).run P w = .ok () { w with heap := w.heap.setIfInBounds (ρ nm).b o } := fun o => by simp [setObj, Sem.run, h1.2]
            have hwr : ∀ (n' : Nat) (key' val' : Nat → SV) (born' : Nat → Nat) (clock' : Nat), (∀ i, i < n' → ok h.length (key' i) ∧ ok h.length (val' i)) →
                Models C ρ (putH h nm (.map n' key' val' born' clock')) { w with heap := w.heap.setIfInBounds (ρ nm).b (mapObj ρ n' key' val' born' clock') } := fun n' key' val' born' clock' hgc =>
              hM.write (lookH_some hc (by simp)) ⟨rfl, h1.1⟩ keep_putMap hgc ⟨h1.1, by simp [Array.getElem?_setIfInBounds, hlt]⟩
            unfold Instr.mapUpdate
            simp only [den, Sem.run_bind, run_underlying hu w, Result.andThen_ok, hgo]
            rw [keyS_run hT hp1 ρ hk _ w, Result.andThen_ok, h0]
            split at hm
            · rename_i i hi
              have hin : i < n := by
                have := mfind_lt n 0 hi
                omega
              obtain ⟨hs, hK⟩ := hm
              have hkey : (((ents ρ key val born n 0).toArray[i]?).map (·.key)).getD (den ρ k) = den ρ (key i) := by
                rw [List.getElem?_toArray, ents_get, if_pos hin]
                rfl
              simp only [hi, Option.map_some, Result.andThen_ok, Sem.run_bind, hkey, Instr.keyThatStays, hs ρ, if_true, Sem.run_pure, hset]
              rw [ents_modify, ← mapObj_list]
              refine ⟨_, _, rfl, hK, hwr _ _ _ _ _ fun j hj => ?_, putH_length _ _ _⟩
              constructor
              · split
                · exact hk
                · exact (h2 j hj).1
              · split
                · exact hv
                · exact (h2 j hj).2
            · rename_i hi
              simp only [hi, Option.map_none, Result.andThen_ok, hset]
              rw [ents_push, ← mapObj_list]
              refine ⟨_, _, rfl, hm.2, hwr _ _ _ _ _ fun j hj => ?_, putH_length _ _ _⟩
              constructor
              · split
                · rename_i hjn; exact (h2 j hjn).1
                · exact hk
              · split
                · rename_i hjn; exact (h2 j hjn).2
                · exact hv
          · exact hm.elim
        · exact hm.elim
      · exact hm.elim
    · exact hm.elim
  · exact hm.elim

/-- A key taken out of a map. -/
def delS (tab : Tab) (h : List Chunk) (ty : TypeId) (x k : SV) (K : SV → List Chunk → Prop) : Prop :=
  match tab ty with
  | some e0 => match e0.d with
    | .map kt _ => match tab kt with
      | some _ => match x with
        | .mp nm => match lookH h nm with
          | .map n key val born clock => (keyS tab kt k ∧ keysS tab kt k n key) ∧ match mfind tab kt k n key with
            | some i => True ∧ K (.tup []) (putH h nm (.map (n - 1) (fun j => key (if j < i then j else j + 1)) (fun j => val (if j < i then j else j + 1)) (fun j => born (if j < i then j else j + 1)) clock))
            | none => True ∧ K (.tup []) (putH h nm (.map n key val born clock))
          | _ => False
        | _ => False
      | none => False
    | _ => False
  | none => False

theorem ents_erase (ρ : Env) (key val : Nat → SV) (born : Nat → Nat) (n i : Nat) (hi : i < n) :
    ((ents ρ key val born n 0).toArray.eraseIdxIfInBounds i) = (ents ρ (fun j => key (if j < i then j else j + 1)) (fun j => val (if j < i then j else j + 1)) (fun j => born (if j < i then j else j + 1)) (n - 1) 0).toArray := by
  have hl : (ents ρ key val born n 0).length = n := by simp [ents]
  have h0 : i < (ents ρ key val born n 0).toArray.size := by simpa [hl] using hi
  rw [Array.eraseIdxIfInBounds, dif_pos h0]
  apply Array.ext'
  rw [Array.toList_eraseIdx]
  apply List.ext_getElem?
  intro j
  rw [List.getElem?_eraseIdx, ents_get, ents_get, ents_get]
  by_cases h : j < i
  · simp [h, show j < n by omega, show j < n - 1 by omega]
  · by_cases h2 : j < n - 1
    · simp [h, h2, show j + 1 < n by omega]
    · simp [h, h2, show ¬ j + 1 < n by omega]

theorem delS_run {tab : Tab} (hT : tab.Ok P) {C : Ctx} {h : List Chunk} {ty ty2 type : TypeId} {x k : SV} {K : SV → List Chunk → Prop} (hm : delS tab h ty x k K) {ρ : Env} {w : World} (hM : Models C ρ h w) (hk : ok h.length k)
    (hH : ∀ j, Holds ρ w j (lookH h j)) (hg : ∀ j, (lookH h j).good h.length) :
    Goes P C h ρ w ((Builtin.delete_ #[ty, ty2] type #[den ρ x, den ρ k]).run P w) K := by
  unfold delS at hm
  split at hm
  · rename_i e0 he0
    split at hm
    · rename_i kt et hd
      split at hm
      · rename_i ek hek
        obtain ⟨dd, hu, hf⟩ := (hT ty e0 he0).desc
        rw [hd] at hf
        simp only [TD.fits] at hf
        subst hf
        split at hm
        · rename_i nm
          split at hm
          · rename_i n key val born clock hc
            obtain ⟨⟨hp1, hp2⟩, hm⟩ := hm
            have h1 := hH nm
            have h2 := hg nm
            rw [hc] at h1 h2
            simp only [Holds, mapObj_list] at h1
            have h0 := findKey_run (key := key) (val := val) (born := born) (m := n) hT hek ρ hk hp2 (fun i hi => (h2 i hi).1) w
            have hgo : (getObj (ρ nm).b).run P w = .ok (.map (ents ρ key val born n 0).toArray clock) w := by simp [getObj, Sem.run, h1.2]
            have hlt : (ρ nm).b < w.heap.size := (Array.getElem?_eq_some_iff.1 h1.2).1
            have hset : ∀ o, (setObj (ρ nm).b o).run P w = .ok () { w with heap := w.heap.setIfInBounds (ρ nm).b o } := fun o => by simp [setObj, Sem.run, h1.2]
            have hwr : ∀ (n' : Nat) (key' val' : Nat → SV) (born' : Nat → Nat) (clock' : Nat), (∀ i, i < n' → ok h.length (key' i) ∧ ok h.length (val' i)) →
                Models C ρ (putH h nm (.map n' key' val' born' clock')) { w with heap := w.heap.setIfInBounds (ρ nm).b (mapObj ρ n' key' val' born' clock') } := fun n' key' val' born' clock' hgc =>
              hM.write (lookH_some hc (by simp)) ⟨rfl, h1.1⟩ keep_putMap hgc ⟨h1.1, by simp [Array.getElem?_setIfInBounds, hlt]⟩
            unfold Builtin.delete_
            have hz : ∀ (a b : TypeId), (#[a, b] : Array TypeId)[0]? = some a := fun _ _ => rfl
            have hz0 : ∀ (a b : Value), (#[a, b] : Array Value)[0]? = some a := fun _ _ => rfl
            have hz1 : ∀ (a b : Value), (#[a, b] : Array Value)[1]? = some b := fun _ _ => rfl
            simp only [hz, hz0, hz1, den, Sem.run_bind, run_underlying hu w, Result.andThen_ok, hgo]
            rw [keyS_run hT hp1 ρ hk _ w, Result.andThen_ok, h0]
            split at hm
            · rename_i i hi
              have hin : i < n := by
                have := mfind_lt n 0 hi
                omega
              simp only [hi, Option.map_some, Result.andThen_ok, Sem.run_bind, hset, Sem.run_pure]
              rw [ents_erase _ _ _ _ _ _ hin, ← mapObj_list]
              refine ⟨_, ρ, .tup [], _, rfl, hm.2, hwr _ _ _ _ _ fun j hj => ?_, fun _ _ => rfl, by simp [ok, okL], by rw [putH_length]; exact Nat.le_refl _⟩
              refine h2 _ ?_
              split <;> omega
            · rename_i hi
              simp only [hi, Option.map_none, Result.andThen_ok, Sem.run_bind, hset, Sem.run_pure]
              rw [← mapObj_list]
              exact ⟨_, ρ, .tup [], _, rfl, hm.2, hwr _ _ _ _ _ fun j hj => h2 j hj, fun _ _ => rfl, by simp [ok, okL], by rw [putH_length]; exact Nat.le_refl _⟩
          · exact hm.elim
        · exact hm.elim
      · exact hm.elim
    · exact hm.elim
  · exact hm.elim

/-- An operation that makes or writes memory. -/
def ef (tab : Tab) (t : Slots) (h : List Chunk) (o : Op) (K : SV → List Chunk → Prop) : Prop :=
  match o with
  | .alloc el => match tab el with
    | some e => True ∧ K (.ptr h.length 0) (h ++ [.cells true (parts e.zero)])
    | none => False
  | .box _ x => stor (ev t x) ∧ K (.ptr h.length 0) (h ++ [.cells true (parts (ev t x))])
  | .buildSlice ty len ps => bslS tab h ty len (ps.toList.map fun p => (p.1, ev t p.2)) K
  | .makeSlice ty l c => mkS tab h ty (ev t l) (ev t c) K
  | .store ty a x => stS tab h ty (ev t a) (ev t x) fun h' => K (.tup []) h'
  | .convert s d x => s2bS tab h s d (ev t x) K
  | .call ⟨.builtin .append, ⟨[d, x]⟩, ⟨[dT, xT]⟩⟩ => appS tab h dT xT (ev t d) (ev t x) K
  | .makeMap _ none => True ∧ K (.mp h.length) (h ++ [.map 0 (fun _ => .tup []) (fun _ => .tup []) (fun _ => 0) 0])
  | .mapUpdate ty m k v => mupS tab h ty (ev t m) (ev t k) (ev t v) K
  | .call ⟨.builtin .delete, ⟨[m, k]⟩, ⟨[ty, _]⟩⟩ => delS tab h ty (ev t m) (ev t k) K
  | _ => False

/-- As Goes, of a whole operation. -/
def GoesOp (P : Program) (C : Ctx) (h : List Chunk) (ρ : Env) (w : World) (r : Result Next) (K : SV → List Chunk → Prop) : Prop :=
  ∃ w' ρ' sv h', (r = .ok (.value (den ρ' sv)) w' ∨ (r = .ok .skip w' ∧ sv = .tup [])) ∧ K sv h' ∧ Models C ρ' h' w' ∧ Agree h.length ρ ρ' ∧ ok h'.length sv ∧ h.length ≤ h'.length

theorem Goes.op {C : Ctx} {h : List Chunk} {ρ : Env} {w : World} {r : Sem Value} {K : SV → List Chunk → Prop} (hg : Goes P C h ρ w (r.run P w) K) : GoesOp P C h ρ w ((do pure (.value (← r)) : Sem Next).run P w) K := by
  obtain ⟨w', ρ', sv, h', hr, rest⟩ := hg
  exact ⟨w', ρ', sv, h', .inl (by simp [hr]), rest⟩

theorem ef_run {tab : Tab} (hT : tab.Ok P) {C : Ctx} {st : St} {o : Oper} {K : SV → List Chunk → Prop} (he : ef tab st.t st.h o.op K) {ρ : Env} {w : World} (hM : Models C ρ st.h w) (hok : okS st.h.length st.t) :
    GoesOp P C st.h ρ w ((execOp (act ρ st).eval o).run P w) K := by
  have hev := fun x => act_eval ρ st hok x
  have hoe := fun x => ok_ev st.t x hok
  obtain ⟨dst, op, type, pos, after, guard⟩ := o
  simp only at he
  unfold ef at he
  unfold execOp
  simp only
  split at he <;> simp only [hev]
  · rename_i el
    split at he
    · rename_i e hel
      have hF := hT _ _ hel
      refine Goes.op (Goes.block hM (ok_mono (Nat.zero_le _) _ hF.zok) hF.zstor el ?_ he.2)
      simp only [Instr.alloc, Sem.run_bind, zero_run hF ρ w, Result.andThen_ok, newVar, newRow, newObj, Sem.run, Sem.run_pure]
      rfl
    · exact he.elim
  · rename_i el x
    refine Goes.op (Goes.block hM (hoe x) he.1 el ?_ he.2)
    simp only [Instr.box, Sem.run_bind, Result.andThen_ok, newVar, newRow, newObj, Sem.run, Sem.run_pure]
    rfl
  · rename_i ty len ps
    have hb := bslS_run hT he hM (by
      intro q hq
      simp only [List.mem_map] at hq
      obtain ⟨y, _, rfl⟩ := hq
      exact hoe _)
    have e2 : ps.map (fun x => (x.1, den ρ (ev st.t x.2))) = (List.map (fun p => (p.1, den ρ p.2)) (List.map (fun p => (p.1, ev st.t p.2)) ps.toList)).toArray := by
      apply Array.ext'
      simp
    rw [← e2] at hb
    exact Goes.op hb
  · exact Goes.op (mkS_run hT he hM)
  · obtain ⟨w', h', h1, h2, h3, h4⟩ := stS_run hT he hM (hoe _)
    refine ⟨w', ρ, .tup [], h', .inr ⟨?_, rfl⟩, h2, h3, fun _ _ => rfl, by simp [ok, okL], by omega⟩
    simp [h1]
  · exact Goes.op (s2bS_run hT he hM)
  · rename_i d x dT xT
    have hb := appS_run (P := P) (ty := type) hT he hM
    have e1 : (#[d, x] : Array Operand).map (act ρ st).eval = #[den ρ (ev st.t d), den ρ (ev st.t x)] := by simp [hev]
    rw [← e1] at hb
    have := Goes.op hb
    simp only [Sem.run_bind, resolve, Sem.run_pure, Result.andThen_ok, invoke, builtin] at this ⊢
    exact this
  · refine Goes.op ?_
    have hag := agree_upd ρ st.h.length ⟨w.heap.size, 0, 0, false⟩
    refine ⟨w.alloc (.map #[] 0), _, _, _, ?_, he.2, hM.alloc (w' := w.alloc (.map #[] 0)) (keep_alloc w _) (c := .map 0 (fun _ => .tup []) (fun _ => .tup []) (fun _ => 0) 0) (p := ⟨w.heap.size, 0, 0, false⟩) (fun _ => ⟨rfl, by simp⟩) (fun i hi => absurd hi (Nat.not_lt_zero _)) ?_, hag, ?_, by simp⟩
    · simp only [Instr.makeMap, Sem.run_bind, Option.map_none, newObj, Sem.run, Sem.run_pure, Result.andThen_ok, den, upd_self]
      rfl
    · simp only [Holds, upd_self, mapObj_list]
      refine ⟨trivial, ?_⟩
      show (w.heap.push (Obj.map #[] 0))[w.heap.size]? = _
      rw [Array.getElem?_push_size]
      rfl
    · simp [ok]
  · obtain ⟨w', h', h1, h2, h3, h4⟩ := mupS_run hT he hM (hoe _) (hoe _) (fun j => look_holds hM j) (look_good hM)
    refine ⟨w', ρ, .tup [], h', .inr ⟨?_, rfl⟩, h2, h3, fun _ _ => rfl, by simp [ok, okL], by omega⟩
    simp [h1]
  · rename_i m k ty ty2
    have hb := delS_run (P := P) (ty2 := ty2) (type := type) hT he hM (hoe _) (fun j => look_holds hM j) (look_good hM)
    have e1 : (#[m, k] : Array Operand).map (act ρ st).eval = #[den ρ (ev st.t m), den ρ (ev st.t k)] := by simp [hev]
    rw [← e1] at hb
    have := Goes.op hb
    simp only [Sem.run_bind, resolve, Sem.run_pure, Result.andThen_ok, invoke, builtin] at this ⊢
    exact this
  · exact he.elim
end Go.Sx
