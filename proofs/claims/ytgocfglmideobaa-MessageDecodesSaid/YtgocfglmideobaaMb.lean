/- Texts put together: All operations that make or write memory, in one. No condition. -/
import Derived.Laws.MakeOwn
import Derived.Test.YtgocfglmideobaaMa
import Derived.Maps.RangeRun
import Derived.OrdersHeld
import Derived.TacticsIn
import Derived.Sort.LoopGhostIn
import Derived.LoopNIn
set_option linter.all false
namespace Go.Sx
open Go.RowKit
variable {P:Program}
theorem Goes.block {C:Ctx} {h:List Chunk} {ρ:Env} {w:World} {K:SV→List Chunk→Prop} (hM:Models C ρ h w) {x:SV} (hx:ok h.length x) (hst:stor x) (T:TypeId) {r:Result Value}
  (hr:r = .ok (.pointer (some ⟨w.heap.size,0,none⟩)) (w.alloc (.cells (den ρ x).cells T))) (hK:K (.ptr h.length 0) (h++[.cells true (parts x)])):Goes P C h ρ w r K:=by
 have hag:=agree_upd ρ h.length ⟨w.heap.size,0,0,false,none⟩
 have hd:denC (upd ρ h.length ⟨w.heap.size,0,0,false,none⟩) (parts x) = (den ρ x).cells.toList:=by rw [denC_agree hag _ (okL_parts hx),denC_parts]
 have e1:(den ρ x).cells = ((den ρ x).cells.toList++[]).toArray:=by simp
 have hM':=hM.alloc (w':=w.alloc (.cells (den ρ x).cells T)) (keep_alloc w _) (c:=.cells true (parts x)) (p:=⟨w.heap.size,0,0,false,none⟩) (fun _=>⟨rfl,by simp⟩)
  ⟨okL_mono (by omega) _ (okL_parts hx),storL_parts hst⟩ (by
   simp only [Holds,upd_self]
   refine ⟨trivial,?_,fun _=>?_⟩
   ·rw [hd]; have:=rangeAt_alloc w (den ρ x).cells.toList [] T; rw [← e1] at this; exact this
   ·rw [hd]; exact there_alloc w _ T _ (by simp))
 refine ⟨_,_,_,_,?_,hK,hM',hag,?_,by simp⟩
 ·rw [hr]; simp [den,upd_self]
 ·simp [ok]
theorem fill_all (size:Nat):∀ (l:List SV) (k:Nat) (ρ:Env) (n:Nat) (pre rest:List Value),(∀ x ∈ l,sz x = size∧ok n x)→pre.length = k * size→rest.length = l.length * size →
  Instr.fill (fun i=>some (i * size,size)) (pre++rest).toArray ((l.zipIdx k).map fun p=>(p.2,den ρ p.1)) = some (pre++denC ρ l).toArray
 | [],k,ρ,n,pre,rest,_,_,hr=>by
  obtain rfl:rest = []:=List.length_eq_zero_iff.1 (by simpa using hr)
  rfl
 | x :: l,k,ρ,n,pre,rest,h,hp,hr=>by
  have hx:=h x (by simp)
  have lx:=cells_len ρ n x hx.2
  have hle:(den ρ x).cells.toList.length≤rest.length:=by
   rw [lx,hx.1,hr,List.length_cons,Nat.succ_mul]; omega
  obtain ⟨r1,r2,rfl,hr1⟩:∃ r1 r2,rest = r1++r2∧r1.length = (den ρ x).cells.toList.length:=⟨rest.take (den ρ x).cells.toList.length,rest.drop (den ρ x).cells.toList.length,(List.take_append_drop _ _).symm,by rw [List.length_take]; omega⟩
  simp only [List.zipIdx_cons,List.map_cons,Instr.fill]
  have e0:(den ρ x).cells.size = size:=by rw [← hx.1,← lx]; simp
  rw [if_neg]
  ·have hf:=fill_fold (k * size) (den ρ x).cells.toList 0 pre r1 r2 (by omega) hr1
   rw [← Array.foldl_toList,Array.toList_zipIdx,hf]
   have ih:=fill_all size l (k+1) ρ n (pre++(den ρ x).cells.toList) r2 (fun y hy=>h y (by simp [hy])) (by rw [List.length_append,lx,hx.1,hp,Nat.succ_mul]) (by
    rw [List.length_append,List.length_cons,Nat.succ_mul] at hr; rw [lx,hx.1] at hr1; omega)
   rw [← List.append_assoc,ih,denC,List.append_assoc]
  ·have e1:(pre++(r1++r2)).toArray.size = k * size+(r1.length+r2.length):=by simp [hp]
   rw [e1,e0,Bool.or_eq_true,decide_eq_true_eq,decide_eq_true_eq]
   rw [lx,hx.1] at hr1
   omega
theorem denC_look (ρ:Env):∀ (l:List SV),denC ρ l = cellsOf ρ l.length (look l)
 | []=>rfl
 | x :: l=>by
  unfold cellsOf
  rw [List.length_cons,List.range_succ_eq_map,List.flatMap_cons,List.flatMap_map,denC,denC_look ρ l]
  rfl
theorem look_all {Q:SV→Prop}:∀ (l:List SV) (i:Nat),(∀ x ∈ l,Q x)→i < l.length→Q (look l i)
 | [],i,_,h=>by simp at h
 | x :: l,0,h,_=>h x (by simp)
 | x :: l,i+1,h,hi=>look_all l i (fun y hy=>h y (by simp [hy])) (by simpa using hi)
def bslS (tab:Tab) (h:List Chunk) (t:TypeId) (len:Nat) (ps:List (Nat × SV)) (K:SV→List Chunk→Prop):Prop :=
 match tab t with
 | some ⟨.slice el,_,_,_,_⟩=>match tab el with
  | some e=>(ps = (ps.map (·.2)).zipIdx.map (fun p=>(p.2,p.1))∧ps.length = len∧len * e.size≤16777216∧(∀ x ∈ ps.map (·.2),sz x = e.size∧stor x)) ∧
    K (.osl h.length 0 0 e.size len) (h++[.row true len e.size (look (ps.map (·.2)))])
  | none=>False
 | _=>False
theorem bslS_run {tab:Tab} (hT:tab.Ok P) {C:Ctx} {h:List Chunk} {t:TypeId} {len:Nat} {ps:List (Nat × SV)} {K:SV→List Chunk→Prop} (hb:bslS tab h t len ps K) {ρ:Env} {w:World} (hM:Models C ρ h w)
  (hx:∀ p ∈ ps,ok h.length p.2):Goes P C h ρ w ((Instr.buildSlice t len (ps.map fun p=>(p.1,den ρ p.2)).toArray).run P w) K:=by
 unfold bslS at hb
 split at hb
 ·rename_i el _ _ _ _ ht
  split at hb
  ·rename_i e hel
   obtain ⟨⟨h1,h2,h3,h4⟩,hK⟩:=hb
   obtain ⟨xs,hxs⟩:∃ xs,xs = ps.map (·.2):=⟨_,rfl⟩
   rw [← hxs] at h1 h4 hK
   obtain ⟨d,hu,hf⟩:=(hT _ _ ht).und w
   simp only [TD.fits] at hf
   subst hf
   have he:=hT _ _ hel
   have hS:=he.siz w
   have hZ:=zero_run he ρ w
   have hall:∀ x ∈ xs,sz x = e.size∧ok h.length x:=by
    intro x hxm
    refine ⟨(h4 x hxm).1,?_⟩
    rw [hxs] at hxm
    obtain ⟨p,hp,rfl⟩:=List.mem_map.1 hxm
    exact hx p hp
   have hll:xs.length = len:=by rw [hxs]; simpa using h2
   have key:∀ (zs:Array Value),zs.size = len * e.size→Instr.fill (fun i=>some (i * e.size,e.size)) zs (ps.map fun p=>(p.1,den ρ p.2)) = some (denC ρ xs).toArray:=by
    intro zs hzs
    have:=fill_all e.size xs 0 ρ h.length [] zs.toList hall (by simp) (by rw [hll]; simpa using hzs)
    rw [List.nil_append,List.nil_append,Array.toArray_toList] at this
    rw [← this]
    congr 1
    conv=>lhs; rw [h1]
    simp [Function.comp_def]
   have hag:=agree_upd ρ h.length ⟨w.heap.size,0,len,false,none⟩
   have hlk:∀ i,i < len→sz (look xs i) = e.size∧ok h.length (look xs i):=fun i hi=>look_all _ i hall (by omega)
   have hls:∀ i,i < len→stor (look xs i):=fun i hi=>(look_all (Q:=fun x=>sz x = e.size∧stor x) _ i h4 (by omega)).2
   have hlen:(denC ρ xs).length = len * e.size:=by rw [denC_look,hll]; exact cellsOf_len hlk
   have hM':=hM.alloc (w':=w.alloc (.cells (denC ρ xs).toArray el)) (keep_alloc w _) (c:=.row true len e.size (look xs)) (p:=⟨w.heap.size,0,len,false,none⟩) (fun _=>⟨rfl,by simp⟩)
    ⟨fun i hi=>⟨(hlk i hi).1,ok_mono (by omega) _ (hlk i hi).2⟩,hls⟩ (by
     simp only [Holds,upd_self,Bool.false_eq_true,if_false]
     refine ⟨?_,Nat.le_refl _,fun _=>?_⟩
     ·rw [cells_fam]
      show World.rangeAt _ _ _ (cellsOf _ _ _)
      rw [cellsOf_agree hag hlk]
      have:=rangeAt_alloc w (denC ρ xs) [] el
      rw [List.append_nil] at this
      rw [← hll,← denC_look]
      exact this
     ·exact there_alloc w _ el _ (by simp [hlen]))
   refine ⟨_,_,_,_,?_,hK,hM',hag,?_,by simp⟩
   ·unfold Instr.buildSlice
    simp only [Sem.run_bind,hu,hS,Result.andThen_ok]
    rw [if_neg (by omega)]
    simp only [Sem.run_pure,Result.andThen_ok,Sem.run_ite,Sem.run_bind,hZ]
    by_cases hz:len * e.size = 0
    ·rw [if_pos hz]
     try simp only [Result.andThen_ok]
     rw [key]
     ·simp only [Sem.run_bind,newRow,newObj,Sem.run,Result.andThen_ok,den,upd_self]
      simp
     ·simp
    ·rw [if_neg hz]
     try simp only [Result.andThen_ok]
     rw [key]
     ·simp only [Sem.run_bind,newRow,newObj,Sem.run,Result.andThen_ok,den,upd_self]
      simp
     ·simp
   ·simp [ok]
  ·exact hb.elim
 ·exact hb.elim
def mkS (tab:Tab) (h:List Chunk) (t:TypeId) (l c:SV) (K:SV→List Chunk→Prop):Prop :=
 match tab t with
 | some ⟨.slice el,_,_,_,_⟩=>match tab el with
  | some e=>match l,c with
   | .int _ n,.int _ m=>(n = m∧0≤n∧(e.bytes:Int) * n≤281474976710656∧n≤9223372036854775807)∧K (.osl h.length 0 0 e.size n.toNat) (h++[.row true n.toNat e.size fun _=>e.zero])
   | _,_=>False
  | none=>False
 | _=>False
theorem made_list (zc:Array Value):∀ n,(madeCells zc (n * zc.size)).toList = (List.range n).flatMap fun _=>zc.toList
 | 0=>by simp [madeCells]
 | n+1=>by
  have ih:=made_list zc n
  have hl:∀ m,(madeCells zc m).toList = (List.range m).map (zc[· % zc.size]!):=fun m=>by
   simp [madeCells,Array.toList_range]
  rw [hl] at ih ⊢
  rw [Nat.succ_mul,List.range_add,List.map_append,ih,List.range_succ,List.flatMap_append]
  congr 1
  rw [List.map_map,List.flatMap_cons,List.flatMap_nil,List.append_nil]
  apply List.ext_getElem?
  intro i
  rcases Nat.lt_or_ge i zc.size with hi | hi
  ·rw [List.getElem?_map,List.getElem?_range hi,Option.map_some]
   simp only [Function.comp_apply]
   rw [show (n * zc.size+i) % zc.size = i by rw [Nat.mul_comm,Nat.mul_add_mod]; exact Nat.mod_eq_of_lt hi]
   rw [getElem!_pos zc i hi,Array.getElem?_toList,Array.getElem?_eq_getElem hi]
  ·rw [List.getElem?_eq_none (by simpa using hi),List.getElem?_eq_none (by simpa using hi)]
theorem mkS_run {tab:Tab} (hT:tab.Ok P) {C:Ctx} {h:List Chunk} {t:TypeId} {l c:SV} {K:SV→List Chunk→Prop} (hb:mkS tab h t l c K) {ρ:Env} {w:World} (hM:Models C ρ h w) :
  Goes P C h ρ w ((Instr.makeSlice t (den ρ l) (den ρ c)).run P w) K:=by
 unfold mkS at hb
 split at hb
 ·rename_i el _ _ _ _ ht
  split at hb
  ·rename_i e hel
   split at hb
   ·rename_i kl n kc m
    obtain ⟨⟨rfl,h0,hbt,h63⟩,hK⟩:=hb
    obtain ⟨d,hu,hf⟩:=(hT _ _ ht).desc
    simp only [TD.fits] at hf
    subst hf
    have he:=hT _ _ hel
    obtain ⟨i,hi,his,hib,hiz⟩:=he.info
    have hr:=run_make (P:=P) w t el i (den ρ e.zero) hu hi (hiz ρ) kl kc n n h0 (Int.le_refl _) (by rw [hib]; exact hbt) h63
    have hag:=agree_upd ρ h.length ⟨w.heap.size,0,n.toNat,false,none⟩
    have hlk:∀ i,i < n.toNat→sz ((fun _=>e.zero) i) = e.size∧ok h.length ((fun _=>e.zero) i):=fun i _=>⟨he.zsz,ok_mono (Nat.zero_le _) _ he.zok⟩
    have hzs:(den ρ e.zero).cells.size = e.size:=by
     have:=cells_len ρ 0 _ he.zok
     rw [he.zsz] at this
     simpa using this
    have hcs:(madeCells (den ρ e.zero).cells (n.toNat * i.size)).toList = cellsOf ρ n.toNat fun _=>e.zero:=by
     rw [his,← hzs,made_list]
     rfl
    have hsize:(madeCells (den ρ e.zero).cells (n.toNat * i.size)).size = n.toNat * e.size:=by rw [size_madeCells,his]
    have hM':=hM.alloc (w':=w.alloc (.cells (madeCells (den ρ e.zero).cells (n.toNat * i.size)) el)) (keep_alloc w _) (c:=.row true n.toNat e.size fun _=>e.zero) (p:=⟨w.heap.size,0,n.toNat,false,none⟩) (fun _=>⟨rfl,by simp⟩)
     ⟨fun i hi=>⟨(hlk i hi).1,ok_mono (by omega) _ (hlk i hi).2⟩,fun i hi=>he.zstor⟩ (by
      simp only [Holds,upd_self,Bool.false_eq_true,if_false]
      refine ⟨?_,Nat.le_refl _,fun _=>?_⟩
      ·rw [cells_fam]
       show World.rangeAt _ _ _ (cellsOf _ _ _)
       rw [cellsOf_agree hag hlk,← hcs]
       have:=rangeAt_alloc w (madeCells (den ρ e.zero).cells (n.toNat * i.size)).toList [] el
       rw [List.append_nil,Array.toArray_toList] at this
       exact this
      ·exact there_alloc w _ el _ (by rw [hsize]; omega))
    refine ⟨_,_,_,_,?_,hK,hM',hag,?_,by simp⟩
    ·simp only [den] at hr ⊢
     rw [hr]
     simp [upd_self]
    ·simp [ok]
   ·exact hb.elim
  ·exact hb.elim
 ·exact hb.elim
def s2bS (tab:Tab) (h:List Chunk) (s d:TypeId) (x:SV) (K:SV→List Chunk→Prop):Prop :=
 match tab s,tab d with
 | some _,some ⟨.slice el,_,_,_,_⟩=>match tab el with
  | some ⟨.int .u8,_,_,_,_⟩=>match x with
   | .str bs=>(bs.size:Int)≤9223372036854775807∧K (.osl h.length 0 0 1 bs.size) (h++[.row true bs.size 1 fun i=>.int .u8 (byteAt bs i)])
   | .osl nm d0 e0 sz' len=>match lookH h nm with
    | .row true m 1 f=>(s = d∧0 < m∧nm < h.length)∧K (.osl nm d0 e0 sz' len) (putH h nm (.row false m 1 f))
    | _=>False
   | _=>False
  | _=>False
 | _,_=>False
theorem freeze_run {w:World} {b:Nat} {cs:Array Value} {el:TypeId} {fr:Nat × Nat} (hb:w.heap[b]? = some (.cells cs el fr)) (o:Nat) :
  ∃ w',(markStringish ⟨b,o,none⟩).run P w = .ok () w'∧Keep (fun k=>k = b) w w'∧∀ j,w'.cell? ⟨b,j,none⟩ = w.cell? ⟨b,j,none⟩:=by
 refine ⟨w.freeze ⟨b,cs.size,none⟩ 1,?_,⟨rfl,rfl,rfl,by simp [World.freeze],fun k _ hk=>?_⟩,fun j=>?_⟩
 ·unfold markStringish
  have hsh:w.shape? b = some (el,cs.size):=by unfold World.shape?; rw [hb]
  simp only [Sem.run_bind,shape,Sem.run,hsh,Result.andThen_ok]
  simp only [freeze,Sem.run,Result.andThen_ok]
 ·simp only [World.freeze,Nat.one_ne_zero,if_false,Array.getElem?_modify]
  rw [if_neg (fun h=>hk h.symm)]
 ·simp only [World.cell?,World.freeze,Nat.one_ne_zero,if_false,Array.getElem?_modify,if_true,hb,Option.map_some]
theorem s2bS_run {tab:Tab} (hT:tab.Ok P) {C:Ctx} {h:List Chunk} {s d:TypeId} {x:SV} {K:SV→List Chunk→Prop} (hb:s2bS tab h s d x K) {ρ:Env} {w:World} (hM:Models C ρ h w) :
  Goes P C h ρ w ((convert s d (den ρ x)).run P w) K:=by
 unfold s2bS at hb
 split at hb
 ·rename_i es el _ _ _ _ hes hd
  split at hb
  ·rename_i _ _ _ _ hel
   split at hb
   ·rename_i bs
    obtain ⟨h63,hK⟩:=hb
    obtain ⟨ds,hus,hfs⟩:=(hT _ _ hes).und w
    obtain ⟨dd,hud,hfd⟩:=(hT _ _ hd).und w
    obtain ⟨de,hue,hfe⟩:=(hT _ _ hel).und w
    simp only [TD.fits] at hfd hfe
    subst hfd hfe
    have hC:=choose_cap (P:=P) w bs.size 0 el
    have hge:=grownCap_ge w bs.size 0 el
    have hag:=agree_upd ρ h.length ⟨w.heap.size,0,grownCap w bs.size 0 el,false,none⟩
    have hlk:∀ i,i < bs.size→sz ((fun i=>SV.int .u8 (byteAt bs i)) i) = 1∧ok h.length ((fun i=>SV.int .u8 (byteAt bs i)) i):=fun i _=>⟨rfl,trivial⟩
    have hcs:(bs.data.map fun b=>Value.int .u8 b.toNat).toList = cellsOf ρ bs.size fun i=>.int .u8 (byteAt bs i):=by
     have:=str_cells ρ bs
     simpa using this
    -- the world behind it
    let cells:Array Value:=(bs.data.map fun b=>Value.int .u8 b.toNat)++Array.replicate (grownCap w bs.size 0 el - bs.size) (.int .u8 0)
    have hsz:cells.size = grownCap w bs.size 0 el:=by
     have:bs.data.size = bs.size:=rfl
     simp [cells]; omega
    let w1:World:=(w.drew.alloc (.cells cells el)).freeze ⟨w.heap.size,cells.size,none⟩ 1
    have hb1:∀ k,k ≠ w.heap.size→w1.heap[k]? = (w.drew.alloc (.cells cells el)).heap[k]?:=by
     intro k hk
     simp only [w1,World.freeze,Nat.one_ne_zero,if_false,Array.getElem?_modify]
     rw [if_neg (by omega)]
    have hb2:w1.heap[w.heap.size]? = some (.cells cells el (cells.size,cells.size+1)):=by
     have hx:(w.drew.alloc (.cells cells el)).heap[w.heap.size]? = some (.cells cells el):=heap_alloc_new w.drew _
     simp only [w1,World.freeze,Nat.one_ne_zero,if_false,Array.getElem?_modify,if_true,hx,Option.map_some]
     rfl
    have hkeep:Keep (fun _=>False) w w1:=by
     refine ⟨rfl,rfl,rfl,?_,fun b hb _=>?_⟩
     ·simp [w1,World.freeze]
     ·rw [hb1 b (by omega)]; exact Below.heap_alloc w.drew _ b hb
    have hcell:∀ j,w1.cell? ⟨w.heap.size,j,none⟩ = cells[j]?:=by
     intro j
     simp [World.cell?,hb2]
    have hM':=hM.alloc (w':=w1) hkeep (c:=.row true bs.size 1 fun i=>.int .u8 (byteAt bs i)) (p:=⟨w.heap.size,0,grownCap w bs.size 0 el,false,none⟩)
     (fun _=>⟨rfl,by simp [w1,World.freeze]⟩) ⟨fun i hi=>⟨rfl,trivial⟩,fun i hi=>trivial⟩ (by
      simp only [Holds,upd_self,Bool.false_eq_true,if_false]
      refine ⟨?_,hge,fun _=>?_⟩
      ·rw [cells_fam]
       show World.rangeAt _ _ _ (cellsOf _ _ _)
       rw [cellsOf_agree hag hlk,← hcs]
       intro j v hj
       rw [Nat.zero_add,hcell]
       have hlt:=get_lt hj
       simp only [cells]
       rw [Array.getElem?_append_left (by simpa using hlt)]
       simpa using hj
      ·intro j hj
       rw [Nat.zero_add]
       refine ⟨?_,?_⟩
       ·rw [hcell]
        simp only [Nat.mul_one] at hj
        rw [← hsz] at hj
        simp [hj]
       ·simp only [Nat.mul_one] at hj
        rw [← hsz] at hj
        simp [World.frozen?,hb2]
        omega)
    refine ⟨w1,_,_,_,?_,hK,hM',hag,by simp [ok],by simp⟩
    simp only [den,convert,Sem.run_bind,hus,hud,Result.andThen_ok]
    have hmatch:(Conv.stringToBytes el bs).run P w = .ok (.slice (some ⟨w.heap.size,0,none⟩) bs.size (grownCap w bs.size 0 el)) w1:=by
     unfold Conv.stringToBytes
     simp only [Sem.run_bind,hC,Result.andThen_ok,newRow,newObj,Sem.run,Sem.run_pure]
     have hx:(w.drew.alloc (.cells cells el)).heap[w.heap.size]? = some (.cells cells el):=heap_alloc_new w.drew _
     have hsh:(w.drew.alloc (.cells cells el)).shape? w.heap.size = some (el,cells.size):=by
      unfold World.shape?
      rw [hx]
     unfold markStringish
     simp only [Sem.run_bind,shape,Sem.run,World.alloc_eq,Result.andThen_ok]
     have hsh':(w.drew.alloc (.cells ((bs.data.map fun b=>Value.int .u8 b.toNat)++Array.replicate (grownCap w bs.size 0 el - bs.size) (.int .u8 0)) el)).shape? w.drew.heap.size = some (el,cells.size):=hsh
     rw [hsh']
     simp only [freeze,Sem.run,Result.andThen_ok]
     rfl
    cases ds <;> simp only [Sem.run_bind,hue,Result.andThen_ok,hmatch] <;> simp [upd_self]
   ·rename_i nm d0 e0 sz' len
    split at hb
    ·rename_i m f hlk
     obtain ⟨⟨rfl,hm,hnm⟩,hK⟩:=hb
     obtain ⟨dd,hud,hfd⟩:=(hT _ _ hd).und w
     obtain ⟨de,hue,hfe⟩:=(hT _ _ hel).und w
     simp only [TD.fits] at hfd hfe
     subst hfd hfe
     have hc:=lookH_some hlk (by simp)
     have hH:=hM.holds _ _ hc
     obtain ⟨hn,hr⟩:=hH.some hm
     have hcell:∃ v,w.cell? ⟨(ρ nm).b,(ρ nm).o,none⟩ = some v:=by
      have hlen:(den ρ (.fam m 1 f)).cells.toList.length = m * 1:=cells_len ρ _ _ (hM.okc _ _ hc).1
      obtain ⟨v,hv⟩:∃ v,(den ρ (.fam m 1 f)).cells.toList[0]? = some v:=⟨_,List.getElem?_eq_getElem (by omega)⟩
      exact ⟨v,hr 0 v hv⟩
     obtain ⟨v,hv⟩:=hcell
     obtain ⟨cs,el',fr,hob⟩:∃ cs el' fr,w.heap[(ρ nm).b]? = some (.cells cs el' fr):=by
      unfold World.cell? at hv
      split at hv
      ·exact ⟨_,_,_,by assumption⟩
      ·cases hv
     obtain ⟨w',hrun,hkeep,hcells⟩:=freeze_run (P:=P) hob ((ρ nm).o+(if (ρ nm).c = e0 then d0 * sz' else e0 * sz'))
     have hM':=hM.write hc ⟨rfl,hn⟩ hkeep (c':=.row false m 1 f) (show Chunk.good h.length (.row false m 1 f) from hM.okc nm (.row true m 1 f) hc) (by
      simp only [Holds,hn,Bool.false_eq_true,if_false]
      refine ⟨fun j v hj=>?_,hH.nle,fun h=>by cases h⟩
      rw [hcells]
      exact hr j v hj)
     refine ⟨w',ρ,_,_,?_,hK,hM',fun _ _=>rfl,by simpa [ok,putH_length] using hnm,by simp [putH_length]⟩
     simp only [den,hn,cond_false]
     simp [convert,hud,hue,hrun]
    ·exact hb.elim
   ·exact hb.elim
  ·exact hb.elim
 ·exact hb.elim
theorem keep_putMap {w:World} {r:Nat} {o:Obj}:Keep (fun b=>b = r) w { w with heap:=w.heap.setIfInBounds r o } :=
 ⟨rfl,rfl,rfl,by simp,fun b _ hb=>by
  show (w.heap.setIfInBounds r o)[b]? = _
  rw [Array.getElem?_setIfInBounds,if_neg (Ne.symm hb)]⟩
def mupS (tab:Tab) (h:List Chunk) (ty:TypeId) (x k v:SV) (K:SV→List Chunk→Prop):Prop :=
 match tab ty with
 | some e0=>match e0.d with
  | .map kt _=>match tab kt with
   | some _=>match x with
    | .mp nm=>match lookH h nm with
     | .map n key val born clock=>(keyS tab kt k∧keysS tab kt k n key)∧match mfind tab kt k n key with
      | some i=>(∀ ρ,Instr.sameBits 10000 (den ρ (key i)) (den ρ k) = true)∧K (.tup []) (putH h nm (.map n (fun j=>if j = i then k else key j) (fun j=>if j = i then v else val j) born clock))
      | none=>True∧K (.tup []) (putH h nm (.map (n+1) (fun j=>if j < n then key j else k) (fun j=>if j < n then val j else v) (fun j=>if j < n then born j else clock) (clock+1)))
     | _=>False
    | _=>False
   | none=>False
  | _=>False
 | none=>False
theorem ents_get (ρ:Env) (key val:Nat→SV) (born:Nat→Nat) (n i:Nat):(ents ρ key val born n 0)[i]? = if i < n then some { key:=den ρ (key i),val:=den ρ (val i),born:=born i } else none:=by
 unfold ents
 rw [List.getElem?_map]
 by_cases h:i < n
 ·rw [List.getElem?_range' (by omega)]
  simp [h]
 ·rw [List.getElem?_eq_none (by simp; omega)]
  simp [h]
theorem ents_push (ρ:Env) (key val:Nat→SV) (born:Nat→Nat) (n clock:Nat) (k v:SV) :
  (ents ρ key val born n 0).toArray.push { key:=den ρ k,val:=den ρ v,born:=clock } = (ents ρ (fun j=>if j < n then key j else k) (fun j=>if j < n then val j else v) (fun j=>if j < n then born j else clock) (n+1) 0).toArray:=by
 apply Array.ext'
 simp only [Array.toList_push]
 apply List.ext_getElem?
 intro i
 rw [ents_get,List.getElem?_append,ents_get]
 have hl:(ents ρ key val born n 0).length = n:=by simp [ents]
 rw [hl]
 by_cases h:i < n
 ·simp [h,show i < n+1 by omega]
 ·by_cases h2:i = n
  ·subst h2; simp
  ·rw [if_neg h,if_neg (show ¬ i < n+1 by omega),List.getElem?_eq_none (by simp; omega)]
theorem ents_modify (ρ:Env) (key val:Nat→SV) (born:Nat→Nat) (n i:Nat) (k v:SV) :
  ((ents ρ key val born n 0).toArray.modify i fun e=>{ e with key:=den ρ k,val:=den ρ v }) = (ents ρ (fun j=>if j = i then k else key j) (fun j=>if j = i then v else val j) born n 0).toArray:=by
 apply Array.ext'
 apply List.ext_getElem?
 intro j
 rw [Array.toList_modify,List.getElem?_modify,ents_get,ents_get]
 by_cases h:j < n
 ·by_cases h2:i = j
  ·subst h2; simp [h]
  ·simp [h,h2,Ne.symm h2]
 ·simp [h]
theorem mupS_run {tab:Tab} (hT:tab.Ok P) {C:Ctx} {h:List Chunk} {ty:TypeId} {x k v:SV} {K:SV→List Chunk→Prop} (hm:mupS tab h ty x k v K) {ρ:Env} {w:World} (hM:Models C ρ h w) (hk:ok h.length k) (hv:ok h.length v)
  (hH:∀ j,Holds ρ w j (lookH h j)) (hg:∀ j,(lookH h j).good h.length) :
  ∃ w' h',(Instr.mapUpdate ty (den ρ x) (den ρ k) (den ρ v)).run P w = .ok () w'∧K (.tup []) h'∧Models C ρ h' w'∧h'.length = h.length:=by
 unfold mupS at hm
 split at hm
 ·rename_i e0 he0
  split at hm
  ·rename_i kt et hd
   split at hm
   ·rename_i ek hek
    obtain ⟨dd,hu,hf⟩:=(hT ty e0 he0).desc
    rw [hd] at hf
    simp only [TD.fits] at hf
    subst hf
    split at hm
    ·rename_i nm
     split at hm
     ·rename_i n key val born clock hc
      obtain ⟨⟨hp1,hp2⟩,hm⟩:=hm
      have h1:=hH nm
      have h2:=hg nm
      rw [hc] at h1 h2
      simp only [Holds,mapObj_list] at h1
      have h0:=findKey_run (key:=key) (val:=val) (born:=born) (m:=n) hT hek ρ hk hp2 (fun i hi=>(h2 i hi).1) w
      have hgo:(getObj (ρ nm).b).run P w = .ok (.map (ents ρ key val born n 0).toArray clock) w:=by simp [getObj,Sem.run,h1.2]
      have hlt:(ρ nm).b < w.heap.size:=(Array.getElem?_eq_some_iff.1 h1.2).1
      have hset:∀ o,(setObj (ρ nm).b o).run P w = .ok () { w with heap:=w.heap.setIfInBounds (ρ nm).b o }:=fun o=>by simp [setObj,Sem.run,h1.2]
      have hwr:∀ (n':Nat) (key' val':Nat→SV) (born':Nat→Nat) (clock':Nat),(∀ i,i < n'→ok h.length (key' i)∧ok h.length (val' i)) →
        Models C ρ (putH h nm (.map n' key' val' born' clock')) { w with heap:=w.heap.setIfInBounds (ρ nm).b (mapObj ρ n' key' val' born' clock') }:=fun n' key' val' born' clock' hgc =>
       hM.write (lookH_some hc (by simp)) ⟨rfl,h1.1⟩ keep_putMap hgc ⟨h1.1,by simp [Array.getElem?_setIfInBounds,hlt]⟩
      unfold Instr.mapUpdate
      simp only [den,Sem.run_bind,run_underlying hu w,Result.andThen_ok,hgo]
      rw [keyS_run hT hp1 ρ hk _ w,Result.andThen_ok,h0]
      split at hm
      ·rename_i i hi
       have hin:i < n:=by
        have:=mfind_lt n 0 hi
        omega
       obtain ⟨hs,hK⟩:=hm
       have hkey:(((ents ρ key val born n 0).toArray[i]?).map (·.key)).getD (den ρ k) = den ρ (key i):=by
        rw [List.getElem?_toArray,ents_get,if_pos hin]
        rfl
       simp only [hi,Option.map_some,Result.andThen_ok,Sem.run_bind,hkey,Instr.keyThatStays,hs ρ,if_true,Sem.run_pure,hset]
       rw [ents_modify,← mapObj_list]
       refine ⟨_,_,rfl,hK,hwr _ _ _ _ _ fun j hj=>?_,putH_length _ _ _⟩
       constructor
       ·split
        ·exact hk
        ·exact (h2 j hj).1
       ·split
        ·exact hv
        ·exact (h2 j hj).2
      ·rename_i hi
       simp only [hi,Option.map_none,Result.andThen_ok,hset]
       rw [ents_push,← mapObj_list]
       refine ⟨_,_,rfl,hm.2,hwr _ _ _ _ _ fun j hj=>?_,putH_length _ _ _⟩
       constructor
       ·split
        ·rename_i hjn; exact (h2 j hjn).1
        ·exact hk
       ·split
        ·rename_i hjn; exact (h2 j hjn).2
        ·exact hv
     ·exact hm.elim
    ·exact hm.elim
   ·exact hm.elim
  ·exact hm.elim
 ·exact hm.elim
def delS (tab:Tab) (h:List Chunk) (ty:TypeId) (x k:SV) (K:SV→List Chunk→Prop):Prop :=
 match tab ty with
 | some e0=>match e0.d with
  | .map kt _=>match tab kt with
   | some _=>match x with
    | .mp nm=>match lookH h nm with
     | .map n key val born clock=>(keyS tab kt k∧keysS tab kt k n key)∧match mfind tab kt k n key with
      | some i=>True∧K (.tup []) (putH h nm (.map (n - 1) (fun j=>key (if j < i then j else j+1)) (fun j=>val (if j < i then j else j+1)) (fun j=>born (if j < i then j else j+1)) clock))
      | none=>True∧K (.tup []) (putH h nm (.map n key val born clock))
     | _=>False
    | _=>False
   | none=>False
  | _=>False
 | none=>False
theorem ents_erase (ρ:Env) (key val:Nat→SV) (born:Nat→Nat) (n i:Nat) (hi:i < n) :
  ((ents ρ key val born n 0).toArray.eraseIdxIfInBounds i) = (ents ρ (fun j=>key (if j < i then j else j+1)) (fun j=>val (if j < i then j else j+1)) (fun j=>born (if j < i then j else j+1)) (n - 1) 0).toArray:=by
 have hl:(ents ρ key val born n 0).length = n:=by simp [ents]
 have h0:i < (ents ρ key val born n 0).toArray.size:=by simpa [hl] using hi
 rw [Array.eraseIdxIfInBounds,dif_pos h0]
 apply Array.ext'
 rw [Array.toList_eraseIdx]
 apply List.ext_getElem?
 intro j
 rw [List.getElem?_eraseIdx,ents_get,ents_get,ents_get]
 by_cases h:j < i
 ·simp [h,show j < n by omega,show j < n - 1 by omega]
 ·by_cases h2:j < n - 1
  ·simp [h,h2,show j+1 < n by omega]
  ·simp [h,h2,show ¬ j+1 < n by omega]
theorem delS_run {tab:Tab} (hT:tab.Ok P) {C:Ctx} {h:List Chunk} {ty ty2 type:TypeId} {x k:SV} {K:SV→List Chunk→Prop} (hm:delS tab h ty x k K) {ρ:Env} {w:World} (hM:Models C ρ h w) (hk:ok h.length k)
  (hH:∀ j,Holds ρ w j (lookH h j)) (hg:∀ j,(lookH h j).good h.length) :
  Goes P C h ρ w ((Builtin.delete_ #[ty,ty2] type #[den ρ x,den ρ k]).run P w) K:=by
 unfold delS at hm
 split at hm
 ·rename_i e0 he0
  split at hm
  ·rename_i kt et hd
   split at hm
   ·rename_i ek hek
    obtain ⟨dd,hu,hf⟩:=(hT ty e0 he0).desc
    rw [hd] at hf
    simp only [TD.fits] at hf
    subst hf
    split at hm
    ·rename_i nm
     split at hm
     ·rename_i n key val born clock hc
      obtain ⟨⟨hp1,hp2⟩,hm⟩:=hm
      have h1:=hH nm
      have h2:=hg nm
      rw [hc] at h1 h2
      simp only [Holds,mapObj_list] at h1
      have h0:=findKey_run (key:=key) (val:=val) (born:=born) (m:=n) hT hek ρ hk hp2 (fun i hi=>(h2 i hi).1) w
      have hgo:(getObj (ρ nm).b).run P w = .ok (.map (ents ρ key val born n 0).toArray clock) w:=by simp [getObj,Sem.run,h1.2]
      have hlt:(ρ nm).b < w.heap.size:=(Array.getElem?_eq_some_iff.1 h1.2).1
      have hset:∀ o,(setObj (ρ nm).b o).run P w = .ok () { w with heap:=w.heap.setIfInBounds (ρ nm).b o }:=fun o=>by simp [setObj,Sem.run,h1.2]
      have hwr:∀ (n':Nat) (key' val':Nat→SV) (born':Nat→Nat) (clock':Nat),(∀ i,i < n'→ok h.length (key' i)∧ok h.length (val' i)) →
        Models C ρ (putH h nm (.map n' key' val' born' clock')) { w with heap:=w.heap.setIfInBounds (ρ nm).b (mapObj ρ n' key' val' born' clock') }:=fun n' key' val' born' clock' hgc =>
       hM.write (lookH_some hc (by simp)) ⟨rfl,h1.1⟩ keep_putMap hgc ⟨h1.1,by simp [Array.getElem?_setIfInBounds,hlt]⟩
      unfold Builtin.delete_
      have hz:∀ (a b:TypeId),(#[a,b]:Array TypeId)[0]? = some a:=fun _ _=>rfl
      have hz0:∀ (a b:Value),(#[a,b]:Array Value)[0]? = some a:=fun _ _=>rfl
      have hz1:∀ (a b:Value),(#[a,b]:Array Value)[1]? = some b:=fun _ _=>rfl
      simp only [hz,hz0,hz1,den,Sem.run_bind,run_underlying hu w,Result.andThen_ok,hgo]
      rw [keyS_run hT hp1 ρ hk _ w,Result.andThen_ok,h0]
      split at hm
      ·rename_i i hi
       have hin:i < n:=by
        have:=mfind_lt n 0 hi
        omega
       simp only [hi,Option.map_some,Result.andThen_ok,Sem.run_bind,hset,Sem.run_pure]
       rw [ents_erase _ _ _ _ _ _ hin,← mapObj_list]
       refine ⟨_,ρ,.tup [],_,rfl,hm.2,hwr _ _ _ _ _ fun j hj=>?_,fun _ _=>rfl,by simp [ok,okL],by rw [putH_length]; exact Nat.le_refl _⟩
       refine h2 _ ?_
       split <;> omega
      ·rename_i hi
       simp only [hi,Option.map_none,Result.andThen_ok,Sem.run_bind,hset,Sem.run_pure]
       rw [← mapObj_list]
       exact ⟨_,ρ,.tup [],_,rfl,hm.2,hwr _ _ _ _ _ fun j hj=>h2 j hj,fun _ _=>rfl,by simp [ok,okL],by rw [putH_length]; exact Nat.le_refl _⟩
     ·exact hm.elim
    ·exact hm.elim
   ·exact hm.elim
  ·exact hm.elim
 ·exact hm.elim
def mapC:Chunk→Option (Nat × (Nat→SV) × (Nat→SV) × (Nat→Nat) × Nat)
 | .map n key val born clock=>some (n,key,val,born,clock)
 | .rmap n key val born clock=>some (n,key,val,born,clock)
 | _=>none
theorem mapC_holds {ρ:Env} {w:World} {k:Nat} {c:Chunk} {n:Nat} {key val:Nat→SV} {born:Nat→Nat} {clock:Nat} (h:mapC c = some (n,key,val,born,clock)) (hh:Holds ρ w k c):(ρ k).nil = false∧w.heap[(ρ k).b]? = some (.map (ents ρ key val born n 0).toArray clock):=by
 cases c <;> simp only [mapC,Option.some.injEq,Prod.mk.injEq,reduceCtorEq] at h
 all_goals
  obtain ⟨rfl,rfl,rfl,rfl,rfl⟩:=h
  rw [← mapObj_list]
  exact hh
theorem mapC_good {m:Nat} {c:Chunk} {n:Nat} {key val:Nat→SV} {born:Nat→Nat} {clock:Nat} (h:mapC c = some (n,key,val,born,clock)) (hg:c.good m):∀ i,i < n→ok m (key i)∧ok m (val i):=by
 cases c <;> simp only [mapC,Option.some.injEq,Prod.mk.injEq,reduceCtorEq] at h
 all_goals
  obtain ⟨rfl,rfl,rfl,rfl,rfl⟩:=h
  exact hg
def rangeS (tab:Tab) (h:List Chunk) (ty:TypeId) (x:SV) (K:SV→List Chunk→Prop):Prop :=
 match tab ty with
 | some e0=>match e0.d with
  | .map _ _=>match x with
   | .v (.map none)=>True∧K (.ptr h.length 0) (h++[.iter (.v (.map none)) 0 [] 0])
   | .mp nm=>match mapC (lookH h nm) with
    | some (_,_,_,_,clock)=>True∧K (.ptr h.length 0) (h++[.iter (.mp nm) clock [] clock])
    | none=>False
   | _=>False
  | _=>False
 | none=>False
def nextS (h:List Chunk) (x:SV) (K:SV→List Chunk→Prop):Prop :=
 match x with
 | .ptr it 0=>match lookH h it with
  | .iter m since seen st=>match m with
   | .v (.map none)=>True∧K (.tup [.bool false]) h
   | .mp nm=>match mapC (lookH h nm) with
    | some (n,key,val,born,clock)=>((∀ j,j < n→born j < since)∧since≤st)∧(∀ j,j < n→born j ∉ seen→K (.tup [.bool true,key j,val j]) (putH h it (.iter (.mp nm) since (seen++[born j]) clock)))∧((∀ j,j < n→born j ∈ seen)→K (.tup [.bool false]) h)
    | none=>False
   | _=>False
  | _=>False
 | _=>False
def entryS (h:List Chunk) (x:SV) (K:SV→List Chunk→Prop):Prop :=
 match x with
 | .ptr it 0=>match lookH h it with
  | .iter m _ seen st=>match m with
   | .mp nm=>match mapC (lookH h nm) with
    | some (n,key,val,born,clock)=>∃ j s0,j < n∧seen = s0++[born j]∧(∀ i i',i < n→i' < n→born i = born i'→i = i')∧st = clock∧K (.tup [key j,val j]) h
    | none=>False
   | _=>False
  | _=>False
 | _=>False
theorem ents_mem {ρ:Env} {key val:Nat→SV} {born:Nat→Nat} {n:Nat} {e:MapEntry} (he:e ∈ ents ρ key val born n 0):∃ j,j < n∧e = { key:=den ρ (key j),val:=den ρ (val j),born:=born j }:=by
 obtain ⟨j,hj⟩:=List.mem_iff_getElem?.1 he
 rw [ents_get] at hj
 split at hj
 ·rename_i h; exact ⟨j,h,by simpa using hj.symm⟩
 ·cases hj
theorem ents_in (ρ:Env) (key val:Nat→SV) (born:Nat→Nat) {n j:Nat} (hj:j < n):({ key:=den ρ (key j),val:=den ρ (val j),born:=born j }:MapEntry) ∈ ents ρ key val born n 0 :=
 List.mem_iff_getElem?.2 ⟨j,by rw [ents_get,if_pos hj]⟩
theorem ents_born (ρ:Env) (key val:Nat→SV) (born:Nat→Nat) (n:Nat) (h:∀ i i',i < n→i' < n→born i = born i'→i = i'):(((ents ρ key val born n 0).toArray.toList).map (·.born)).Nodup:=by
 rw [List.nodup_iff_pairwise_ne,List.pairwise_iff_getElem]
 intro i j hi hj hij he
 have hl:(ents ρ key val born n 0).length = n:=by simp [ents]
 simp only [List.length_map,hl] at hi hj
 have e1:∀ k,k < n→∀ hk,(((ents ρ key val born n 0).toArray.toList).map (·.born))[k]'hk = born k:=by
  intro k hk hk'
  rw [List.getElem_map]
  have h1:=ents_get ρ key val born n k
  rw [if_pos hk] at h1
  have h2:=(List.getElem?_eq_some_iff.1 h1).2
  simp only [h2]
 rw [e1 i hi,e1 j hj] at he
 have:=h i j hi hj he
 omega
theorem rangeS_run {tab:Tab} (hT:tab.Ok P) {C:Ctx} {h:List Chunk} {ty:TypeId} {x:SV} {K:SV→List Chunk→Prop} (hr:rangeS tab h ty x K) {ρ:Env} {w:World} (hM:Models C ρ h w) (hx:ok h.length x) :
  Goes P C h ρ w ((Instr.range ty (den ρ x)).run P w) K:=by
 unfold rangeS at hr
 split at hr
 ·rename_i e0 he0
  split at hr
  ·rename_i kt et hd
   obtain ⟨dd,hu,hf⟩:=(hT ty e0 he0).desc
   rw [hd] at hf
   simp only [TD.fits] at hf
   subst hf
   have fin:∀ (m:SV) (cl:Nat),ok h.length m→mapOf (den ρ m) = mapOf (den ρ x)→(Instr.range ty (den ρ x)).run P w = .ok (.pointer (some ⟨w.heap.size,0,none⟩)) (w.alloc (.mapIter (mapOf (den ρ m)) cl #[] cl))→K (.ptr h.length 0) (h++[.iter m cl [] cl]) →
     Goes P C h ρ w ((Instr.range ty (den ρ x)).run P w) K:=by
    intro m cl hm _ hrun hK
    have hag:=agree_upd ρ h.length ⟨w.heap.size,0,0,false,none⟩
    refine ⟨w.alloc (.mapIter (mapOf (den ρ m)) cl #[] cl),_,_,_,?_,hK,hM.alloc (w':=w.alloc (.mapIter (mapOf (den ρ m)) cl #[] cl)) (keep_alloc w _) (c:=.iter m cl [] cl) (p:=⟨w.heap.size,0,0,false,none⟩) (fun _=>⟨rfl,by simp⟩) (ok_mono (Nat.le_succ _) m hm) ?_,hag,?_,by simp⟩
    ·rw [hrun]
     simp [den,upd_self]
    ·simp only [Holds,upd_self,den_agree hag m hm]
     refine ⟨trivial,trivial,?_⟩
     show (w.heap.push _)[w.heap.size]? = _
     rw [Array.getElem?_push_size]
    ·simp [ok]
   split at hr
   ·refine fin (.v (.map none)) 0 trivial rfl ?_ hr.2
    unfold Instr.range
    simp only [den,Sem.run_bind,run_underlying hu w,Result.andThen_ok,newObj,Sem.run,Sem.run_pure]
    rfl
   ·rename_i nm
    split at hr
    ·rename_i n key val born clock hc
     obtain ⟨h1,h2⟩:=mapC_holds hc (look_holds hM nm)
     have hgo:(getObj (ρ nm).b).run P w = .ok (.map (ents ρ key val born n 0).toArray clock) w:=by simp [getObj,Sem.run,h2]
     refine fin (.mp nm) clock hx rfl ?_ hr.2
     unfold Instr.range
     simp only [den,Sem.run_bind,run_underlying hu w,Result.andThen_ok,hgo,newObj,Sem.run,Sem.run_pure]
     rfl
    ·exact hr.elim
   ·exact hr.elim
  ·exact hr.elim
 ·exact hr.elim
theorem keep_setB {w w1:World} {r:Nat} {o:Obj} (h1:w1 = w ∨ w1 = w.drew):Keep (fun b=>b = r) w (Go.ChangeMaps.setBlock w1 r o):=by
 have key:∀ w2:World,w2.os = w.os→w2.tape = w.tape→w2.output = w.output→w2.heap = w.heap→Keep (fun b=>b = r) w (Go.ChangeMaps.setBlock w2 r o):=fun w2 e1 e2 e3 e4 =>
  ⟨e1,e2,e3,by show w.heap.size≤(w2.heap.setIfInBounds r o).size; rw [e4]; simp,fun b _ hb=>by
   show (w2.heap.setIfInBounds r o)[b]? = _
   rw [e4,Array.getElem?_setIfInBounds,if_neg (Ne.symm hb)]⟩
 rcases h1 with h1 | h1 <;> rw [h1] <;> exact key _ rfl rfl rfl rfl
theorem nextS_run {C:Ctx} {h:List Chunk} {ty:TypeId} {x:SV} {K:SV→List Chunk→Prop} (hr:nextS h x K) {ρ:Env} {w:World} (hM:Models C ρ h w) :
  Goes P C h ρ w ((Instr.next (den ρ x) false ty).run P w) K:=by
 unfold nextS at hr
 split at hr
 ·rename_i it
  split at hr
  ·rename_i m since seen st hit
   have hH:=look_holds hM it
   have hG:=look_good hM it
   rw [hit] at hH hG
   obtain ⟨hn,ho,hb⟩:=hH
   have hden:den ρ (.ptr it 0) = .pointer (some ⟨(ρ it).b,0,none⟩):=by simp [den,ho]
   rw [hden]
   split at hr
   ·refine ⟨w,ρ,.tup [.bool false],h,?_,hr.2,hM,fun _ _=>rfl,⟨trivial,trivial⟩,Nat.le_refl _⟩
    simp only [den,mapOf] at hb
    simp only [Instr.next,Sem.run_bind,getObj,Sem.run,hb,Result.andThen,Sem.run_pure]
    rfl
   ·rename_i nm
    split at hr
    ·rename_i n key val born clock hc
     obtain ⟨⟨hold,hsc⟩,hsome,hnone⟩:=hr
     obtain ⟨h1,h2⟩:=mapC_holds hc (look_holds hM nm)
     have hgood:=mapC_good hc (look_good hM nm)
     simp only [den,mapOf] at hb
     rcases run_next_at (P:=P) w ty (ρ it).b (ρ nm).b since st seen.toArray (ents ρ key val born n 0).toArray clock hb h2 (fun e he=>by
       obtain ⟨j,hj,rfl⟩:=ents_mem (by simpa using he)
       exact hold j hj) hsc with ⟨h0,hrun⟩ | ⟨e,he,w1,hw1,hrun⟩
     ·refine ⟨w,ρ,.tup [.bool false],h,?_,hnone fun j hj=>?_,hM,fun _ _=>rfl,⟨trivial,trivial⟩,Nat.le_refl _⟩
      ·rw [hrun]; rfl
      ·have hin:=ents_in ρ key val born hj
       rcases Classical.em (born j ∈ seen) with h3 | h3
       ·exact h3
       ·exfalso
        have h4:({ key:=den ρ (key j),val:=den ρ (val j),born:=born j }:MapEntry) ∈ leftOf (ents ρ key val born n 0).toArray seen.toArray:=by
         unfold leftOf
         rw [Array.mem_filter]
         exact ⟨by simpa using hin,by simpa using h3⟩
        have h5:leftOf (ents ρ key val born n 0).toArray seen.toArray = #[]:=Array.eq_empty_of_size_eq_zero h0
        rw [h5] at h4
        simp at h4
     ·have he':e ∈ leftOf (ents ρ key val born n 0).toArray seen.toArray:=by simpa using he
      unfold leftOf at he'
      rw [Array.mem_filter] at he'
      obtain ⟨q1,q2⟩:=he'
      obtain ⟨j,hj,rfl⟩:=ents_mem (by simpa using q1)
      have q3:born j ∉ seen:=by simpa using q2
      have hlt:(ρ it).b < w.heap.size:=(Array.getElem?_eq_some_iff.1 hb).1
      refine ⟨_,ρ,.tup [.bool true,key j,val j],_,by rw [hrun]; rfl,hsome j hj q3,?_,fun _ _=>rfl,⟨trivial,by rw [putH_length]; exact (hgood j hj).1,by rw [putH_length]; exact (hgood j hj).2,trivial⟩,by rw [putH_length]; exact Nat.le_refl _⟩
      refine hM.write (lookH_some hit (by simp)) ⟨rfl,hn⟩ (keep_setB hw1) hG ⟨hn,ho,?_⟩
      simp only [den,mapOf]
      have hh1:w1.heap = w.heap:=by rcases hw1 with h | h <;> rw [h] <;> rfl
      show (w1.heap.setIfInBounds (ρ it).b _)[(ρ it).b]? = _
      rw [hh1,Array.getElem?_setIfInBounds,if_pos rfl,if_pos hlt]
      simp
    ·exact hr.elim
   ·exact hr.elim
  ·exact hr.elim
 ·exact hr.elim
theorem entryS_run {C:Ctx} {h:List Chunk} {x:SV} {K:SV→List Chunk→Prop} (hr:entryS h x K) {ρ:Env} {w:World} (hM:Models C ρ h w) :
  Goes P C h ρ w ((Instr.entry (den ρ x)).run P w) K:=by
 unfold entryS at hr
 split at hr
 ·rename_i it
  split at hr
  ·rename_i m since seen st hit
   have hH:=look_holds hM it
   rw [hit] at hH
   obtain ⟨hn,ho,hb⟩:=hH
   have hden:den ρ (.ptr it 0) = .pointer (some ⟨(ρ it).b,0,none⟩):=by simp [den,ho]
   rw [hden]
   split at hr
   ·rename_i nm
    split at hr
    ·rename_i n key val born clock hc
     obtain ⟨j,s0,hj,rfl,hinj,hst,hK⟩:=hr
     rw [hst] at hb
     obtain ⟨h1,h2⟩:=mapC_holds hc (look_holds hM nm)
     have hgood:=mapC_good hc (look_good hM nm)
     simp only [den,mapOf] at hb
     have hb':w.heap[(ρ it).b]? = some (.mapIter (some (ρ nm).b) since (s0.toArray.push (born j)) clock):=by rw [hb]; simp
     refine ⟨w,ρ,.tup [key j,val j],h,?_,hK,hM,fun _ _=>rfl,⟨(hgood j hj).1,(hgood j hj).2,trivial⟩,Nat.le_refl _⟩
     rw [run_entry_at (P:=P) w (ρ it).b (ρ nm).b since s0.toArray (ents ρ key val born n 0).toArray clock { key:=den ρ (key j),val:=den ρ (val j),born:=born j } hb' h2 (by simpa using ents_in ρ key val born hj) (ents_born ρ key val born n hinj)]
     rfl
    ·exact hr.elim
   ·exact hr.elim
  ·exact hr.elim
 ·exact hr.elim
def ef (tab:Tab) (t:Slots) (h:List Chunk) (o:Op) (K:SV→List Chunk→Prop):Prop :=
 match o with
 | .alloc el=>match tab el with
  | some e=>True∧K (.ptr h.length 0) (h++[.cells true (parts e.zero)])
  | none=>False
 | .box _ x=>stor (ev t x)∧K (.ptr h.length 0) (h++[.cells true (parts (ev t x))])
 | .buildSlice ty len ps=>bslS tab h ty len (ps.toList.map fun p=>(p.1,ev t p.2)) K
 | .makeSlice ty l c=>mkS tab h ty (ev t l) (ev t c) K
 | .store ty a x=>stS tab h ty (ev t a) (ev t x) fun h'=>K (.tup []) h'
 | .convert s d x=>s2bS tab h s d (ev t x) K
 | .call ⟨.builtin .append,⟨[d,x]⟩,⟨[dT,xT]⟩⟩=>appS tab h dT xT (ev t d) (ev t x) K
 | .call ⟨.builtin .copy,⟨[d,x]⟩,⟨[dT,_]⟩⟩=>cpS tab h dT (ev t d) (ev t x) K
 | .makeMap _ none=>True∧K (.mp h.length) (h++[.map 0 (fun _=>.tup []) (fun _=>.tup []) (fun _=>0) 0])
 | .mapUpdate ty m k v=>mupS tab h ty (ev t m) (ev t k) (ev t v) K
 | .call ⟨.builtin .delete,⟨[m,k]⟩,⟨[ty,_]⟩⟩=>delS tab h ty (ev t m) (ev t k) K
 | .range ty x=>rangeS tab h ty (ev t x) K
 | .next x false=>nextS h (ev t x) K
 | .entry x=>entryS h (ev t x) K
 | _=>False
def GoesOp (P:Program) (C:Ctx) (h:List Chunk) (ρ:Env) (w:World) (r:Result Next) (K:SV→List Chunk→Prop):Prop :=
 ∃ w' ρ' sv h',(r = .ok (.value (den ρ' sv)) w' ∨ (r = .ok .skip w'∧sv = .tup []))∧K sv h'∧Models C ρ' h' w'∧Agree h.length ρ ρ'∧ok h'.length sv∧h.length≤h'.length
theorem Goes.op {C:Ctx} {h:List Chunk} {ρ:Env} {w:World} {r:Sem Value} {K:SV→List Chunk→Prop} (hg:Goes P C h ρ w (r.run P w) K):GoesOp P C h ρ w ((do pure (.value (← r)):Sem Next).run P w) K:=by
 obtain ⟨w',ρ',sv,h',hr,rest⟩:=hg
 exact ⟨w',ρ',sv,h',.inl (by simp [hr]),rest⟩
theorem ef_run {tab:Tab} (hT:tab.Ok P) {C:Ctx} {st:St} {o:Oper} {K:SV→List Chunk→Prop} (he:ef tab st.t st.h o.op K) {ρ:Env} {w:World} (hM:Models C ρ st.h w) (hok:okS st.h.length st.t) :
  GoesOp P C st.h ρ w ((execOp (act ρ st).eval o).run P w) K:=by
 have hev:=fun x=>act_eval ρ st hok x
 have hoe:=fun x=>ok_ev st.t x hok
 obtain ⟨dst,op,type,pos,after,guard⟩:=o
 simp only at he
 unfold ef at he
 unfold execOp
 simp only
 split at he <;> simp only [hev]
 ·rename_i el
  split at he
  ·rename_i e hel
   have hF:=hT _ _ hel
   refine Goes.op (Goes.block hM (ok_mono (Nat.zero_le _) _ hF.zok) hF.zstor el ?_ he.2)
   simp only [Instr.alloc,Sem.run_bind,zero_run hF ρ w,Result.andThen_ok,newVar,newRow,newObj,Sem.run,Sem.run_pure]
   rfl
  ·exact he.elim
 ·rename_i el x
  refine Goes.op (Goes.block hM (hoe x) he.1 el ?_ he.2)
  simp only [Instr.box,Sem.run_bind,Result.andThen_ok,newVar,newRow,newObj,Sem.run,Sem.run_pure]
  rfl
 ·rename_i ty len ps
  have hb:=bslS_run hT he hM (by
   intro q hq
   simp only [List.mem_map] at hq
   obtain ⟨y,_,rfl⟩:=hq
   exact hoe _)
  have e2:ps.map (fun x=>(x.1,den ρ (ev st.t x.2))) = (List.map (fun p=>(p.1,den ρ p.2)) (List.map (fun p=>(p.1,ev st.t p.2)) ps.toList)).toArray:=by
   apply Array.ext'
   simp
  rw [← e2] at hb
  exact Goes.op hb
 ·exact Goes.op (mkS_run hT he hM)
 ·obtain ⟨w',h',h1,h2,h3,h4⟩:=stS_run hT he hM (hoe _)
  refine ⟨w',ρ,.tup [],h',.inr ⟨?_,rfl⟩,h2,h3,fun _ _=>rfl,by simp [ok,okL],by omega⟩
  simp [h1]
 ·exact Goes.op (s2bS_run hT he hM)
 ·rename_i d x dT xT
  have hb:=appS_run (P:=P) (ty:=type) hT he hM
  have e1:(#[d,x]:Array Operand).map (act ρ st).eval = #[den ρ (ev st.t d),den ρ (ev st.t x)]:=by simp [hev]
  rw [← e1] at hb
  have:=Goes.op hb
  simp only [Sem.run_bind,resolve,Sem.run_pure,Result.andThen_ok,invoke,builtin] at this ⊢
  exact this
 ·rename_i d x dT xT
  have hb:=cpS_run (P:=P) (sT:=xT) (ty:=type) hT he hM
  have e1:(#[d,x]:Array Operand).map (act ρ st).eval = #[den ρ (ev st.t d),den ρ (ev st.t x)]:=by simp [hev]
  rw [← e1] at hb
  have:=Goes.op hb
  simp only [Sem.run_bind,resolve,Sem.run_pure,Result.andThen_ok,invoke,builtin] at this ⊢
  exact this
 ·refine Goes.op ?_
  have hag:=agree_upd ρ st.h.length ⟨w.heap.size,0,0,false,none⟩
  refine ⟨w.alloc (.map #[] 0),_,_,_,?_,he.2,hM.alloc (w':=w.alloc (.map #[] 0)) (keep_alloc w _) (c:=.map 0 (fun _=>.tup []) (fun _=>.tup []) (fun _=>0) 0) (p:=⟨w.heap.size,0,0,false,none⟩) (fun _=>⟨rfl,by simp⟩) (fun i hi=>absurd hi (Nat.not_lt_zero _)) ?_,hag,?_,by simp⟩
  ·simp only [Instr.makeMap,Sem.run_bind,Option.map_none,newObj,Sem.run,Sem.run_pure,Result.andThen_ok,den,upd_self]
   rfl
  ·simp only [Holds,upd_self,mapObj_list]
   refine ⟨trivial,?_⟩
   show (w.heap.push (Obj.map #[] 0))[w.heap.size]? = _
   rw [Array.getElem?_push_size]
   rfl
  ·simp [ok]
 ·obtain ⟨w',h',h1,h2,h3,h4⟩:=mupS_run hT he hM (hoe _) (hoe _) (fun j=>look_holds hM j) (look_good hM)
  refine ⟨w',ρ,.tup [],h',.inr ⟨?_,rfl⟩,h2,h3,fun _ _=>rfl,by simp [ok,okL],by omega⟩
  simp [h1]
 ·rename_i m k ty ty2
  have hb:=delS_run (P:=P) (ty2:=ty2) (type:=type) hT he hM (hoe _) (fun j=>look_holds hM j) (look_good hM)
  have e1:(#[m,k]:Array Operand).map (act ρ st).eval = #[den ρ (ev st.t m),den ρ (ev st.t k)]:=by simp [hev]
  rw [← e1] at hb
  have:=Goes.op hb
  simp only [Sem.run_bind,resolve,Sem.run_pure,Result.andThen_ok,invoke,builtin] at this ⊢
  exact this
 ·exact Goes.op (rangeS_run hT he hM (hoe _))
 ·exact Goes.op (nextS_run he hM)
 ·exact Goes.op (entryS_run he hM)
 ·exact he.elim
end Go.Sx
set_option linter.all false
namespace Go.Sx
open Go.RowKit
structure WideF (F:Fence):Prop where
 fn:∀ f,F.fn f
 depth:F.depth = none
section
variable {F:Fence} {n:Nat} {P:Program} {ops:Array Oper} {Q:Exit→Act→World→Prop} {md:Region.Mode}
def waits1 (md:Region.Mode) (ops:Array Oper) (j i:Nat):Bool :=
 match ops[j]? with
 | some o=>o.after.any fun e=>Region.binds md e && e.on == i
 | none=>false
def waits (md:Region.Mode) (ops:Array Oper) (j i:Nat):Bool :=
 match ops[j]? with
 | some o=>o.after.any fun e=>Region.binds md e && (e.on == i || waits1 md ops e.on i)
 | none=>false
def Cl (md:Region.Mode) (ops:Array Oper) (L:Array Bool):Prop :=
 ∀ x o,ops[x]? = some o→L.getD x false = true→∀ e ∈ o.after,Region.binds md e = true→L.getD e.on false = true
theorem waits_listed {L:Array Bool} (hc:Cl md ops L) {j i:Nat} {oj:Oper} (hj:ops[j]? = some oj) (h:∀ e ∈ oj.after,Region.binds md e = true→L.getD e.on false = true) (hw:waits md ops j i = true):L.getD i false = true:=by
 unfold waits at hw
 rw [hj] at hw
 have hw':(oj.after.any fun e=>Region.binds md e && (e.on == i || waits1 md ops e.on i)) = true:=hw
 obtain ⟨e,he,hb⟩:=Array.any_eq_true'.1 hw'
 simp only [Bool.and_eq_true,Bool.or_eq_true,beq_iff_eq] at hb
 have h1:=h e he hb.1
 rcases hb.2 with rfl | hb2
 ·exact h1
 ·unfold waits1 at hb2
  split at hb2
  ·rename_i o2 ho2
   obtain ⟨e2,he2,hb3⟩:=Array.any_eq_true'.1 hb2
   simp only [Bool.and_eq_true,beq_iff_eq] at hb3
   have:=hc _ o2 ho2 h1 e2 he2 hb3.1
   rw [hb3.2] at this
   exact this
  ·cases hb2
theorem waits_false {L:Array Bool} (hc:Cl md ops L) {j i:Nat} {oj:Oper} (hj:ops[j]? = some oj) (h:∀ e ∈ oj.after,Region.binds md e = true→L.getD e.on false = true) (hi:L.getD i true = false):waits md ops j i = false:=by
 rw [Bool.eq_false_iff]
 intro hw
 have h1:=waits_listed hc hj h hw
 rcases Nat.lt_or_ge i L.size with h' | h'
 ·simp [h'] at hi h1; rw [hi] at h1; cases h1
 ·simp [Array.getElem?_eq_none h'] at h1
theorem cl_set {L:Array Bool} (hc:Cl md ops L) {i:Nat} (hr:i ∈ Region.ready md ops L):Cl md ops (L.setIfInBounds i true):=by
 intro x o hx hl e he hb
 by_cases hxi:x = i
 ·subst hxi
  obtain ⟨_,o',ho',hall⟩:=mem_ready.1 hr
  rw [hx] at ho'
  cases ho'
  exact getD_set_true (hall e he hb)
 ·rw [getD_set_ne false (Ne.symm hxi)] at hl
  exact getD_set_true (hc x o hx hl e he hb)
theorem cl_none (n:Nat):Cl md ops (Array.replicate n false):=by
 intro x o hx hl
 rcases Nat.lt_or_ge x n with h | h
 ·simp [h] at hl
 ·simp [h] at hl
abbrev Facts:=List (Nat × (World→Prop))
def Alive (md:Region.Mode) (ops:Array Oper) (eff:Nat→Bool) (Fa:Facts) (L:Array Bool) (w:World):Prop :=
 ∀ p ∈ Fa,(∀ j,L.getD j false = true→eff j = true→waits md ops j p.1 = false)→p.2 w
def wpAnyG (F:Fence) (n:Nat) (P:Program) (md:Region.Mode) (ops:Array Oper) (Q:Exit→Act→World→Prop) (eff:Nat→Bool) (Fa:Facts):Nat→Array Bool→Act→World→Prop
 | 0,L,a,w=>Region.ready md ops L = []∧Q .normal a w
 | fuel+1,L,a,w =>
  (Region.ready md ops L = []→Q .normal a w) ∧
  ∀ i ∈ Region.ready md ops L,wpOpIn F n P ops Q i (fun a' w'=>Alive md ops eff Fa (L.setIfInBounds i true) w'∧wpAnyG F n P md ops Q eff Fa fuel (L.setIfInBounds i true) a' w') a w
theorem wpAnyIn_of_G {eff:Nat→Bool} {Fa:Facts}:∀ (fuel:Nat) (L:Array Bool) (a:Act) (w:World),wpAnyG F n P md ops Q eff Fa fuel L a w→wpAnyIn F n P md ops Q fuel L a w
 | 0,_,_,_,h=>h
 | fuel+1,_,_,_,h=>⟨h.1,fun i hi=>wpOpIn_mono (fun a' w' h'=>wpAnyIn_of_G fuel _ a' w' h'.2) (h.2 i hi)⟩
def YieldsG (P:Program) (ops:Array Oper) (φ:World→Prop) (o:Oper) (v:Value) (a:Act):Prop :=
 (∀ c,o.op ≠ .defer c)∧YieldsIf P ops φ o v a
theorem YieldsG.wpOpIn (hF:WideF F) {φ:World→Prop} {i:Nat} {o:Oper} {v:Value} {a:Act} (hi:ops[i]? = some o) (hy:YieldsG P ops φ o v a)
  {K:Act→World→Prop} {w:World} (hφ:φ w) (h:K (a.put o.dst v) w):wpOpIn F n P ops Q i K a w:=by
 unfold Go.wpOpIn
 simp only [hi]
 rcases hy.2 with ⟨hw,hv⟩ | ⟨hw,rfl⟩
 ·simp only [hw,if_true,Oper.wpIn,Oper.semAt_eq F.round _ o hy.1,hv w hφ,Oper.uponIn]; exact ⟨fun f _=>hF.fn f,h⟩
 ·simp only [hw,Bool.false_eq_true,if_false]; exact ⟨fun f _=>hF.fn f,h⟩
theorem wpOpIn_putG (hF:WideF F) {φ:World→Prop} {j:Nat} {oi oj:Oper} {v:Value} (hj:ops[j]? = some oj) (hap:oi.apart ops oj = true) (hdj:∀ c,oj.op ≠ .defer c)
  (hsi:∀ cs b,oi.op ≠ .select cs b) (hsj:∀ cs b,oj.op ≠ .select cs b)
  (hQ:∀ c a w,Q (.panic c) (a.put oi.dst v) w→Q (.panic c) a w) {K:Act→World→Prop} {a:Act} {w:World}
  (hy:YieldsG P ops φ oi v a) (h:wpOpIn F n P ops Q j K (a.put oi.dst v) w) :
  wpOpIn F n P ops Q j (fun a' w'=>YieldsG P ops φ oi v a'∧K (a'.put oi.dst v) w') a w:=by
 obtain ⟨h1,h2,h3⟩:=Oper.apart_spec hap
 have keep:∀ (a:Act),YieldsG P ops φ oi v a→∀ u,YieldsG P ops φ oi v (a.put oj.dst u):=fun a hy u =>
  ⟨hy.1,hy.2.of_same (execOp_put oi hsi a oj.dst u h3) (wanted_put oi a oj.dst u h3)⟩
 unfold wpOpIn at *
 simp only [hj] at *
 rw [wanted_put oj a oi.dst v h1,about_put oj w a oi.dst v h1] at h
 split
 ·rename_i hw
  simp only [hw,if_true] at h
  unfold Oper.wpIn at *
  rw [about_put oj w a oi.dst v h1] at h
  refine ⟨h.1,?_⟩
  have h:=h.2
  rw [Oper.semAt_eq F.round _ oj hdj,execOp_put oj hsj a oi.dst v h1] at h
  rw [Oper.semAt_eq F.round _ oj hdj]
  generalize (execOp a.eval oj).run P w = r at *
  cases r with
  | ok x w' =>
   cases x <;> simp only [Oper.uponIn] at h ⊢
   case value u=>exact ⟨keep a hy u,by rw [← Act.put_comm a v u h2]; exact h⟩
   case skip=>exact ⟨keep a hy _,by rw [← Act.put_comm a v undef h2]; exact h⟩
   case defer d =>
    refine ⟨⟨hy.1,(hy.2.of_same (a':={ a with defers:=d :: a.defers }) rfl rfl).of_same (execOp_put oi hsi _ oj.dst undef h3) (wanted_put oi _ oj.dst undef h3)⟩,?_⟩
    rw [← Act.put_comm _ v undef h2,← Act.put_defers]
    exact h
   case enter f args =>
    refine ⟨h.1,CallsIn.mono h.2 fun e w'' he=>?_⟩
    cases e with
    | returned u=>exact ⟨keep a hy u,by rw [← Act.put_comm a v u h2]; exact he⟩
    | panicked c=>exact hQ _ _ _ he
    | outgrown=>exact he
   case row row args=>exact ⟨h.1,RowsIn.mono h.2 fun u w'' he=>⟨keep a hy u,by rw [← Act.put_comm a v u h2]; exact he⟩⟩
   case round l f tmps assign body =>
    refine ⟨h.1,RoundIn.mono h.2 fun e w'' he=>?_⟩
    cases e with
    | returned u=>exact ⟨keep a hy u,by rw [← Act.put_comm a v u h2]; exact he⟩
    | panicked c=>exact hQ _ _ _ he
    | outgrown=>exact he
  | halt x w' =>
   cases x <;> simp only [Oper.uponIn] at h ⊢
   case panic u=>exact hQ _ _ _ h
 ·rename_i hw
  simp only [hw] at h
  exact ⟨h.1,keep a hy _,by rw [← Act.put_comm a v undef h2]; exact h.2⟩
theorem getD_set_self {L:Array Bool} {i j:Nat}:(L.setIfInBounds i true).getD j false = true→j = i ∨ L.getD j false = true:=by
 intro h
 by_cases hij:i = j
 ·exact .inl hij.symm
 ·rw [getD_set_ne false hij] at h; exact .inr h
theorem wpAnyG_first (hF:WideF F) {eff:Nat→Bool} {φ:World→Prop} {i:Nat} {oi:Oper} {v:Value} (hi:ops[i]? = some oi) (hsel:∀ (j:Nat) (o:Oper) cs b,ops[j]? = some o→o.op ≠ .select cs b)
  (hdef:∀ (j:Nat) (o:Oper) c,ops[j]? = some o→o.op ≠ .defer c) (hei:eff i = false)
  (hQ:∀ c a w,Q (.panic c) (a.put oi.dst v) w→Q (.panic c) a w) {Fa:Facts} :
  ∀ (fuel:Nat) (L:Array Bool) (a:Act) (w:World),Cl md ops L →
   (∀ j oj,ops[j]? = some oj→j ≠ i→L.getD j true = false→(∀ e ∈ oj.after,Region.binds md e = true→e.on ≠ i)→oi.apart ops oj = true) →
   (∀ j,L.getD j false = true→waits md ops j i = false) →
   i ∈ Region.ready md ops L→YieldsG P ops φ oi v a→φ w→Alive md ops eff Fa L w →
   wpAnyG F n P md ops Q eff ((i,φ) :: Fa) fuel (L.setIfInBounds i true) (a.put oi.dst v) w→wpAnyG F n P md ops Q eff Fa (fuel+1) L a w:=by
 have weaken:∀ (fuel:Nat) (L:Array Bool) (a:Act) (w:World),wpAnyG F n P md ops Q eff ((i,φ) :: Fa) fuel L a w→wpAnyG F n P md ops Q eff Fa fuel L a w:=by
  intro fuel
  induction fuel with
  | zero=>intro L a w h; exact h
  | succ fuel ih=>intro L a w h; exact ⟨h.1,fun j hj=>wpOpIn_mono (fun a' w' h'=>⟨fun p hp=>h'.1 p (by simp [hp]),ih _ a' w' h'.2⟩) (h.2 j hj)⟩
 have aliveI:∀ (L:Array Bool) (w:World),Alive md ops eff Fa L w→Alive md ops eff Fa (L.setIfInBounds i true) w:=fun L w h p hp hl=>h p hp fun j hj he=>by
  refine hl j (getD_set_true hj) he
 intro fuel
 induction fuel with
 | zero =>
  intro L a w hcl _ _ hr hy hφ hal H
  refine ⟨fun h=>(by rw [h] at hr; cases hr),fun j hj=>?_⟩
  by_cases hji:j = i
  ·subst hji; exact hy.wpOpIn hF hi hφ ⟨aliveI L w hal,H⟩
  ·have:=ready_mono hj hji
   rw [H.1] at this
   cases this
 | succ fuel ih =>
  intro L a w hcl hfree hnw hr hy hφ hal H
  refine ⟨fun h=>(by rw [h] at hr; cases hr),fun j hj=>?_⟩
  by_cases hji:j = i
  ·subst hji; exact hy.wpOpIn hF hi hφ ⟨aliveI L w hal,weaken _ _ _ _ H⟩
  ·have h1:=H.2 j (ready_mono hj hji)
   obtain ⟨hjun,oj,hoj,hall⟩:=mem_ready.1 hj
   have hnot:∀ e ∈ oj.after,Region.binds md e = true→e.on ≠ i:=fun e he hb heq=>by
    have h1:=hall e he hb
    have h0:=(mem_ready.1 hr).1
    rw [heq] at h1
    rcases Nat.lt_or_ge i L.size with h' | h'
    ·simp [h'] at h0 h1; rw [h0] at h1; cases h1
    ·simp [Array.getElem?_eq_none h'] at h1
   have hwj:waits md ops j i = false:=waits_false hcl hoj hall (mem_ready.1 hr).1
   have h2:=wpOpIn_putG hF hoj (hfree j oj hoj hji hjun hnot) (fun c=>hdef j oj c hoj) (fun cs b=>hsel i oi cs b hi) (fun cs b=>hsel j oj cs b hoj) hQ hy h1
   have hfree':∀ k ok,ops[k]? = some ok→k ≠ i→(L.setIfInBounds j true).getD k true = false →
     (∀ e ∈ ok.after,Region.binds md e = true→e.on ≠ i)→oi.apart ops ok = true:=fun k ok hk hki hun hno=>by
    refine hfree k ok hk hki ?_ hno
    by_cases hjk:j = k
    ·subst hjk; exact hjun
    ·rw [getD_set_ne true hjk] at hun; exact hun
   have hnw':∀ k,(L.setIfInBounds j true).getD k false = true→waits md ops k i = false:=fun k hk=>by
    rcases getD_set_self hk with rfl | h'
    ·exact hwj
    ·exact hnw k h'
   refine wpOpIn_mono (fun a' w' h3=>?_) h2
   have hal':Alive md ops eff Fa (L.setIfInBounds j true) w':=fun p hp hl=>h3.2.1 p (by simp [hp]) fun k hk he=>by
    rcases getD_set_self hk with rfl | h'
    ·exact hl k (by
      obtain ⟨hlt,_⟩:=Array.getElem?_eq_some_iff.1 hoj
      rw [Array.setIfInBounds_comm _ _ (Ne.symm hji)] at hk
      rcases getD_set_self hk with rfl | h''
      ·exact absurd rfl hji
      ·exact h'') he
    ·rcases getD_set_self h' with rfl | h''
     ·rw [hei] at he; cases he
     ·exact hl k (getD_set_true h'') he
   have hφ':φ w':=h3.2.1 (i,φ) (by simp) fun k hk _=>by
    rcases getD_set_self hk with rfl | h'
    ·exact hwj
    ·rcases getD_set_self h' with rfl | h''
     ·obtain ⟨hun,o',ho',hall'⟩:=mem_ready.1 hr
      exact waits_false hcl ho' hall' hun
     ·exact hnw k h''
   refine ⟨hal',ih (L.setIfInBounds j true) a' w' (cl_set hcl hj) hfree' hnw' (ready_mono hr (Ne.symm hji)) h3.1 hφ' hal' ?_⟩
   rw [Array.setIfInBounds_comm _ _ hji]
   exact h3.2.2
end
end Go.Sx
set_option linter.all false
namespace Go.Sx
open Go.RowKit
structure Pr where
 p:Program
 know:World→(Nat→Prop)→Prop
 keep:∀ {w0 w:World} {X Y:Nat→Prop},know w0 X→Keep X w0 w→(∀ b,Y b→X b ∨ w0.heap.size≤b)→know w Y
instance:CoeOut Pr Program:=⟨Pr.p⟩
@[reducible] def Pr.of (P:Program):Pr:=⟨P,fun _ _=>True,fun _ _ _=>trivial⟩
instance:Coe Program Pr:=⟨Pr.of⟩
variable {P:Pr}
def Ret (C:Ctx) (h:List Chunk) (ρ:Env) (K:SV→List Chunk→Prop) (e:Ending) (w:World):Prop :=
 ∃ ρ' sv h',e = .returned (den ρ' sv)∧K sv h'∧Models C ρ' h' w∧Agree h.length ρ ρ'∧ok h'.length sv∧h.length≤h'.length
inductive Tok where
 | mk
 | no
def callP (P:Pr) (f:FuncId) (args:List SV) (h:List Chunk) (K:Tok→SV→List Chunk→Prop):Prop :=
 ∀ (C:Ctx) (ρ:Env) (w:World),P.know C.w0 C.X→Models C ρ h w→okL h.length args →
  GoesOp P C h ρ w ((callFunc f (denL ρ args).toArray).run P w) (K .mk) ∨
  ((callFunc f (denL ρ args).toArray).run P w = .ok (.enter f (denL ρ args).toArray) w ∧
   ∀ (F:Fence) (n:Nat),WideF F→F.round = none→CallsIn F n P f (denL ρ args).toArray w (Ret C h ρ (K .mk)))
def opP (P:Pr) (tab:Tab) (t:Slots) (h:List Chunk) (o:Op) (K:Tok→SV→List Chunk→Prop):Prop :=
 match o with
 | .call ⟨.value g,⟨args⟩,_⟩=>match ev t g with
  | .fn (.func f) first cap=>callP P f (first++args.map (ev t)++cap) h K
  | _=>False
 | .defer _=>False
 | o=>match qv tab t h o with
  | some (p,v)=>p∧K .mk v h
  | none=>ef tab t h o (K .mk)
def imp (a b:Prop):Prop:=a→b
def gd (ops:Array Oper) (t:Slots) (g:Option (Nat × Bool)) (yes no:Slots→Prop):Prop :=
 match g with
 | none=>yes t
 | some (j,want)=>match ops[j]? with
  | none=>False
  | some oj=>match oj.dst with
   | none=>False
   | some d=>match slot t d with
    | .bool b=>imp (b = want) (yes (putS t d (.bool want)))∧imp (b = !want) (no (putS t d (.bool (!want))))
    | .tup []=>True∧no t
    | _=>False
def rn (k:Tok) (P:Pr) (tab:Tab) (ops:Array Oper):List Oper→Slots→List Chunk→(Tok→Slots→List Chunk→Prop)→Prop
 | [],t,h,K=>K .mk t h
 | o :: r,t,h,K=>gd ops t o.guard (fun t=>opP P tab t h o.op fun k v h'=>rn k P tab ops r (putO t o.dst v) h' K) (fun t=>rn k P tab ops r (putO t o.dst (.tup [])) h K)
inductive Plan where
 | nil
 | q (i:Nat) (p:Plan)
 | e1 (i:Nat) (ws:List Nat) (p:Plan)
 | e2 (i:Nat) (ws:List Nat) (p:Plan) (j:Nat) (ws':List Nat) (p':Plan)
def inL:List Nat→Nat→Bool
 | [],_=>false
 | x :: l,k=>if x = k then true else inL l k
def same1 (h h':List Chunk):List Nat→Prop
 | []=>True
 | nm :: ns=>lookH h' nm = lookH h nm∧same1 h h' ns
def stays (ws:List Nat) (h h':List Chunk):List (Nat × List Nat)→Prop
 | []=>True
 | (_,[]) :: r=>stays ws h h' r
 | (k,nm :: ns) :: r=>(match inL ws k with | true=>True | false=>same1 h h' (nm :: ns))∧stays ws h h' r
def rp (k:Tok) (P:Pr) (tab:Tab) (ops:Array Oper):Plan→List (Nat × List Nat)→Slots→List Chunk→(Tok→Slots→List Chunk→Prop)→Prop
 | .nil,_,t,h,K=>K .mk t h
 | .q i p,rd,t,h,K=>match ops[i]? with
  | some o=>gd ops t o.guard (fun t=>match qv tab t h o.op with
    | some (c,v)=>c∧rp k P tab ops p ((i,qn t o.op) :: rd) (putO t o.dst v) h K
    | none=>False) (fun t=>rp k P tab ops p rd (putO t o.dst (.tup [])) h K)
  | none=>False
 | .e1 i ws p,rd,t,h,K=>match ops[i]? with
  | some o=>gd ops t o.guard (fun t=>opP P tab t h o.op fun k v h'=>stays ws h h' rd∧rp k P tab ops p rd (putO t o.dst v) h' K) (fun t=>rp k P tab ops p rd (putO t o.dst (.tup [])) h K)
  | none=>False
 | .e2 i ws p j ws' p',rd,t,h,K =>
  (match ops[i]? with
  | some o=>gd ops t o.guard (fun t=>opP P tab t h o.op fun k v h'=>stays ws h h' rd∧rp k P tab ops p rd (putO t o.dst v) h' K) (fun t=>rp k P tab ops p rd (putO t o.dst (.tup [])) h K)
  | none=>False) ∧
  (match ops[j]? with
  | some o=>gd ops t o.guard (fun t=>opP P tab t h o.op fun k v h'=>stays ws' h h' rd∧rp k P tab ops p' rd (putO t o.dst v) h' K) (fun t=>rp k P tab ops p' rd (putO t o.dst (.tup [])) h K)
  | none=>False)
section
variable {F:Fence} {n:Nat} {ops:Array Oper} {tab:Tab}
def Onward (C:Ctx) (ρ:Env) (st:St) (dst:Option Nat) (K:SV→List Chunk→Prop) (next:Act→World→Prop):Prop :=
 ∀ ρ' sv h' w',K sv h'→Models C ρ' h' w'→Agree st.h.length ρ ρ'→ok h'.length sv→st.h.length≤h'.length→next (act ρ' { st with t:=putO st.t dst sv,h:=h' }) w'
theorem act_agree {ρ ρ':Env} {st:St} (hok:okS st.h.length st.t) (ha:Agree st.h.length ρ ρ') (h':List Chunk):act ρ st = act ρ' { st with h:=h' }:=by
 simp only [act,tmpsD_agree ha hok]
theorem act_next {ρ ρ':Env} {st:St} (hok:okS st.h.length st.t) (ha:Agree st.h.length ρ ρ') (d:Option Nat) (sv:SV) (h':List Chunk) :
  (act ρ st).put d (den ρ' sv) = act ρ' { st with t:=putO st.t d sv,h:=h' }:=by
 rw [act_agree hok ha h',act_put]
theorem okS_putO {n:Nat} {t:Slots} {d:Option Nat} {v:SV} (h:okS n t) (hv:ok n v):okS n (putO t d v):=by
 cases d with
 | none=>exact h
 | some d=>exact okS_put h hv
theorem goes_upon {C:Ctx} {ρ:Env} {st:St} {o:Oper} {w:World} {K:SV→List Chunk→Prop} {next:Act→World→Prop} {Q:Exit→Act→World→Prop} {r:Result Next}
  (hok:okS st.h.length st.t) (hg:GoesOp P C st.h ρ w r K) (hn:Onward C ρ st o.dst K next):o.uponIn F n P (act ρ st) next Q r:=by
 obtain ⟨w',ρ',sv,h',hr,hK,hM,ha,hs,hl⟩:=hg
 rcases hr with rfl | ⟨rfl,rfl⟩
 ·simp only [Oper.uponIn]
  rw [act_next hok ha o.dst sv h']
  exact hn ρ' sv h' w' hK hM ha hs hl
 ·simp only [Oper.uponIn]
  rw [show (undef:Value) = den ρ' (.tup []) from rfl,act_next hok ha o.dst _ h']
  exact hn ρ' _ h' w' hK hM ha hs hl
theorem lookH_good {C:Ctx} {ρ:Env} {H:List Chunk} {w:World} (hM:Models C ρ H w) (k:Nat):(lookH H k).good H.length:=by
 cases hc:lookH H k with
 | none=>trivial
 | _=>rw [← hc]; exact hM.okc k _ (lookH_some rfl (by rw [hc]; simp))
theorem lookH_holds {C:Ctx} {ρ:Env} {H:List Chunk} {w:World} (hM:Models C ρ H w) (k:Nat):Holds ρ w k (lookH H k):=by
 cases hc:lookH H k with
 | none=>trivial
 | _=>rw [← hc]; exact hM.holds k _ (lookH_some rfl (by rw [hc]; simp))
theorem opP_run {C:Ctx} {ρ:Env} {st:St} {o:Oper} {w:World} {K:Tok→SV→List Chunk→Prop} {next:Act→World→Prop} {Q:Exit→Act→World→Prop}
  (hF:WideF F) (hT:tab.Ok P) (hkn:P.know C.w0 C.X) (h:opP P tab st.t st.h o.op K) (hM:Models C ρ st.h w) (hok:okS st.h.length st.t) (hn:Onward C ρ st o.dst (K .mk) next) :
  o.wpIn F n P (act ρ st) w next Q:=by
 refine ⟨fun f _=>hF.fn f,?_⟩
 unfold opP at h
 split at h
 ·rename_i op g args tys hop
  rw [Oper.semAt_eq F.round _ o (by simp [hop])]
  split at h
  ·rename_i f first cap hg
   have hoe:=ok_ev st.t g hok
   rw [hg] at hoe
   simp only [ok] at hoe
   have hargs:okL st.h.length (first++args.map (ev st.t)++cap):=okL_append.2 ⟨okL_append.2 ⟨hoe.1,okL_map_ev hok args⟩,hoe.2⟩
   have hrun:(execOp (act ρ st).eval o).run P w = (callFunc f (denL ρ (first++args.map (ev st.t)++cap)).toArray).run P w:=by
    unfold execOp
    simp only [hop,resolve,act_eval ρ st hok,hg,den,Deferred.ofValue,Sem.run_bind,Sem.run_pure,Result.andThen_ok,invoke]
    congr 2
    simp only [denL_append,denL_map_ev ρ st hok]
    apply Array.ext'
    simp
   rw [hrun]
   rcases h C ρ w hkn hM hargs with hg' | ⟨he,hc⟩
   ·exact goes_upon hok hg' hn
   ·rw [he]
    simp only [Oper.uponIn]
    refine ⟨fun hd=>absurd hd (by rw [hF.depth]; simp),?_⟩
    have:=hc { F with round:=none } (n - 1) ⟨hF.fn,hF.depth⟩ rfl
    have h2:CallsIn F (n - 1) P f (denL ρ (first++args.map (ev st.t)++cap)).toArray w (Ret C st.h ρ (K .mk)):=this
    refine CallsIn.mono h2 ?_
    rintro e w' ⟨ρ',sv,h',rfl,hK,hM',ha,hs,hl⟩
    simp only
    rw [act_next hok ha o.dst sv h']
    exact hn ρ' sv h' w' hK hM' ha hs hl
  ·exact h.elim
 ·exact h.elim
 ·rename_i op hnc hnd
  rw [Oper.semAt_eq F.round _ o (fun c hc=>hnd c hc)]
  split at h
  ·rename_i p v hq
   obtain ⟨h1,h2⟩:=qv_run hT hq h.1 ρ hok w (fun k _=>lookH_holds hM k) (lookH_good hM)
   rw [h1]
   simp only [Oper.uponIn]
   rw [act_put]
   exact hn ρ v st.h w h.2 hM (fun _ _=>rfl) h2 (Nat.le_refl _)
  ·exact goes_upon hok (ef_run hT h hM hok) hn
theorem put_same (ρ:Env) (t:Slots) (d:Nat) (b:Bool) (h:slot t d = .bool b):tmpsD ρ (putS t d (.bool b)) = tmpsD ρ t:=by
 unfold tmpsD
 rw [n_put]
 apply List.map_congr_left
 intro i hi
 rw [List.mem_range] at hi
 rw [slot_put _ _ _ _ hi]
 split
 ·rename_i hd; subst hd; rw [h]
 ·rfl
theorem yielded_look {ρ:Env} {st:St} {m:Nat} (hok:okS m st.t) {j d:Nat} {oj:Oper} (hj:ops[j]? = some oj) (hd:oj.dst = some d) :
  yielded ops (act ρ st).tmps j = match den ρ (slot st.t d) with | .bool b=>some b | _=>none:=by
 unfold yielded
 simp only [hj,Option.bind_some,hd,act]
 have h1:=tmpsD_get ρ hok d
 rw [← h1]
 simp only [List.getElem?_toArray]
 cases hx:(tmpsD ρ st.t)[d]? with
 | none=>simp [undef]
 | some x=>cases x <;> simp
theorem gd_run {ρ:Env} {st:St} {o:Oper} {yes no:Slots→Prop} {R:Prop} (h:gd ops st.t o.guard yes no) (hok:okS st.h.length st.t)
  (hy:∀ t,yes t→tmpsD ρ t = tmpsD ρ st.t→okS st.h.length t→Region.wanted o (yielded ops (act ρ st).tmps) = true→R)
  (hno:∀ t,no t→tmpsD ρ t = tmpsD ρ st.t→okS st.h.length t→Region.wanted o (yielded ops (act ρ st).tmps) = false→R):R:=by
 unfold gd at h
 split at h
 ·rename_i hg
  exact hy _ h rfl hok (by simp [Region.wanted,hg])
 ·rename_i j want hg
  split at h
  ·exact h.elim
  ·rename_i oj hj
   split at h
   ·exact h.elim
   ·rename_i d hd
    have hyl:=yielded_look (ops:=ops) (ρ:=ρ) (st:=st) hok hj hd
    split at h
    ·rename_i b hb
     rw [hb] at hyl
     simp only [den] at hyl
     by_cases hbw:b = want
     ·subst hbw
      exact hy _ (h.1 rfl) (put_same ρ st.t d b hb) (okS_put hok trivial) (by simp [Region.wanted,hg,hyl])
     ·have hbw':b = !want:=by cases b <;> cases want <;> simp_all
      refine hno _ (h.2 hbw') ?_ (okS_put hok trivial) ?_
      ·rw [← hbw']; exact put_same ρ st.t d b hb
      ·subst hbw'
       simp only [Region.wanted,hg,hyl]
       cases want <;> rfl
    ·rename_i hb
     rw [hb] at hyl
     exact hno _ h.2 rfl hok (by simp only [Region.wanted,hg,hyl]; simp [den])
    ·exact h.elim
theorem rn_run (hF:WideF F) (hT:tab.Ok P) {C:Ctx} (hkn:P.know C.w0 C.X) {d:List Deferred} {K:Tok→Slots→List Chunk→Prop} {Q:Exit→Act→World→Prop}
  (hQ:∀ ρ t h w,K .mk t h→Models C ρ h w→okS h.length t→Q .normal (act ρ ⟨t,h,d⟩) w) :
  ∀ (l:List Oper) (t:Slots) (h:List Chunk),rn .mk P tab ops l t h K→∀ ρ w,Models C ρ h w→okS h.length t→wpListIn F n P ops Q l (act ρ ⟨t,h,d⟩) w
 | [],t,h,hr,ρ,w,hM,hok=>hQ ρ t h w hr hM hok
 | o :: l,t,h,hr,ρ,w,hM,hok=>by
  simp only [rn] at hr
  simp only [wpListIn]
  refine gd_run (ρ:=ρ) (st:=⟨t,h,d⟩) hr hok ?_ ?_
  ·intro t' hy he hok' hw
   rw [if_pos hw]
   have e:act ρ ⟨t,h,d⟩ = act ρ ⟨t',h,d⟩:=by simp only [act,he]
   rw [e]
   refine opP_run (st:=⟨t',h,d⟩) hF hT hkn hy hM hok' ?_
   intro ρ' sv h' w' hK hM' ha hs hl
   exact rn_run hF hT hkn hQ l _ h' hK ρ' w' hM' (okS_putO (okS_mono hl hok') hs)
  ·intro t' hno he hok' hw
   rw [if_neg (by rw [hw]; simp)]
   have e:act ρ ⟨t,h,d⟩ = act ρ ⟨t',h,d⟩:=by simp only [act,he]
   rw [e,show (undef:Value) = den ρ (.tup []) from rfl,act_put]
   exact ⟨fun f _=>hF.fn f,rn_run hF hT hkn hQ l _ h hno ρ w hM (okS_putO hok' trivial)⟩
end
end Go.Sx
set_option linter.all false
namespace Go.Sx
open Go.RowKit
variable {P:Pr}
def setB (L:Array Bool) (i:Nat):Array Bool:=L.setIfInBounds i true
def freeB (ops:Array Oper) (L:Array Bool) (i:Nat):Bool :=
 match ops[i]? with
 | none=>false
 | some oi=>(List.range ops.size).all fun j=>j == i || L.getD j true || match ops[j]? with
  | none=>true
  | some oj=>(oj.after.any fun e=>Region.binds .any e && e.on == i) || oi.apart ops oj
def heldB (ops:Array Oper) (L:Array Bool) (i:Nat):Bool:=(List.range ops.size).all fun j=>!(L.getD j false) || !(waits .any ops j i)
def plainB (ops:Array Oper):Bool:=ops.toList.all fun o=>match o.op with
 | .select ..=>false
 | .defer _=>false
 | _=>true
def planOk (ops:Array Oper) (es:List Nat):Plan→Nat→Array Bool→Bool
 | .nil,_,L=>(Region.ready .any ops L).isEmpty
 | .q i p,fuel+1,L=>!es.contains i && (Region.ready .any ops L).contains i && freeB ops L i && heldB ops L i && planOk ops es p fuel (setB L i)
 | .e1 i ws p,fuel+1,L=>(ws.all fun k=>waits .any ops i k) && es.contains i && (Region.ready .any ops L == [i]) && planOk ops es p fuel (setB L i)
 | .e2 i ws p j ws' p',fuel+1,L=>(ws.all fun k=>waits .any ops i k) && (ws'.all fun k=>waits .any ops j k) && es.contains i && es.contains j && (Region.ready .any ops L == [i,j]) && planOk ops es p fuel (setB L i) && planOk ops es p' fuel (setB L j)
 | _,0,_=>false
def effs:Plan→List Nat
 | .nil=>[]
 | .q _ p=>effs p
 | .e1 i _ p=>i :: effs p
 | .e2 i _ _ j _ p'=>i :: j :: effs p'
def planFit (ops:Array Oper) (p:Plan):Bool:=plainB ops && planOk ops (effs p) p ops.size (Array.replicate ops.size false)
section
variable {F:Fence} {n:Nat} {ops:Array Oper} {tab:Tab}
theorem freeB_spec {L:Array Bool} {i:Nat} {oi:Oper} (hi:ops[i]? = some oi) (h:freeB ops L i = true) (j:Nat) (oj:Oper) (hj:ops[j]? = some oj) (hji:j ≠ i) (hun:L.getD j true = false)
  (hno:∀ e ∈ oj.after,Region.binds .any e = true→e.on ≠ i):oi.apart ops oj = true:=by
 unfold freeB at h
 rw [hi] at h
 simp only [List.all_eq_true,List.mem_range] at h
 have hlt:j < ops.size:=(Array.getElem?_eq_some_iff.1 hj).1
 have h1:=h j hlt
 rw [hj,hun] at h1
 simp only [Bool.or_false,Bool.or_eq_true,beq_iff_eq] at h1
 rcases h1 with h1 | h1 | h1
 ·exact absurd h1 hji
 ·obtain ⟨e,he,hb⟩:=Array.any_eq_true'.1 h1
  simp only [Bool.and_eq_true,beq_iff_eq] at hb
  exact absurd hb.2 (hno e he hb.1)
 ·exact h1
theorem heldB_spec {L:Array Bool} {i:Nat} (h:heldB ops L i = true) (j:Nat) (hj:L.getD j false = true):waits .any ops j i = false:=by
 unfold heldB at h
 simp only [List.all_eq_true,List.mem_range] at h
 rcases Nat.lt_or_ge j ops.size with hlt | hge
 ·have:=h j hlt
  rw [hj] at this
  simpa using this
 ·unfold waits
  rw [Array.getElem?_eq_none (by omega)]
def Track (ops:Array Oper) (es:List Nat) (Fa:Facts) (L:Array Bool) (rd:List (Nat × List Nat)) (ρ:Env) (h:List Chunk):Prop :=
 ∀ p ∈ Fa,(∃ j,L.getD j false = true∧es.contains j = true∧waits .any ops j p.1 = true) ∨ (∀ w',p.2 w') ∨
  (∃ ns,(p.1,ns) ∈ rd∧∀ w',(∀ nm ∈ ns,Holds ρ w' nm (lookH h nm))→p.2 w')
theorem Track.alive {es:List Nat} {Fa:Facts} {L:Array Bool} {rd:List (Nat × List Nat)} {C:Ctx} {ρ:Env} {h:List Chunk} {w:World} (ht:Track ops es Fa L rd ρ h) (hM:Models C ρ h w) :
  Alive .any ops (es.contains ·) Fa L w:=fun p hp hl=>by
 rcases ht p hp with ⟨j,h1,h2,h3⟩ | h1 | ⟨ns,_,h2⟩
 ·rw [hl j h1 h2] at h3; cases h3
 ·exact h1 w
 ·exact h2 w fun nm _=>lookH_holds hM nm
theorem Track.set {es:List Nat} {Fa:Facts} {L:Array Bool} {rd:List (Nat × List Nat)} {ρ:Env} {h:List Chunk} (ht:Track ops es Fa L rd ρ h) (i:Nat):Track ops es Fa (setB L i) rd ρ h:=fun p hp=>by
 rcases ht p hp with ⟨j,h1,h2⟩ | h1
 ·exact .inl ⟨j,getD_set_true h1,h2⟩
 ·exact .inr h1
theorem same1_mem {h h':List Chunk}:∀ {ns:List Nat},same1 h h' ns→∀ nm ∈ ns,lookH h' nm = lookH h nm
 | [],_,_,hm=>by cases hm
 | x :: ns,hs,nm,hm=>by
  simp only [same1] at hs
  rcases List.mem_cons.1 hm with rfl | hm'
  ·exact hs.1
  ·exact same1_mem hs.2 nm hm'
theorem inL_mem:∀ {ws:List Nat} {k:Nat},inL ws k = true→k ∈ ws
 | [],_,h=>by simp [inL] at h
 | x :: ws,k,h=>by
  simp only [inL] at h
  split at h
  ·rename_i hx; subst hx; exact List.mem_cons_self ..
  ·exact List.mem_cons_of_mem _ (inL_mem h)
theorem stays_mem {ws:List Nat} {h h':List Chunk}:∀ {rd:List (Nat × List Nat)} {k:Nat} {ns:List Nat},stays ws h h' rd→(k,ns) ∈ rd→k ∈ ws ∨ ∀ nm ∈ ns,lookH h' nm = lookH h nm
 | [],_,_,_,hm=>by cases hm
 | (k',[]) :: rd,k,ns,hs,hm=>by
  simp only [stays] at hs
  rcases List.mem_cons.1 hm with heq | hm'
  ·obtain ⟨rfl,rfl⟩:=Prod.mk.inj heq
   exact .inr fun nm hnm=>by cases hnm
  ·exact stays_mem hs hm'
 | (k',n1 :: ns') :: rd,k,ns,hs,hm=>by
  simp only [stays] at hs
  rcases List.mem_cons.1 hm with heq | hm'
  ·obtain ⟨rfl,rfl⟩:=Prod.mk.inj heq
   cases hw:inL ws k with
   | true=>exact .inl (inL_mem hw)
   | false=>rw [hw] at hs; exact .inr (same1_mem hs.1)
  ·exact stays_mem hs.2 hm'
theorem Track.eff {es:List Nat} {Fa:Facts} {L:Array Bool} {rd:List (Nat × List Nat)} {C:Ctx} {ρ ρ':Env} {h h':List Chunk} {w:World} (ht:Track ops es Fa L rd ρ h) (hM:Models C ρ h w) (ha:Agree h.length ρ ρ')
  {i:Nat} {ws:List Nat} (hws:(ws.all fun k=>waits .any ops i k) = true) (hi:i < L.size) (hei:es.contains i = true) (hs:stays ws h h' rd):Track ops es Fa (setB L i) rd ρ' h':=fun p hp=>by
 rcases ht p hp with ⟨j,h1,h2⟩ | h1 | ⟨ns,h1,h2⟩
 ·exact .inl ⟨j,getD_set_true h1,h2⟩
 ·exact .inr (.inl h1)
 ·rcases stays_mem hs h1 with h3 | h3
  ·refine .inl ⟨i,?_,hei,List.all_eq_true.1 hws _ h3⟩
   simp [setB,hi]
  ·refine .inr (.inr ⟨ns,h1,fun w' hw=>h2 w' fun nm hnm=>?_⟩)
   have h4:=hw nm hnm
   rw [h3 nm hnm] at h4
   have hg:=lookH_good hM nm
   cases hc:lookH h nm with
   | none=>trivial
   | _ =>
    rw [← hc]
    have hlt:nm < h.length:=get_lt (lookH_some rfl (by rw [hc]; simp))
    exact holds_agree (n:=h.length) (fun k hk=>(ha k hk).symm) hlt hg h4
variable {C:Ctx} {d:List Deferred} {K:Tok→Slots→List Chunk→Prop} {Q:Exit→Act→World→Prop}
theorem rp_eff (hF:WideF F) (hT:tab.Ok P) (hkn:P.know C.w0 C.X) {es:List Nat} {i:Nat} {o:Oper} (ho:ops[i]? = some o) {Fa:Facts} {L:Array Bool} (hL:L.size = ops.size) {ws:List Nat} (hws:(ws.all fun k=>waits .any ops i k) = true) (hei:es.contains i = true)
  {rd:List (Nat × List Nat)} {t:Slots} {h:List Chunk} {ρ:Env} {w:World} {K1:Tok→Slots→List Chunk→Prop} {N:Act→World→Prop}
  (hg:gd ops t o.guard (fun t=>opP P tab t h o.op fun k v h'=>stays ws h h' rd∧K1 k (putO t o.dst v) h') (fun t=>K1 .mk (putO t o.dst (.tup [])) h))
  (hM:Models C ρ h w) (hok:okS h.length t) (ht:Track ops es Fa L rd ρ h)
  (hN:∀ ρ' t' h' w',K1 .mk t' h'→Models C ρ' h' w'→okS h'.length t'→Track ops es Fa (setB L i) rd ρ' h'→N (act ρ' ⟨t',h',d⟩) w') :
  wpOpIn F n P ops Q i N (act ρ ⟨t,h,d⟩) w:=by
 unfold wpOpIn
 simp only [ho]
 have hlt:i < L.size:=by rw [hL]; exact (Array.getElem?_eq_some_iff.1 ho).1
 refine gd_run (ρ:=ρ) (st:=⟨t,h,d⟩) hg hok ?_ ?_
 ·intro t' hy he hok' hw
  rw [if_pos hw]
  have e:act ρ ⟨t,h,d⟩ = act ρ ⟨t',h,d⟩:=by simp only [act,he]
  rw [e]
  refine opP_run (st:=⟨t',h,d⟩) hF hT hkn hy hM hok' ?_
  intro ρ' sv h' w' hK hM' ha hs hl
  exact hN ρ' _ h' w' hK.2 hM' (okS_putO (okS_mono hl hok') hs) (ht.eff hM ha hws hlt hei hK.1)
 ·intro t' hno he hok' hw
  rw [if_neg (by rw [hw]; simp)]
  have e:act ρ ⟨t,h,d⟩ = act ρ ⟨t',h,d⟩:=by simp only [act,he]
  rw [e,show (undef:Value) = den ρ (.tup []) from rfl,act_put]
  exact ⟨fun f _=>hF.fn f,hN ρ _ h w hno hM (okS_putO hok' trivial) (ht.set i)⟩
theorem rp_run (hF:WideF F) (hT:tab.Ok P) (hkn:P.know C.w0 C.X) (hP:plainB ops = true) {es:List Nat}
  (hQ:∀ ρ t h w,K .mk t h→Models C ρ h w→okS h.length t→Q .normal (act ρ ⟨t,h,d⟩) w) (hQp:∀ c a w,¬ Q (.panic c) a w) :
  ∀ (p:Plan) (fuel:Nat) (L:Array Bool) (rd:List (Nat × List Nat)) (t:Slots) (h:List Chunk) (Fa:Facts) (ρ:Env) (w:World),Cl .any ops L→L.size = ops.size→planOk ops es p fuel L = true→rp .mk P tab ops p rd t h K →
   Models C ρ h w→okS h.length t→Track ops es Fa L rd ρ h→wpAnyG F n P .any ops Q (es.contains ·) Fa fuel L (act ρ ⟨t,h,d⟩) w:=by
 have hsel:∀ (j:Nat) (o:Oper) cs b,ops[j]? = some o→o.op ≠ .select cs b:=fun j o cs b hj hx=>by
  have:=List.all_eq_true.1 hP o (by simpa using Array.mem_of_getElem? hj)
  rw [hx] at this
  cases this
 have hdef:∀ (j:Nat) (o:Oper) c,ops[j]? = some o→o.op ≠ .defer c:=fun j o c hj hx=>by
  have:=List.all_eq_true.1 hP o (by simpa using Array.mem_of_getElem? hj)
  rw [hx] at this
  cases this
 intro p
 induction p with
 | nil =>
  intro fuel L rd t h Fa ρ w hcl hL hp hr hM hok ht
  have hre:Region.ready .any ops L = []:=by
   cases fuel <;> simpa [planOk] using hp
  have hq:=hQ ρ t h w hr hM hok
  cases fuel with
  | zero=>exact ⟨hre,hq⟩
  | succ fuel=>exact ⟨fun _=>hq,fun i hi=>by rw [hre] at hi; cases hi⟩
 | q i p ih =>
  intro fuel L rd t h Fa ρ w hcl hL hp hr hM hok ht
  cases fuel with
  | zero=>simp [planOk] at hp
  | succ fuel =>
   simp only [planOk,Bool.and_eq_true,Bool.not_eq_true'] at hp
   obtain ⟨⟨⟨⟨h1,h2⟩,h3⟩,h4⟩,h5⟩:=hp
   simp only [rp] at hr
   split at hr
   ·rename_i o ho
    have hready:i ∈ Region.ready .any ops L:=by simpa using h2
    refine gd_run (ρ:=ρ) (st:=⟨t,h,d⟩) hr hok ?_ ?_
    ·intro t' hy he hok' hw
     have e:act ρ ⟨t,h,d⟩ = act ρ ⟨t',h,d⟩:=by simp only [act,he]
     rw [e] at hw ⊢
     split at hy
     ·rename_i c v hq
      have hyl:YieldsG P ops (fun w'=>∀ nm ∈ qn t' o.op,Holds ρ w' nm (lookH h nm)) o (den ρ v) (act ρ ⟨t',h,d⟩) :=
       ⟨fun c=>hdef i o c ho,.inl ⟨hw,fun w' hw'=>(qv_run hT (st:=⟨t',h,d⟩) hq hy.1 ρ hok' w' hw' (lookH_good hM)).1⟩⟩
      refine wpAnyG_first hF ho hsel hdef h1 (fun c a w hx=>absurd hx (hQp _ _ _)) fuel L _ w hcl (fun j oj hj hji hun hno=>freeB_spec ho h3 j oj hj hji hun hno) (heldB_spec h4) hready hyl (fun nm _=>lookH_holds hM nm) (ht.alive hM) ?_
      rw [act_put]
      refine ih fuel (setB L i) _ _ h _ ρ w (cl_set hcl hready) (by simp [setB,hL]) h5 hy.2 hM (okS_putO hok' (qv_run hT (st:=⟨t',h,d⟩) hq hy.1 ρ hok' w (fun nm _=>lookH_holds hM nm) (lookH_good hM)).2) ?_
      intro q hq'
      rcases List.mem_cons.1 hq' with rfl | hq'
      ·exact .inr (.inr ⟨_,List.mem_cons_self ..,fun _ hx=>hx⟩)
      ·rcases ht q hq' with ⟨j,g1,g2⟩ | g1 | ⟨ns,g1,g2⟩
       ·exact .inl ⟨j,getD_set_true g1,g2⟩
       ·exact .inr (.inl g1)
       ·exact .inr (.inr ⟨ns,List.mem_cons_of_mem _ g1,g2⟩)
     ·exact hy.elim
    ·intro t' hno he hok' hw
     have e:act ρ ⟨t,h,d⟩ = act ρ ⟨t',h,d⟩:=by simp only [act,he]
     rw [e] at hw ⊢
     have hyl:YieldsG P ops (fun _=>True) o undef (act ρ ⟨t',h,d⟩):=⟨fun c=>hdef i o c ho,.inr ⟨hw,rfl⟩⟩
     refine wpAnyG_first hF ho hsel hdef h1 (fun c a w hx=>absurd hx (hQp _ _ _)) fuel L _ w hcl (fun j oj hj hji hun hno=>freeB_spec ho h3 j oj hj hji hun hno) (heldB_spec h4) hready hyl trivial (ht.alive hM) ?_
     rw [show (undef:Value) = den ρ (.tup []) from rfl,act_put]
     refine ih fuel (setB L i) _ _ h _ ρ w (cl_set hcl hready) (by simp [setB,hL]) h5 hno hM (okS_putO hok' trivial) ?_
     intro q hq'
     rcases List.mem_cons.1 hq' with rfl | hq'
     ·exact .inr (.inl fun _=>trivial)
     ·exact ht.set i q hq'
   ·exact hr.elim
 | e1 i ws p ih =>
  intro fuel L rd t h Fa ρ w hcl hL hp hr hM hok ht
  cases fuel with
  | zero=>simp [planOk] at hp
  | succ fuel =>
   simp only [planOk,Bool.and_eq_true,beq_iff_eq] at hp
   obtain ⟨⟨⟨h0,h1⟩,h2⟩,h5⟩:=hp
   simp only [rp] at hr
   split at hr
   ·rename_i o ho
    refine ⟨fun hx=>by (rw [h2] at hx; cases hx),fun j hj=>?_⟩
    have hcl':=cl_set hcl hj
    rw [h2,List.mem_singleton] at hj
    subst hj
    refine rp_eff (K1:=fun k t h=>rp k P tab ops p rd t h K) hF hT hkn ho hL h0 h1 hr hM hok ht ?_
    intro ρ' t' h' w' hk hM' hok' ht'
    exact ⟨ht'.alive hM',ih fuel (setB L j) rd t' h' Fa ρ' w' hcl' (by simp [setB,hL]) h5 hk hM' hok' ht'⟩
   ·exact hr.elim
 | e2 i ws p j ws' p' ih ih' =>
  intro fuel L rd t h Fa ρ w hcl hL hp hr hM hok ht
  cases fuel with
  | zero=>simp [planOk] at hp
  | succ fuel =>
   simp only [planOk,Bool.and_eq_true,beq_iff_eq] at hp
   obtain ⟨⟨⟨⟨⟨⟨h0,h0'⟩,h1⟩,h1'⟩,h2⟩,h5⟩,h5'⟩:=hp
   simp only [rp] at hr
   obtain ⟨hr,hr'⟩:=hr
   refine ⟨fun hx=>by (rw [h2] at hx; cases hx),fun k hk=>?_⟩
   have hcl':=cl_set hcl hk
   rw [h2] at hk
   simp only [List.mem_cons,List.not_mem_nil,or_false] at hk
   rcases hk with rfl | rfl
   ·split at hr
    ·rename_i o ho
     refine rp_eff (K1:=fun k t h=>rp k P tab ops p rd t h K) hF hT hkn ho hL h0 h1 hr hM hok ht ?_
     intro ρ' t' h' w' hk hM' hok' ht'
     exact ⟨ht'.alive hM',ih fuel _ rd t' h' Fa ρ' w' hcl' (by simp [setB,hL]) h5 hk hM' hok' ht'⟩
    ·exact hr.elim
   ·split at hr'
    ·rename_i o ho
     refine rp_eff (K1:=fun k t h=>rp k P tab ops p' rd t h K) hF hT hkn ho hL h0' h1' hr' hM hok ht ?_
     intro ρ' t' h' w' hk hM' hok' ht'
     exact ⟨ht'.alive hM',ih' fuel _ rd t' h' Fa ρ' w' hcl' (by simp [setB,hL]) h5' hk hM' hok' ht'⟩
    ·exact hr'.elim
end
end Go.Sx
set_option linter.all false
namespace Go.Sx
open Go.RowKit
variable {P:Pr}
def QK (C:Ctx) (N:Tok→St→Prop) (E:Tok→Exit→St→Prop) (e:Exit) (a:Act) (w:World):Prop :=
 ∃ ρ st,(match e with | .normal=>N .mk st | e=>E .mk e st)∧Models C ρ st.h w∧okS st.h.length st.t∧a = act ρ st
def codeP (P:Pr) (nf:Nat) (c:Code) (st:St) (N:Tok→St→Prop) (E:Tok→Exit→St→Prop):Prop :=
 ∀ (C:Ctx) (ρ:Env) (w:World) (F:Fence) (n:Nat),WideF F→C.n0≤nf→P.know C.w0 C.X→Models C ρ st.h w→okS st.h.length st.t→c.wpIn F n P (QK C N E) (act ρ st) w
def vc (k:Tok) (P:Pr) (tab:Tab) (nf:Nat) (pl:Nat→Plan):Code→St→(Tok→St→Prop)→(Tok→Exit→St→Prop)→Prop
 | .skip,st,N,_=>N .mk st
 | .label _,st,N,_=>N .mk st
 | .region _ ops false,st,N,_=>rn k P tab ops ops.toList st.t st.h fun k t h=>N k ⟨t,h,st.d⟩
 | .region id ops true,st,N,_=>rp k P tab ops (pl id) [] st.t st.h fun k t h=>N k ⟨t,h,st.d⟩
 | .seq a b,st,N,E=>vc k P tab nf pl a st (fun k st=>vc k P tab nf pl b st N E) E
 | .cond c a b,st,N,E=>match ev st.t c with
  | .bool x=>imp (x = true) (vc k P tab nf pl a st N E)∧imp (x = false) (vc k P tab nf pl b st N E)
  | _=>False
 | .block id c,st,N,E=>vc k P tab nf pl c st N fun k e st=>match e with
  | .exit j=>if j = id then N k st else E k (.exit j) st
  | e=>E k e st
 | .exit id,st,_,E=>E .mk (.exit id) st
 | .ret,st,_,E=>E .mk .ret st
 | .loop c,st,N,E=>codeP P nf (.loop c) st N E
 | .rangeFunc f ps a b,st,N,E=>codeP P nf (.rangeFunc f ps a b) st N E
 | _,_,_,_=>False
def fits (pl:Nat→Plan):Code→Bool
 | .region id ops true=>planFit ops (pl id)
 | .seq a b=>fits pl a && fits pl b
 | .cond _ a b=>fits pl a && fits pl b
 | .block _ c=>fits pl c
 | .loop c=>fits pl c
 | .rangeFunc _ _ a b=>fits pl a && fits pl b
 | .scope c=>fits pl c
 | _=>true
section
variable {F:Fence} {n:Nat} {tab:Tab} {nf:Nat} {pl:Nat→Plan}
theorem vc_run (hT:tab.Ok P) (hm:P.p.follows .mixedOrders = true) {C:Ctx} (hC:C.n0≤nf) (hkn:P.know C.w0 C.X) (hF:WideF F) :
  ∀ (c:Code) (st:St) (N:Tok→St→Prop) (E:Tok→Exit→St→Prop),fits pl c = true→vc .mk P tab nf pl c st N E→∀ ρ w,Models C ρ st.h w→okS st.h.length st.t→c.wpIn F n P (QK C N E) (act ρ st) w:=by
 intro c
 induction c with
 | skip=>intro st N E _ h ρ w hM hok; exact wpIn_skip ⟨ρ,st,h,hM,hok,rfl⟩
 | label l=>intro st N E _ h ρ w hM hok; exact wpIn_label ⟨ρ,st,h,hM,hok,rfl⟩
 | exit id=>intro st N E _ h ρ w hM hok; exact wpIn_exit ⟨ρ,st,h,hM,hok,rfl⟩
 | ret=>intro st N E _ h ρ w hM hok; exact wpIn_ret ⟨ρ,st,h,hM,hok,rfl⟩
 | region id ops draw =>
  intro st N E hf h ρ w hM hok
  have hmono:∀ e a w,(e = Exit.normal∧∃ ρ t h,N .mk ⟨t,h,st.d⟩∧Models C ρ h w∧okS h.length t∧a = act ρ ⟨t,h,st.d⟩)→QK C N E e a w:=by
   rintro e a w ⟨rfl,ρ,t,h,h1,h2,h3,h4⟩
   exact ⟨ρ,_,h1,h2,h3,h4⟩
  cases draw with
  | false =>
   refine Code.wpIn_mono (fun e a w=>hmono e a w) (wpIn_region_list ?_)
   exact rn_run hF hT hkn (K:=fun k t h=>N k ⟨t,h,st.d⟩) (C:=C) (fun ρ t h w hK hM hok=>⟨rfl,ρ,t,h,hK,hM,hok,rfl⟩) _ _ _ h ρ w hM hok
  | true =>
   refine Code.wpIn_mono (fun e a w=>hmono e a w) (wpIn_region_any hm ?_)
   have hf':planFit ops (pl id) = true:=hf
   unfold planFit at hf'
   rw [Bool.and_eq_true] at hf'
   have hM':Models C ρ st.h { w with drawn:=w.drawn+1 }:=hM.same ⟨rfl,rfl,rfl,Nat.le_refl _,fun _ _ _=>rfl⟩
   exact wpAnyIn_of_G _ _ _ _ (rp_run hF hT hkn hf'.1 (K:=fun k t h=>N k ⟨t,h,st.d⟩) (C:=C) (fun ρ t h w hK hM hok=>⟨rfl,ρ,t,h,hK,hM,hok,rfl⟩) (fun c a w hx=>by cases hx.1) (pl id) _ _ [] _ _ [] ρ _ (cl_none _) (by simp) hf'.2 h hM' hok
    (fun p hp=>by cases hp))
 | seq a b iha ihb =>
  intro st N E hf h ρ w hM hok
  simp only [fits,Bool.and_eq_true] at hf
  refine wpIn_seq (Code.wpIn_mono ?_ (iha st _ E hf.1 h ρ w hM hok))
  rintro e a w ⟨ρ',st',hq,hM',hok',rfl⟩
  cases e with
  | normal=>exact ihb st' N E hf.2 hq ρ' w hM' hok'
  | _=>exact ⟨ρ',st',hq,hM',hok',rfl⟩
 | cond c a b iha ihb =>
  intro st N E hf h ρ w hM hok
  simp only [fits,Bool.and_eq_true] at hf
  simp only [vc] at h
  split at h
  ·rename_i x hx
   refine wpIn_cond_split (t:=x) (by rw [act_eval ρ st hok,hx]; rfl) (fun ht=>iha st N E hf.1 (h.1 ht) ρ w hM hok) (fun ht=>ihb st N E hf.2 (h.2 ht) ρ w hM hok)
  ·exact h.elim
 | block id c ih =>
  intro st N E hf h ρ w hM hok
  refine wpIn_block (Code.wpIn_mono ?_ (ih st N _ hf h ρ w hM hok))
  rintro e a w ⟨ρ',st',hq,hM',hok',rfl⟩
  cases e with
  | exit j =>
   simp only at hq
   simp only [Exit.inBlock]
   split
   ·rename_i hj; rw [if_pos hj] at hq; exact ⟨ρ',st',hq,hM',hok',rfl⟩
   ·rename_i hj; rw [if_neg hj] at hq; exact ⟨ρ',st',hq,hM',hok',rfl⟩
  | _=>exact ⟨ρ',st',hq,hM',hok',rfl⟩
 | loop c ih=>intro st N E hf h ρ w hM hok; exact h C ρ w F n hF hC hkn hM hok
 | rangeFunc f ps a b iha ihb=>intro st N E hf h ρ w hM hok; exact h C ρ w F n hF hC hkn hM hok
 | _=>intro st N E hf h; exact h.elim
end
def resS (tab:Tab) (t:Slots) (h:List Chunk) (K:List SV→Prop):List ResultVar→Prop
 | []=>K []
 | .tmp i :: r=>resS tab t h (fun l=>K (slot t i :: l)) r
 | .cell a ty :: r=>match tab ty with
  | some e=>match ldS h e (slot t a) with
   | some (p,v)=>p∧resS tab t h (fun l=>K (v :: l)) r
   | none=>False
  | none=>False
def tupS:List SV→SV
 | [v]=>v
 | l=>.tup l
theorem resS_run {tab:Tab} (hT:tab.Ok P) {C:Ctx} {ρ:Env} {h:List Chunk} {w:World} (hM:Models C ρ h w) {t:Slots} (hok:okS h.length t) :
  ∀ (rs:List ResultVar) (K:List SV→Prop),resS tab t h K rs→∃ l,K l∧okL h.length l ∧
   ((rs.mapM fun | .tmp i=>pure (((tmpsD ρ t).toArray).getD i undef) | .cell a ty=>do loadVar ty (← asAddr (((tmpsD ρ t).toArray).getD a undef)):Sem (List Value))).run P w = .ok (denL ρ l) w
 | [],K,h=>⟨[],h,trivial,by simp [denL]⟩
 | .tmp i :: rs,K,h=>by
  obtain ⟨l,h1,h2,h3⟩:=resS_run hT hM hok rs _ h
  refine ⟨slot t i :: l,h1,⟨ok_slot t i hok,h2⟩,?_⟩
  rw [List.mapM_cons]
  have e1:((tmpsD ρ t).toArray).getD i undef = den ρ (slot t i):=by
   rw [← tmpsD_get ρ hok]; simp [Array.getD_eq_getD_getElem?]
  simp only [Sem.run_bind,Sem.run_pure,Result.andThen_ok,h3,e1,denL]
 | .cell a ty :: rs,K,h=>by
  simp only [resS] at h
  split at h
  ·rename_i e he
   split at h
   ·rename_i p v hl
    obtain ⟨l,h1,h2,h3⟩:=resS_run hT hM hok rs _ h.2
    obtain ⟨q1,q2⟩:=ldS_run (hT _ _ he) (ρ:=ρ) (w:=w) (n:=_) (fun k _=>lookH_holds hM k) (lookH_good hM) hl h.1
    refine ⟨v :: l,h1,⟨q2,h2⟩,?_⟩
    rw [List.mapM_cons]
    have e1:((tmpsD ρ t).toArray).getD a undef = den ρ (slot t a):=by
     rw [← tmpsD_get ρ hok]; simp [Array.getD_eq_getD_getElem?]
    have q3:(do loadVar ty (← asAddr (den ρ (slot t a))):Sem Value).run P w = .ok (den ρ v) w:=by
     revert q1
     generalize den ρ (slot t a) = x
     intro q1
     cases x with
     | pointer o =>
      cases o with
      | none=>simp [Instr.loadAt,Instr.sureAddr,stuck,Sem.run] at q1
      | some a=>simpa [Instr.loadAt,Instr.sureAddr,asAddr] using q1
     | _=>simp [Instr.loadAt,Instr.sureAddr,stuck,Sem.run] at q1
    simp only [e1,Sem.run_bind] at q3 ⊢
    rw [q3]
    simp only [Result.andThen_ok,h3,Sem.run_pure,denL]
   ·exact h.elim
  ·exact h.elim
theorem results_run {tab:Tab} (hT:tab.Ok P) {C:Ctx} {ρ:Env} {h:List Chunk} {w:World} (hM:Models C ρ h w) {t:Slots} (hok:okS h.length t) {fn:Func} {K:SV→Prop}
  (hr:resS tab t h (fun l=>K (tupS l)) fn.results.toList):∃ v,K v∧ok h.length v∧(results fn (tmpsD ρ t).toArray).run P w = .ok (den ρ v) w:=by
 obtain ⟨l,h1,h2,h3⟩:=resS_run hT hM hok _ _ hr
 refine ⟨tupS l,h1,?_,?_⟩
 ·match l,h2 with
  | [],_=>trivial
  | [v],h2=>exact h2.1
  | a :: b :: l,h2=>exact h2
 ·unfold results
  rw [Array.mapM_eq_mapM_toList,map_eq_pure_bind]
  simp only [Sem.run_bind] at h3 ⊢
  erw [h3]
  simp only [Result.andThen_ok,Sem.run_pure]
  match l,h2 with
  | [],_=>rfl
  | [v],h2=>rfl
  | a :: b :: l,h2 =>
   have hne:¬ (denL ρ (a :: b :: l)).toArray.size = 1:=by simp [denL]
   rw [dif_neg hne]
   rfl
end Go.Sx
set_option linter.all false
namespace Go.Sx
open Go.RowKit
variable {P:Pr}
def rg:List (Option Nat)→Nat→Option Nat
 | [],_=>none
 | x :: _,0=>x
 | _ :: r,k+1=>rg r k
mutual
def rnm (g:Nat→Option Nat):SV→SV
 | .ptr nm b=>match g nm with | some k=>.ptr k b | none=>.v (.pointer (some ⟨0,0+b,none⟩))
 | .pix nm b i s j=>match g nm with | some k=>.pix k b i s j | none=>.v (.pointer (some ⟨0,0+b+i * s+j,none⟩))
 | .sl nm b e s len cap=>match g nm with | some k=>.sl k b e s len cap | none=>.v (.slice (some ⟨0,0+b+e * s,none⟩) len cap)
 | .osl nm d e s n=>match g nm with | some k=>.osl k d e s n | none=>.v (.slice none n (0 - e))
 | .mp nm=>match g nm with | some k=>.mp k | none=>.v (.map (some 0))
 | .agg l=>.agg (rnmL g l)
 | .fam n s f=>.fam n s fun i=>rnm g (f i)
 | .tup l=>.tup (rnmL g l)
 | .fn f a c=>.fn f (rnmL g a) (rnmL g c)
 | x=>x
def rnmL (g:Nat→Option Nat):List SV→List SV
 | []=>[]
 | x :: l=>rnm g x :: rnmL g l
end
def viaG (ρ:Env) (g:Nat→Option Nat):Env:=fun k=>match g k with | some k0=>ρ k0 | none=>⟨0,0,0,true,none⟩
mutual
theorem den_rnm (ρ:Env) (g:Nat→Option Nat):∀ x:SV,den (viaG ρ g) x = den ρ (rnm g x)
 | .v _ | .int .. | .bool _ | .str _=>rfl
 | .ptr nm b | .pix nm b i s j | .sl nm b e s len cap | .mp nm=>by
  simp only [rnm,den,viaG]
  cases g nm <;> simp [den]
 | .osl nm d e s n=>by
  cases hg:g nm with
  | none =>
   have hv:viaG ρ g nm = ⟨0,0,0,true,none⟩:=by simp [viaG,hg]
   simp only [rnm,den,hg,hv,cond_true]
  | some k =>
   have hv:viaG ρ g nm = ρ k:=by simp [viaG,hg]
   simp only [rnm,den,hg,hv]
 | .agg l=>by simp only [rnm,den,denC_rnm ρ g l]
 | .fam n s f=>by
  simp only [rnm,den]
  rw [flatMap_congr' _ _ n fun i _=>by rw [den_rnm ρ g (f i)]]
 | .tup l=>by simp only [rnm,den,denL_rnm ρ g l]
 | .fn f a c=>by simp only [rnm,den,denL_rnm ρ g a,denL_rnm ρ g c]
theorem denC_rnm (ρ:Env) (g:Nat→Option Nat):∀ l:List SV,denC (viaG ρ g) l = denC ρ (rnmL g l)
 | []=>rfl
 | x :: l=>by simp only [rnmL,denC,den_rnm ρ g x,denC_rnm ρ g l]
theorem denL_rnm (ρ:Env) (g:Nat→Option Nat):∀ l:List SV,denL (viaG ρ g) l = denL ρ (rnmL g l)
 | []=>rfl
 | x :: l=>by simp only [rnmL,denL,den_rnm ρ g x,denL_rnm ρ g l]
end
mutual
def eqv:SV→SV→Prop
 | .agg l,y=>match y with | .agg l'=>eqvL l l' | .fam n _ f=>l.length = n∧eqvF l f | _=>False
 | .fam n s f,y=>match y with | .fam n' s' f'=>n = n'∧s = s'∧∀ i,i < n→eqv (f i) (f' i) | _=>False
 | .tup l,y=>match y with | .tup l'=>eqvL l l' | _=>False
 | .fn f a c,y=>match y with | .fn f' a' c'=>f = f'∧eqvL a a'∧eqvL c c' | _=>False
 | x,y=>x = y
def eqvL:List SV→List SV→Prop
 | [],y=>y = []
 | x :: l,y=>match y with | x' :: l'=>eqv x x'∧eqvL l l' | []=>False
def eqvF:List SV→(Nat→SV)→Prop
 | [],_=>True
 | x :: l,f=>eqv x (f 0)∧eqvF l fun i=>f (i+1)
end
mutual
theorem eqv_den (ρ:Env):∀ x y:SV,eqv x y→den ρ x = den ρ y
 | .agg l,y,h=>by
  cases y <;> simp only [eqv] at h
  ·simp only [den,(eqvL_den ρ l _ h).1]
  ·obtain ⟨rfl,h⟩:=h
   simp only [den,eqvF_den ρ l _ h]
 | .fam n s f,y,h=>by
  cases y <;> simp only [eqv] at h
  obtain ⟨rfl,rfl,h⟩:=h
  simp only [den]
  rw [flatMap_congr' _ _ n fun i hi=>by rw [eqv_den ρ (f i) _ (h i hi)]]
 | .tup l,y,h=>by
  cases y <;> simp only [eqv] at h
  simp only [den,(eqvL_den ρ l _ h).2]
 | .fn f a c,y,h=>by
  cases y <;> simp only [eqv] at h
  obtain ⟨rfl,h1,h2⟩:=h
  simp only [den,(eqvL_den ρ a _ h1).2,(eqvL_den ρ c _ h2).2]
 | .v _,y,h | .int ..,y,h | .bool _,y,h | .str _,y,h | .ptr ..,y,h | .pix ..,y,h | .sl ..,y,h | .osl ..,y,h | .mp _,y,h=>by
  simp only [eqv] at h
  subst h
  rfl
theorem eqvL_den (ρ:Env):∀ l l':List SV,eqvL l l'→denC ρ l = denC ρ l'∧denL ρ l = denL ρ l'
 | [],l',h=>by simp only [eqvL] at h; subst h; exact ⟨rfl,rfl⟩
 | x :: l,l',h=>by
  cases l' with
  | nil=>simp only [eqvL] at h
  | cons x' l' =>
   simp only [eqvL] at h
   obtain ⟨h1,h2⟩:=eqvL_den ρ l l' h.2
   simp only [denC,denL,eqv_den ρ x x' h.1,h1,h2]
   exact ⟨trivial,trivial⟩
theorem eqvF_den (ρ:Env):∀ (l:List SV) (f:Nat→SV),eqvF l f→denC ρ l = (List.range l.length).flatMap fun i=>(den ρ (f i)).cells.toList
 | [],f,_=>rfl
 | x :: l,f,h=>by
  simp only [eqvF] at h
  rw [List.length_cons,List.range_succ_eq_map,List.flatMap_cons,denC,eqv_den ρ x _ h.1,eqvF_den ρ l _ h.2,List.flatMap_map]
end
mutual
theorem rnm_fix {g:Nat→Option Nat} {n:Nat} (hg:∀ k,k < n→g k = some k):∀ x:SV,ok n x→eqv x (rnm g x)
 | .v _,_ | .int ..,_ | .bool _,_ | .str _,_=>by simp only [rnm,eqv]
 | .ptr nm _,h | .pix nm ..,h | .sl nm ..,h | .osl nm ..,h | .mp nm,h=>by
  simp only [ok] at h
  simp only [rnm,hg nm h,eqv]
 | .agg l,h=>by simp only [ok] at h; simp only [rnm,eqv]; exact rnmL_fix hg l h
 | .fam k s f,h=>by simp only [ok] at h; simp only [rnm,eqv]; exact ⟨trivial,trivial,fun i hi=>rnm_fix hg (f i) (h i hi).2⟩
 | .tup l,h=>by simp only [ok] at h; simp only [rnm,eqv]; exact rnmL_fix hg l h
 | .fn f a c,h=>by simp only [ok] at h; simp only [rnm,eqv]; exact ⟨trivial,rnmL_fix hg a h.1,rnmL_fix hg c h.2⟩
theorem rnmL_fix {g:Nat→Option Nat} {n:Nat} (hg:∀ k,k < n→g k = some k):∀ l:List SV,okL n l→eqvL l (rnmL g l)
 | [],_=>by simp only [rnmL,eqvL]
 | x :: l,h=>by simp only [okL] at h; simp only [rnmL,eqvL]; exact ⟨rnm_fix hg x h.1,rnmL_fix hg l h.2⟩
end
def chEq (g:Nat→Option Nat) (c c':Chunk):Prop :=
 match c' with
 | .none=>True
 | .cells wr' fs'=>match c with
  | .cells wr fs=>(wr' = true→wr = true)∧eqvL fs (rnmL g fs')
  | _=>False
 | .row wr' n' s' f'=>match c with
  | .row wr n s f=>(wr' = true→wr = true)∧n = n'∧s = s'∧∀ i,i < n'→eqv (f i) (rnm g (f' i))
  | _=>False
 | .map n' key' val' born' clock'=>match c with
  | .map n key val born clock=>n = n'∧clock = clock'∧∀ i,i < n'→eqv (key i) (rnm g (key' i))∧eqv (val i) (rnm g (val' i))∧born i = born' i
  | _=>False
 | .rmap n' key' val' born' clock'=>match c with
  | .rmap n key val born clock=>n = n'∧clock = clock'∧∀ i,i < n'→eqv (key i) (rnm g (key' i))∧eqv (val i) (rnm g (val' i))∧born i = born' i
  | _=>False
 | .iter m' since' seen' st'=>match c with
  | .iter m since seen st=>since = since'∧seen = seen'∧st = st'∧eqv m (rnm g m')
  | _=>False
theorem chEq_holds {ρ:Env} {w:World} {g:Nat→Option Nat} {c c':Chunk} {k k0:Nat} (h:chEq g c c') (hg:g k = some k0) (hh:Holds ρ w k0 c):Holds (viaG ρ g) w k c':=by
 have hv:viaG ρ g k = ρ k0:=by simp [viaG,hg]
 unfold chEq at h
 split at h
 ·trivial
 ·split at h
  ·rename_i wr' fs' _ wr fs
   have e:denC (viaG ρ g) fs' = denC ρ fs:=by rw [denC_rnm,(eqvL_den ρ _ _ h.2).1]
   simp only [Holds,hv,e] at hh ⊢
   exact ⟨hh.1,hh.2.1,fun hw=>hh.2.2 (h.1 hw)⟩
  ·exact h.elim
 ·split at h
  ·rename_i wr' n' s' f' _ wr n s f
   obtain ⟨h1,rfl,rfl,h4⟩:=h
   have e:den (viaG ρ g) (.fam n s f') = den ρ (.fam n s f):=by
    simp only [den]
    rw [flatMap_congr' _ _ n fun i hi=>by rw [den_rnm,← eqv_den ρ _ _ (h4 i hi)]]
   simp only [Holds,hv,e] at hh ⊢
   split at hh
   ·rename_i hn; rw [if_pos hn]; exact ⟨hh.1,hh.2.1,fun hw=>hh.2.2 (h1 hw)⟩
   ·rename_i hn; rw [if_neg hn]; exact ⟨hh.1,hh.2.1,fun hw=>hh.2.2 (h1 hw)⟩
  ·exact h.elim
 ·split at h
  ·rename_i n' key' val' born' clock' _ n key val born clock
   obtain ⟨rfl,rfl,h4⟩:=h
   have e:mapObj (viaG ρ g) n key' val' born' clock = mapObj ρ n key val born clock:=by
    unfold mapObj
    congr 2
    apply List.map_congr_left
    intro i hi
    rw [List.mem_range] at hi
    obtain ⟨q1,q2,q3⟩:=h4 i hi
    rw [den_rnm,den_rnm,← eqv_den ρ _ _ q1,← eqv_den ρ _ _ q2,q3]
   simp only [Holds,hv,e] at hh ⊢
   exact hh
  ·exact h.elim
 ·split at h
  ·rename_i n' key' val' born' clock' _ n key val born clock
   obtain ⟨rfl,rfl,h4⟩:=h
   have e:mapObj (viaG ρ g) n key' val' born' clock = mapObj ρ n key val born clock:=by
    unfold mapObj
    congr 2
    apply List.map_congr_left
    intro i hi
    rw [List.mem_range] at hi
    obtain ⟨q1,q2,q3⟩:=h4 i hi
    rw [den_rnm,den_rnm,← eqv_den ρ _ _ q1,← eqv_den ρ _ _ q2,q3]
   simp only [Holds,hv,e] at hh ⊢
   exact hh
  ·exact h.elim
 ·split at h
  ·rename_i m' since' seen' st' _ m since seen st
   obtain ⟨rfl,rfl,rfl,h4⟩:=h
   simp only [Holds,hv,den_rnm,← eqv_den ρ _ _ h4] at hh ⊢
   exact hh
  ·exact h.elim
theorem chEq_live {g:Nat→Option Nat} {c c':Chunk} (h:chEq g c c') (hl:c'.live = true):c.live = true:=by
 unfold chEq at h
 split at h
 ·cases hl
 all_goals
  split at h
  ·rfl
  ·exact h.elim
theorem chEq_wr {g:Nat→Option Nat} {c c':Chunk} (h:chEq g c c') (hl:c'.wr = true):c.wr = true:=by
 unfold chEq at h
 split at h
 ·cases hl
 ·split at h
  ·exact h.1 hl
  ·exact h.elim
 ·split at h
  ·exact h.1 hl
  ·exact h.elim
 ·split at h
  ·rfl
  ·exact h.elim
 ·cases hl
 ·split at h
  ·rfl
  ·exact h.elim
def renH (g:Nat→Option Nat) (h:List Chunk):Nat→List Chunk→Prop
 | _,[]=>True
 | k,c :: r=>(match g k with
   | some k0=>chEq g (lookH h k0) c
   | none=>match c with
    | .none=>True
    | .row _ n _ _=>n = 0
    | _=>False)∧renH g h (k+1) r
theorem renH_get {g:Nat→Option Nat} {h:List Chunk}:∀ {H:List Chunk} {j k:Nat} {c:Chunk},renH g h j H→H[k]? = some c →
  (match g (j+k) with
   | some k0=>chEq g (lookH h k0) c
   | none=>match c with
    | .none=>True
    | .row _ n _ _=>n = 0
    | _=>False)
 | [],_,_,_,_,hc=>by simp at hc
 | c0 :: H,j,0,c,hr,hc=>by
  simp only [List.getElem?_cons_zero,Option.some.injEq] at hc
  subst hc
  exact hr.1
 | c0 :: H,j,k+1,c,hr,hc=>by
  have:=renH_get (j:=j+1) (k:=k) hr.2 (by simpa using hc)
  rw [show j+(k+1) = j+1+k from by omega]
  exact this
def liveN (g:Nat→Option Nat):Nat→List Chunk→List Nat
 | _,[]=>[]
 | k,c :: r=>match c.live,g k with
  | true,some k0=>k0 :: liveN g (k+1) r
  | _,_=>liveN g (k+1) r
theorem liveN_mem {g:Nat→Option Nat}:∀ {H:List Chunk} {j k k0:Nat} {c:Chunk},H[k]? = some c→c.live = true→g (j+k) = some k0→k0 ∈ liveN g j H
 | [],_,_,_,_,hc,_,_=>by simp at hc
 | c0 :: H,j,0,k0,c,hc,hl,hg=>by
  simp only [List.getElem?_cons_zero,Option.some.injEq] at hc
  subst hc
  simp only [liveN,hl]
  rw [show g j = some k0 from hg]
  exact List.mem_cons_self ..
 | c0 :: H,j,k+1,k0,c,hc,hl,hg=>by
  have:=liveN_mem (g:=g) (H:=H) (j:=j+1) (k:=k) (k0:=k0) (c:=c) (by simpa using hc) hl (by rw [← hg]; congr 1; omega)
  simp only [liveN]
  split
  ·exact List.mem_cons_of_mem _ this
  ·exact this
theorem liveN_inj {g:Nat→Option Nat}:∀ {H:List Chunk} {j k k' k0:Nat} {c c':Chunk},(liveN g j H).Nodup→H[k]? = some c→H[k']? = some c'→c.live = true→c'.live = true→g (j+k) = some k0→g (j+k') = some k0→k = k'
 | [],_,_,_,_,_,_,_,hc,_,_,_,_,_=>by simp at hc
 | c0 :: H,j,0,0,_,_,_,_,_,_,_,_,_,_=>rfl
 | c0 :: H,j,0,k'+1,k0,c,c',hn,hc,hc',hl,hl',hg,hg'=>by
  simp only [List.getElem?_cons_zero,Option.some.injEq] at hc
  subst hc
  simp only [liveN,hl] at hn
  rw [show g j = some k0 from hg] at hn
  have:=liveN_mem (g:=g) (H:=H) (j:=j+1) (k:=k') (k0:=k0) (c:=c') (by simpa using hc') hl' (by rw [← hg']; congr 1; omega)
  exact absurd this (List.nodup_cons.1 hn).1
 | c0 :: H,j,k+1,0,k0,c,c',hn,hc,hc',hl,hl',hg,hg'=>by
  simp only [List.getElem?_cons_zero,Option.some.injEq] at hc'
  subst hc'
  simp only [liveN,hl'] at hn
  rw [show g j = some k0 from hg'] at hn
  have:=liveN_mem (g:=g) (H:=H) (j:=j+1) (k:=k) (k0:=k0) (c:=c) (by simpa using hc) hl (by rw [← hg]; congr 1; omega)
  exact absurd this (List.nodup_cons.1 hn).1
 | c0 :: H,j,k+1,k'+1,k0,c,c',hn,hc,hc',hl,hl',hg,hg'=>by
  have hn':(liveN g (j+1) H).Nodup:=by
   simp only [liveN] at hn
   split at hn
   ·exact (List.nodup_cons.1 hn).2
   ·exact hn
  have:=liveN_inj (g:=g) (H:=H) (j:=j+1) (k:=k) (k':=k') (k0:=k0) (c:=c) (c':=c') hn' (by simpa using hc) (by simpa using hc') hl hl' (by rw [← hg]; congr 1; omega) (by rw [← hg']; congr 1; omega)
  omega
theorem lookH_get {H:List Chunk} {k:Nat} (hl:(lookH H k).live = true):H[k]? = some (lookH H k):=lookH_some rfl (by intro hx; rw [hx] at hl; cases hl)
theorem Models.rename {C:Ctx} {ρ:Env} {h H:List Chunk} {w:World} (hM:Models C ρ h w) {g:Nat→Option Nat} {nf:Nat} (hnf:C.n0≤nf) (hfix:∀ k,k < nf→g k = some k) (hle:nf≤H.length)
  (hr:renH g h 0 H) (hn:(liveN g 0 H).Nodup) (hgd:∀ (k:Nat) (c:Chunk),H[k]? = some c→c.good H.length):Models C (viaG ρ g) H w:=by
 have hreal:∀ k c,H[k]? = some c→Real (viaG ρ g) k c→∃ k0,g k = some k0∧chEq g (lookH h k0) c∧Real ρ k0 (lookH h k0):=by
  intro k c hc hR
  have h1:=renH_get hr hc
  rw [Nat.zero_add] at h1
  cases hg:g k with
  | none=>simp [Real,viaG,hg] at hR
  | some k0 =>
   rw [hg] at h1
   refine ⟨k0,rfl,h1,chEq_live h1 hR.1,?_⟩
   have:=hR.2
   simpa [viaG,hg] using this
 refine ⟨hM.keep,?_,Nat.le_trans hnf hle,?_,hgd,?_,?_,?_⟩
 ·intro k hk
  simp only [viaG,hfix k (by omega)]
  exact hM.agree k hk
 ·intro k c hc
  have h1:=renH_get hr hc
  rw [Nat.zero_add] at h1
  cases hg:g k with
  | none =>
   rw [hg] at h1
   have hv:viaG ρ g k = ⟨0,0,0,true,none⟩:=by simp [viaG,hg]
   cases c with
   | none=>trivial
   | row wr n s f=>simp only [Holds,hv]; simp only at h1; simp [h1]
   | _=>exact h1.elim
  | some k0 =>
   rw [hg] at h1
   exact chEq_holds h1 hg (lookH_holds hM k0)
 ·intro k c hc hR
  obtain ⟨k0,hg,h1,h2⟩:=hreal k c hc hR
  have:=hM.size k0 _ (lookH_get h2.1) h2
  simpa [viaG,hg] using this
 ·intro k c hc hR
  obtain ⟨k0,hg,h1,h2⟩:=hreal k c hc hR.real
  have:=hM.wr k0 _ (lookH_get h2.1) ⟨chEq_wr h1 hR.1,h2.2⟩
  simpa [viaG,hg] using this
 ·intro k k' c c' hc hc' hne hR hR'
  obtain ⟨k0,hg,h1,h2⟩:=hreal k c hc hR.real
  obtain ⟨k0',hg',h1',h2'⟩:=hreal k' c' hc' hR'
  have hne':k0 ≠ k0':=by
   rintro rfl
   exact hne (liveN_inj hn hc hc' hR.real.1 hR'.1 (by rw [Nat.zero_add]; exact hg) (by rw [Nat.zero_add]; exact hg'))
  have:=hM.sep k0 k0' _ _ (lookH_get h2.1) (lookH_get h2'.1) hne' ⟨chEq_wr h1 hR.1,h2.2⟩ h2'
  simpa [viaG,hg,hg'] using this
def renT (g:Nat→Option Nat) (t:Slots):List (Nat × SV)→Prop
 | []=>True
 | (i,v) :: T=>(eqv (slot t i) (rnm g v)∧i < t.n)∧renT g t T
def okT (n:Nat):List (Nat × SV)→Prop
 | []=>True
 | (_,v) :: T=>ok n v∧okT n T
theorem okT_E {m:Nat} {g:Nat→Option Nat} {t:Slots}:∀ (T:List (Nat × SV)),okT m T→renT g t T→okE m t.n T
 | [],_,_=>trivial
 | (i,v) :: T,h,h'=>by
  simp only [okT] at h
  simp only [renT] at h'
  exact ⟨⟨h'.1.2,h.1⟩,okT_E T h.2 h'.2⟩
theorem renT_slot {ρ:Env} {g:Nat→Option Nat} {t:Slots} {j:Nat→Value} {i:Nat} (hj:j i = den ρ (slot t i)):∀ (T:List (Nat × SV)),renT g t T→den (viaG ρ g) (lkL T j i) = den ρ (slot t i)
 | [],_=>by simp only [lkL,den,hj]
 | (k,v) :: T,h=>by
  simp only [renT] at h
  simp only [lkL]
  split
  ·rename_i hk; subst hk; rw [den_rnm,← eqv_den ρ _ _ h.1.1]
  ·exact renT_slot hj T h.2
def Into (nf:Nat) (st:St) (J:St→Prop):Prop :=
 ∀ (C:Ctx) (ρ:Env) (w:World),C.n0≤nf→Models C ρ st.h w→okS st.h.length st.t →
  ∃ ρ' st',J st'∧Models C ρ' st'.h w∧okS st'.h.length st'.t∧act ρ st = act ρ' st'
theorem into_refl {nf:Nat} {st:St} {J:St→Prop} (h:J st):Into nf st J:=fun _ ρ _ _ hM hok=>⟨ρ,st,h,hM,hok,rfl⟩
def goodH (n:Nat):List Chunk→Prop
 | []=>True
 | c :: r=>c.good n∧goodH n r
theorem goodH_get {n:Nat}:∀ {H:List Chunk} {k:Nat} {c:Chunk},goodH n H→H[k]? = some c→c.good n
 | [],_,_,_,hc=>by simp at hc
 | c0 :: H,0,c,h,hc=>by simp at hc; subst hc; exact h.1
 | c0 :: H,k+1,c,h,hc=>goodH_get (k:=k) h.2 (by simpa using hc)
def fixed (g:Nat→Option Nat):Nat→Prop
 | 0=>True
 | n+1=>g n = some n∧fixed g n
theorem fixed_spec {g:Nat→Option Nat}:∀ {n:Nat},fixed g n→∀ k,k < n→g k = some k
 | n+1,h,k,hk=>by
  rcases Nat.lt_succ_iff_lt_or_eq.1 hk with h1 | rfl
  ·exact fixed_spec h.2 k h1
  ·exact h.1
theorem into_mk {nf n:Nat} {l:List (Nat × SV)} {j0:Nat→Value} {h:List Chunk} {d:List Deferred} {J:St→Prop} (r:List (Option Nat)) (T:List (Nat × SV)) (H:List Chunk)
  (hfix:fixed (rg r) nf) (hle:nf≤H.length) (hr:renH (rg r) h 0 H) (hn:(liveN (rg r) 0 H).Nodup) (hg:goodH H.length H) (ht:renT (rg r) ⟨n,l,j0⟩ T) (ho:okT H.length T)
  (hJ:∀ j,J ⟨⟨n,T,j⟩,H,d⟩):Into nf ⟨⟨n,l,j0⟩,h,d⟩ J:=fun C ρ w hC hM hok=>by
 refine ⟨viaG ρ (rg r),⟨⟨n,T,fun i=>if i < n then den ρ (slot ⟨n,l,j0⟩ i) else undef⟩,H,d⟩,hJ _,hM.rename hC (fixed_spec hfix) hle hr hn (fun k c hc=>goodH_get hg hc),⟨fun i hi=>if_neg (by simp only at hi; omega),okT_E (t:=⟨n,l,j0⟩) T ho ht⟩,?_⟩
 have e:tmpsD ρ ⟨n,l,j0⟩ = tmpsD (viaG ρ (rg r)) ⟨n,T,fun i=>if i < n then den ρ (slot ⟨n,l,j0⟩ i) else undef⟩:=by
  unfold tmpsD
  apply List.map_congr_left
  intro i hi
  rw [List.mem_range] at hi
  exact (renT_slot (t:=⟨n,l,j0⟩) (if_pos hi) T ht).symm
 simp only [act,e]
section
variable {tab:Tab} {nf:Nat} {pl:Nat→Plan}
theorem codeP_loop (hT:tab.Ok P) (hm:P.p.follows .mixedOrders = true) {c:Code} (hfit:fits pl c = true) {st:St} {N:Tok→St→Prop} {E:Tok→Exit→St→Prop} (I:Nat→St→Prop)
  (h0:Into nf st (fun s=>∃ n,I n s)) (hr:∀ n s,I n s→vc .mk P tab nf pl c s (fun _ s'=>Into nf s' (fun s''=>∃ m,m < n∧I m s'')) fun k e s'=>e ≠ .normal∧E k e s'):codeP P nf (.loop c) st N E:=by
 intro C ρ w F n hF hC hkn hM hok
 obtain ⟨ρ',st',⟨n0,hI⟩,hM',hok',he⟩:=h0 C ρ w hC hM hok
 rw [he]
 refine wpIn_loop_ghost (fun n a w=>∃ ρ st,I n st∧Models C ρ st.h w∧okS st.h.length st.t∧a = act ρ st) n0 ⟨ρ',st',hI,hM',hok',rfl⟩ ?_
 rintro k a w ⟨ρ1,s1,hI1,hM1,hok1,rfl⟩
 refine Code.wpIn_mono ?_ (vc_run hT hm hC hkn hF c s1 _ _ hfit (hr k s1 hI1) ρ1 w hM1 hok1)
 rintro e a w ⟨ρ2,s2,hq,hM2,hok2,rfl⟩
 cases e with
 | normal =>
  obtain ⟨ρ3,s3,⟨m,hlt,hI3⟩,hM3,hok3,he3⟩:=hq C ρ2 w hC hM2 hok2
  exact ⟨m,hlt,ρ3,s3,hI3,hM3,hok3,he3⟩
 | exit id=>exact ⟨ρ2,s2,hq.2,hM2,hok2,rfl⟩
 | goto id=>exact ⟨ρ2,s2,hq.2,hM2,hok2,rfl⟩
 | ret=>exact ⟨ρ2,s2,hq.2,hM2,hok2,rfl⟩
 | panic id=>exact ⟨ρ2,s2,hq.2,hM2,hok2,rfl⟩
 | outgrown=>exact ⟨ρ2,s2,hq.2,hM2,hok2,rfl⟩
theorem codeP_seq (hT:tab.Ok P) (hm:P.p.follows .mixedOrders = true) {a b:Code} (hfa:fits pl a = true) {st:St} {N:Tok→St→Prop} {E:Tok→Exit→St→Prop} (J:St→Prop)
  (ha:vc .mk P tab nf pl a st (fun _ s=>Into nf s J) fun k e s=>e ≠ .normal∧E k e s) (hb:∀ s,J s→codeP P nf b s N E):codeP P nf (.seq a b) st N E:=by
 intro C ρ w F n hF hC hkn hM hok
 refine wpIn_seq (Code.wpIn_mono ?_ (vc_run hT hm hC hkn hF a st _ _ hfa ha ρ w hM hok))
 rintro e a w ⟨ρ',st',hq,hM',hok',rfl⟩
 cases e with
 | normal =>
  obtain ⟨ρ3,s3,hJ,hM3,hok3,he3⟩:=hq C ρ' w hC hM' hok'
  rw [he3]
  exact hb s3 hJ C ρ3 w F n hF hC hkn hM3 hok3
 | exit id=>exact ⟨ρ',st',hq.2,hM',hok',rfl⟩
 | goto id=>exact ⟨ρ',st',hq.2,hM',hok',rfl⟩
 | ret=>exact ⟨ρ',st',hq.2,hM',hok',rfl⟩
 | panic id=>exact ⟨ρ',st',hq.2,hM',hok',rfl⟩
 | outgrown=>exact ⟨ρ',st',hq.2,hM',hok',rfl⟩
theorem codeP_of_vc (hT:tab.Ok P) (hm:P.p.follows .mixedOrders = true) {c:Code} (hf:fits pl c = true) {st:St} {N:Tok→St→Prop} {E:Tok→Exit→St→Prop} (h:vc .mk P tab nf pl c st N E):codeP P nf c st N E :=
 fun C ρ w F n hF hC hkn hM hok=>vc_run hT hm hC hkn hF c st N E hf h ρ w hM hok
end
end Go.Sx
set_option linter.all false
namespace Go.Sx
open Go.RowKit
variable {P:Pr}
theorem GoesOp.mono {C:Ctx} {h:List Chunk} {ρ:Env} {w:World} {r:Result Next} {K K':SV→List Chunk→Prop} (hg:GoesOp P C h ρ w r K) (hk:∀ v h',K v h'→K' v h'):GoesOp P C h ρ w r K':=by
 obtain ⟨w',ρ',sv,h',h1,h2,h3⟩:=hg
 exact ⟨w',ρ',sv,h',h1,hk _ _ h2,h3⟩
def nth:List Nat→Nat→Option Nat
 | [],_=>none
 | x :: _,0=>some x
 | _ :: r,k+1=>nth r k
def up (r:List Nat) (n:Nat) (k:Nat):Nat:=match nth r k with | some k0=>k0 | none=>n+(k - r.length)
def upG (r:List Nat) (n:Nat):Nat→Option Nat:=fun k=>some (up r n k)
def rnmC (g:Nat→Option Nat):Chunk→Chunk
 | .none=>.none
 | .cells wr fs=>.cells wr (rnmL g fs)
 | .row wr n s f=>.row wr n s fun i=>rnm g (f i)
 | .map n key val born clock=>.map n (fun i=>rnm g (key i)) (fun i=>rnm g (val i)) born clock
 | .rmap n key val born clock=>.rmap n (fun i=>rnm g (key i)) (fun i=>rnm g (val i)) born clock
 | .iter m since seen st=>.iter (rnm g m) since seen st
def lay (g:Nat→Option Nat):List Nat→List Chunk→List Chunk→List Chunk→List Chunk
 | k :: r,c0 :: hl,c :: cs,h=>lay g r hl cs (match c0.wr with | true=>putH h k (rnmC g c) | false=>h)
 | _,_,cs,h=>h++cs.map (rnmC g)
def wrs:List Nat→List Chunk→List Nat
 | k :: r,c :: hl=>match c.wr with | true=>k :: wrs r hl | false=>wrs r hl
 | _,_=>[]
def has (g:Nat→Option Nat) (h:List Chunk):List Nat→List Chunk→Prop
 | k :: r,c :: cs=>k < h.length∧chEq g (lookH h k) c∧has g h r cs
 | [],[]=>True
 | _,_=>False
def roOk:List Chunk→List Chunk→Prop
 | _ :: hl,c' :: hl'=>True∧roOk hl hl'
 | [],hl'=>∀ c ∈ hl',c.live = true→c.wr = true
 | _ :: _,[]=>False
theorem nth_get:∀ (r:List Nat) (k:Nat),nth r k = r[k]?
 | [],_=>by simp [nth]
 | x :: r,0=>by simp [nth]
 | x :: r,k+1=>by simpa [nth] using nth_get r k
theorem has_get {g:Nat→Option Nat} {h:List Chunk}:∀ {r:List Nat} {hl:List Chunk},has g h r hl→r.length = hl.length∧∀ (k k0:Nat) (c:Chunk),r[k]? = some k0→hl[k]? = some c→k0 < h.length∧chEq g (lookH h k0) c
 | [],[],_=>⟨rfl,fun k k0 c h1=>by simp at h1⟩
 | k :: r,c :: cs,hh=>by
  obtain ⟨h1,h2,h3⟩:=hh
  obtain ⟨q1,q2⟩:=has_get h3
  refine ⟨by simp [q1],fun j k0 c' hj hc=>?_⟩
  cases j with
  | zero=>simp at hj hc; subst hj hc; exact ⟨h1,h2⟩
  | succ j=>exact q2 j k0 c' (by simpa using hj) (by simpa using hc)
 | [],_ :: _,hh=>hh.elim
 | _ :: _,[],hh=>hh.elim
theorem lay_len {g:Nat→Option Nat}:∀ (r:List Nat) (hl cs h:List Chunk),r.length = hl.length→r.length≤cs.length→(lay g r hl cs h).length = h.length+(cs.length - r.length)
 | [],[],cs,h,_,_=>by simp [lay]
 | k :: r,[],_,_,he,_=>by simp at he
 | [],_ :: _,_,_,he,_=>by simp at he
 | k :: r,_ :: _,[],h,_,hl=>by simp at hl
 | k :: r,c0 :: hl,c :: cs,h,he,hl'=>by
  simp only [lay,List.length_cons] at hl' ⊢
  rw [lay_len r hl cs _ (by simpa using he) (by omega)]
  cases c0.wr <;> simp [putH_length]
theorem wrs_mem:∀ {r:List Nat} {hl:List Chunk} {k k0:Nat} {c:Chunk},r[k]? = some k0→hl[k]? = some c→c.wr = true→k0 ∈ wrs r hl
 | [],_,_,_,_,h,_,_=>by simp at h
 | _ :: _,[],_,_,_,_,h,_=>by simp at h
 | x :: r,c :: hl,0,k0,c',h1,h2,h3=>by
  simp at h1 h2
  subst h1 h2
  simp [wrs,h3]
 | x :: r,c :: hl,k+1,k0,c',h1,h2,h3=>by
  have:=wrs_mem (r:=r) (hl:=hl) (k:=k) (by simpa using h1) (by simpa using h2) h3
  simp only [wrs]
  split
  ·exact List.mem_cons_of_mem _ this
  ·exact this
theorem lay_get {g:Nat→Option Nat}:∀ (r:List Nat) (hl cs h:List Chunk) (k:Nat) (c:Chunk),r.length = hl.length→r.Nodup→(∀ x ∈ r,x < h.length)→r.length≤cs.length→(lay g r hl cs h)[k]? = some c →
  (k ∉ wrs r hl∧k < h.length∧h[k]? = some c) ∨ (∃ j,j < r.length∧r[j]? = some k∧∃ c0,cs[j]? = some c0∧c = rnmC g c0) ∨ (∃ j,r.length≤j∧k = h.length+(j - r.length)∧∃ c0,cs[j]? = some c0∧c = rnmC g c0)
 | [],[],cs,h,k,c,_,_,_,_,hc=>by
  simp only [lay] at hc
  rcases Nat.lt_or_ge k h.length with hlt | hge
  ·rw [List.getElem?_append_left hlt] at hc
   exact .inl ⟨by simp [wrs],hlt,hc⟩
  ·rw [List.getElem?_append_right hge,List.getElem?_map] at hc
   obtain ⟨c0,h1,h2⟩:=Option.map_eq_some_iff.1 hc
   exact .inr (.inr ⟨k - h.length,by simp,by simp; omega,c0,h1,h2.symm⟩)
 | [],_ :: _,_,_,_,_,he,_,_,_,_=>by simp at he
 | _ :: _,[],_,_,_,_,he,_,_,_,_=>by simp at he
 | k0 :: r,_ :: _,[],h,k,c,_,_,_,hl,_=>by simp at hl
 | k0 :: r,ci :: hl,c1 :: cs,h,k,c,he,hn,hb,hl',hc=>by
  simp only [lay] at hc
  obtain ⟨hn1,hn2⟩:=List.nodup_cons.1 hn
  cases hw:ci.wr with
  | true =>
   simp only [hw] at hc
   have hlen:=putH_length h k0 (rnmC g c1)
   rcases lay_get r hl cs _ k c (by simpa using he) hn2 (fun x hx=>by rw [hlen]; exact hb x (by simp [hx])) (by simpa using hl') hc with ⟨h1,h2,h3⟩ | ⟨j,h1,h2,c0,h3,h4⟩ | ⟨j,h1,h2,c0,h3,h4⟩
   ·rw [hlen] at h2
    rw [putH_get] at h3
    by_cases hk:k = k0
    ·subst hk
     rw [if_pos rfl,List.getElem?_eq_getElem h2] at h3
     simp at h3
     exact .inr (.inl ⟨0,by simp,by simp,c1,by simp,h3.symm⟩)
    ·rw [if_neg hk] at h3
     exact .inl ⟨by simp [wrs,hw,hk,h1],h2,h3⟩
   ·exact .inr (.inl ⟨j+1,by simp; omega,by simpa using h2,c0,by simpa using h3,h4⟩)
   ·refine .inr (.inr ⟨j+1,by simp; omega,?_,c0,by simpa using h3,h4⟩)
    rw [h2,hlen]
    simp only [List.length_cons]
    omega
  | false =>
   simp only [hw] at hc
   rcases lay_get r hl cs _ k c (by simpa using he) hn2 (fun x hx=>hb x (by simp [hx])) (by simpa using hl') hc with ⟨h1,h2,h3⟩ | ⟨j,h1,h2,c0,h3,h4⟩ | ⟨j,h1,h2,c0,h3,h4⟩
   ·exact .inl ⟨by simp [wrs,hw,h1],h2,h3⟩
   ·exact .inr (.inl ⟨j+1,by simp; omega,by simpa using h2,c0,by simpa using h3,h4⟩)
   ·refine .inr (.inr ⟨j+1,by simp; omega,?_,c0,by simpa using h3,h4⟩)
    rw [h2]
    simp only [List.length_cons]
    omega
mutual
theorem ok_rnm {n m:Nat} {g:Nat→Option Nat} (hg:∀ k,k < n→∃ k0,g k = some k0∧k0 < m):∀ x:SV,ok n x→sz (rnm g x) = sz x∧ok m (rnm g x)
 | .v _,_ | .int ..,_ | .bool _,_ | .str _,_=>⟨rfl,trivial⟩
 | .ptr nm b,h | .pix nm b i s j,h | .sl nm b e s len cap,h | .osl nm d e s n',h | .mp nm,h=>by
  obtain ⟨k0,h1,h2⟩:=hg nm h
  simp only [rnm,h1]
  exact ⟨rfl,h2⟩
 | .agg l,h=>by simp only [ok] at h; obtain ⟨h1,h2⟩:=okL_rnm hg l h; exact ⟨by simp only [rnm,sz,h1],by simpa only [rnm,ok] using h2⟩
 | .fam k s f,h=>by
  simp only [ok] at h
  refine ⟨rfl,?_⟩
  simp only [rnm,ok]
  intro i hi
  obtain ⟨h1,h2⟩:=ok_rnm hg (f i) (h i hi).2
  exact ⟨h1.trans (h i hi).1,h2⟩
 | .tup l,h=>by simp only [ok] at h; obtain ⟨h1,h2⟩:=okL_rnm hg l h; exact ⟨rfl,by simpa only [rnm,ok] using h2⟩
 | .fn f a c,h=>by
  simp only [ok] at h
  exact ⟨rfl,by simp only [rnm,ok]; exact ⟨(okL_rnm hg a h.1).2,(okL_rnm hg c h.2).2⟩⟩
theorem okL_rnm {n m:Nat} {g:Nat→Option Nat} (hg:∀ k,k < n→∃ k0,g k = some k0∧k0 < m):∀ l:List SV,okL n l→szL (rnmL g l) = szL l∧okL m (rnmL g l)
 | [],_=>⟨rfl,trivial⟩
 | x :: l,h=>by
  simp only [okL] at h
  obtain ⟨h1,h2⟩:=ok_rnm hg x h.1
  obtain ⟨h3,h4⟩:=okL_rnm hg l h.2
  exact ⟨by simp only [rnmL,szL,h1,h3],by simp only [rnmL,okL]; exact ⟨h2,h4⟩⟩
end
mutual
theorem stor_rnm {g:Nat→Option Nat}:∀ x:SV,stor x→stor (rnm g x)
 | .v _,h=>h
 | .int ..,_ | .bool _,_ | .str _,_=>trivial
 | .ptr nm b,h | .pix nm b i s j,h | .sl nm b e s len cap,h | .osl nm d e s n',h | .mp nm,h=>by
  simp only [rnm]
  cases g nm <;> first | trivial | rfl
 | .agg l,h=>by simp only [stor,rnm] at h ⊢; exact storL_rnm l h
 | .fam k s f,h=>by simp only [stor,rnm] at h ⊢; exact fun i hi=>stor_rnm (f i) (h i hi)
 | .tup l,h=>h.elim
 | .fn f a c,_=>trivial
theorem storL_rnm {g:Nat→Option Nat}:∀ l:List SV,storL l→storL (rnmL g l)
 | [],_=>trivial
 | x :: l,h=>by simp only [storL,rnmL] at h ⊢; exact ⟨stor_rnm x h.1,storL_rnm l h.2⟩
end
theorem good_rnm {n m:Nat} {g:Nat→Option Nat} (hg:∀ k,k < n→∃ k0,g k = some k0∧k0 < m) {c:Chunk} (h:c.good n):(rnmC g c).good m:=by
 cases c with
 | none=>trivial
 | cells wr fs=>exact ⟨(okL_rnm hg fs h.1).2,storL_rnm fs h.2⟩
 | row wr k s f=>exact ⟨(ok_rnm hg (.fam k s f) h.1).2,stor_rnm (.fam k s f) h.2⟩
 | map k key val born clock=>exact fun i hi=>⟨(ok_rnm hg _ (h i hi).1).2,(ok_rnm hg _ (h i hi).2).2⟩
 | rmap k key val born clock=>exact fun i hi=>⟨(ok_rnm hg _ (h i hi).1).2,(ok_rnm hg _ (h i hi).2).2⟩
 | iter m' since seen st=>exact (ok_rnm hg _ h).2
theorem live_rnm {g:Nat→Option Nat} (c:Chunk):(rnmC g c).live = c.live:=by cases c <;> rfl
theorem wr_rnm {g:Nat→Option Nat} (c:Chunk):(rnmC g c).wr = c.wr:=by cases c <;> rfl
theorem holds_rnm {ρ ρ':Env} {w:World} {g:Nat→Option Nat} {n:Nat} (hg:∀ j,j < n→ρ' j = viaG ρ g j) {k k0:Nat} {c:Chunk} (hk:k < n) (hgk:g k = some k0) (hc:c.good n) (hh:Holds ρ' w k c):Holds ρ w k0 (rnmC g c):=by
 have ha:Agree n ρ' (viaG ρ g):=fun j hj=>(hg j hj).symm
 have h1:=holds_agree ha hk hc hh
 have hv:viaG ρ g k = ρ k0:=by simp [viaG,hgk]
 cases c with
 | none=>trivial
 | cells wr fs=>simpa only [Holds,rnmC,hv,denC_rnm] using h1
 | row wr m s f =>
  have e:den (viaG ρ g) (.fam m s f) = den ρ (.fam m s fun i=>rnm g (f i)):=by
   rw [den_rnm]; rfl
  simpa only [Holds,rnmC,hv,e] using h1
 | map m key val born clock =>
  have e:mapObj (viaG ρ g) m key val born clock = mapObj ρ m (fun i=>rnm g (key i)) (fun i=>rnm g (val i)) born clock:=by
   unfold mapObj
   simp only [den_rnm]
  simpa only [Holds,rnmC,hv,e] using h1
 | rmap m key val born clock =>
  have e:mapObj (viaG ρ g) m key val born clock = mapObj ρ m (fun i=>rnm g (key i)) (fun i=>rnm g (val i)) born clock:=by
   unfold mapObj
   simp only [den_rnm]
  simpa only [Holds,rnmC,hv,e] using h1
 | iter m since seen st=>simpa only [Holds,rnmC,hv,den_rnm] using h1
theorem roOk_new:∀ {hl hl':List Chunk},roOk hl hl'→hl.length≤hl'.length∧∀ (j:Nat) (c:Chunk),hl.length≤j→hl'[j]? = some c→c.live = true→c.wr = true
 | [],hl',h=>⟨by simp,fun j c _ hc hl=>h c (List.mem_of_getElem? hc) hl⟩
 | _ :: hl,[],h=>h.elim
 | _ :: hl,c' :: hl',h=>by
  obtain ⟨h1,h2⟩:=roOk_new h.2
  refine ⟨by simp; omega,fun j c hj hc=>?_⟩
  cases j with
  | zero=>simp at hj
  | succ j=>exact h2 j c (by simp at hj; omega) (by simpa using hc)
def keepsLive:List Chunk→List Chunk→Prop
 | c :: hl,c' :: hl'=>(c'.live = true→c.live = true)∧keepsLive hl hl'
 | _,_=>True
theorem keepsLive_get:∀ {hl hl':List Chunk} {j:Nat} {c':Chunk},keepsLive hl hl'→j < hl.length→hl'[j]? = some c'→c'.live = true→∃ c,hl[j]? = some c∧c.live = true
 | [],_,j,_,_,hj,_,_=>by simp at hj
 | c :: hl,[],j,_,_,_,hc,_=>by simp at hc
 | c :: hl,c1 :: hl',0,c',h,hj,hc,hl1=>by
  simp at hc
  subst hc
  exact ⟨c,by simp,h.1 hl1⟩
 | c :: hl,c1 :: hl',j+1,c',h,hj,hc,hl1=>by
  obtain ⟨c0,h1,h2⟩:=keepsLive_get (j:=j) h.2 (by simpa using hj) (by simpa using hc) hl1
  exact ⟨c0,by simpa using h1,h2⟩
theorem viaG_up {ρ:Env} {r:List Nat} {n k k0:Nat} (h:r[k]? = some k0):viaG ρ (upG r n) k = ρ k0:=by
 simp only [viaG,upG,up,nth_get,h]
theorem frame_models {C:Ctx} {ρ:Env} {h:List Chunk} {w:World} (hM:Models C ρ h w) {r:List Nat} {hl:List Chunk} (hr:r.Nodup) (hh:has (upG r h.length) h r hl) {X:Nat→Prop}
  (hX:∀ b,X b→∃ (k k0:Nat) (c:Chunk),r[k]? = some k0∧hl[k]? = some c∧c.wr = true∧(ρ k0).nil = false∧b = (ρ k0).b)
  {ρ':Env} {hl':List Chunk} {w':World} (hM':Models ⟨w,X,viaG ρ (upG r h.length),hl.length⟩ ρ' hl' w') (ha:Agree hl.length (viaG ρ (upG r h.length)) ρ') (hle:hl.length≤hl'.length) (hro:roOk hl hl') (hkl:keepsLive hl hl') :
  ∃ ρ'',Models C ρ'' (lay (upG r h.length) r hl hl' h) w'∧Agree h.length ρ ρ''∧∀ x,ok hl'.length x→den ρ' x = den ρ'' (rnm (upG r h.length) x):=by
 obtain ⟨hlen,hget⟩:=has_get hh
 let n:=h.length
 let g:=upG r n
 let ρ'':Env:=fun k=>if k < n then ρ k else ρ' (k - n+hl.length)
 have hrl:∀ x ∈ r,x < n:=fun x hx=>by
  obtain ⟨k,hk⟩:=List.getElem?_of_mem hx
  have hkl:k < hl.length:=by rw [← hlen]; exact get_lt hk
  exact (hget k x hl[k] hk (List.getElem?_eq_getElem hkl)).1
 have hrlen:r.length≤hl'.length:=by omega
 have hlay:(lay g r hl hl' h).length = n+(hl'.length - r.length):=lay_len r hl hl' h hlen hrlen
 have hga:Agree n ρ ρ'':=fun k hk=>by simp only [ρ'',if_pos hk]
 have hupold:∀ j,j < r.length→∃ k0,r[j]? = some k0∧g j = some k0∧k0 < n:=fun j hj =>
  ⟨r[j],List.getElem?_eq_getElem hj,by simp [g,upG,up,nth_get,hj],hrl _ (List.getElem_mem hj)⟩
 have hupnew:∀ j,r.length≤j→g j = some (n+(j - r.length)):=fun j hj=>by
  simp only [g,upG,up,nth_get,List.getElem?_eq_none hj]
 have hρ:∀ j,j < hl'.length→ρ' j = viaG ρ'' g j:=fun j _=>by
  rcases Nat.lt_or_ge j r.length with hj | hj
  ·obtain ⟨k0,h1,h2,h3⟩:=hupold j hj
   have h4:=ha j (by omega)
   rw [h4]
   simp only [viaG,h2]
   rw [show upG r h.length j = some k0 from h2]
   simp only [ρ'',if_pos h3]
  ·simp only [viaG,hupnew j hj,ρ'']
   rw [if_neg (by omega)]
   congr 1
   omega
 have hgn:∀ k,k < hl'.length→∃ k0,g k = some k0∧k0 < (lay g r hl hl' h).length:=fun k hk=>by
  rcases Nat.lt_or_ge k r.length with hj | hj
  ·obtain ⟨k0,h1,h2,h3⟩:=hupold k hj
   exact ⟨k0,h2,by omega⟩
  ·exact ⟨_,hupnew k hj,by omega⟩
 -- what the callee's own names are
 have himg:∀ (j:Nat) (c0:Chunk),hl'[j]? = some c0→∀ k,g j = some k→(Real ρ'' k (rnmC g c0) ↔ Real ρ' j c0)∧(RealW ρ'' k (rnmC g c0) ↔ RealW ρ' j c0)∧ρ'' k = ρ' j:=fun j c0 hc k hk=>by
  have h1:ρ'' k = ρ' j:=by
   rw [hρ j (get_lt hc)]
   simp only [viaG,hk]
  exact ⟨by simp only [Real,live_rnm,h1],by simp only [RealW,wr_rnm,h1],h1⟩
 have hwrX:∀ (k0:Nat) (c0:Chunk),k0 ∉ wrs r hl→h[k0]? = some c0→Real ρ k0 c0→¬ X (ρ k0).b:=fun k0 c0 hk hc hR hx=>by
  obtain ⟨k,k1,c,q1,q2,q3,q4,q5⟩:=hX _ hx
  obtain ⟨p1,p2⟩:=hget k k1 c q1 q2
  have hw:=chEq_wr p2 q3
  have hne:k1 ≠ k0:=fun e=>hk (e ▸ wrs_mem q1 q2 q3)
  exact hM.sep k1 k0 _ c0 (lookH_get (live_of_wr hw)) hc hne ⟨hw,q4⟩ hR q5.symm
 refine ⟨ρ'',?_,hga,fun x hx=>?_⟩
 ·refine hM.step (Y:=X) hM'.keep ?_ hga (by show n≤_; rw [hlay]; omega) ?_ ?_
  ·intro b hb
   obtain ⟨k,k1,c,q1,q2,q3,q4,q5⟩:=hX _ hb
   obtain ⟨p1,p2⟩:=hget k k1 c q1 q2
   have hw:=chEq_wr p2 q3
   exact ⟨k1,_,lookH_get (live_of_wr hw),⟨hw,q4⟩,q5.symm⟩
  ·intro k c' hc
   have himage:∀ (j:Nat) (c0:Chunk),hl'[j]? = some c0→g j = some k→c' = rnmC g c0→(c'.good (lay g r hl hl' h).length∧Holds ρ'' w' k c'∧(Real ρ'' k c'→(ρ'' k).b < w'.heap.size) ∧
     (RealW ρ'' k c'→w.heap.size≤(ρ'' k).b ∨ ∃ k0 c0,h[k0]? = some c0∧RealW ρ k0 c0∧(ρ k0).b = (ρ'' k).b)):=by
    rintro j c0 h1 h2 rfl
    obtain ⟨i1,i2,i3⟩:=himg j c0 h1 k h2
    refine ⟨good_rnm hgn (hM'.okc j c0 h1),holds_rnm hρ (get_lt h1) h2 (hM'.okc j c0 h1) (hM'.holds j c0 h1),fun hR=>?_,fun hR=>?_⟩
    ·rw [i3]; exact hM'.size j c0 h1 (i1.1 hR)
    ·rw [i3]
     rcases hM'.wr j c0 h1 (i2.1 hR) with hx | hx
     ·obtain ⟨k2,k1,c,q1,q2,q3,q4,q5⟩:=hX _ hx
      obtain ⟨p1,p2⟩:=hget k2 k1 c q1 q2
      have hw:=chEq_wr p2 q3
      exact .inr ⟨k1,_,lookH_get (live_of_wr hw),⟨hw,q4⟩,q5.symm⟩
     ·exact .inl hx
   rcases lay_get r hl hl' h k c' hlen hr hrl hrlen hc with ⟨h1,h2,h3⟩ | ⟨j,h1,h2,c0,h3,h4⟩ | ⟨j,h1,h2,c0,h3,h4⟩
   ·exact .inl ⟨h3,fun hR=>hwrX k c' h1 h3 hR⟩
   ·refine .inr (himage j c0 h3 ?_ h4)
    obtain ⟨k0,q1,q2,_⟩:=hupold j h1
    rw [h2] at q1
    cases q1
    exact q2
   ·refine .inr (himage j c0 h3 ?_ h4)
    rw [hupnew j h1,h2]
  ·intro k k' c c' hc hc' hne hR hR'
   have cls:∀ (k:Nat) (c:Chunk),(lay g r hl hl' h)[k]? = some c→(k ∉ wrs r hl∧k < n∧h[k]? = some c) ∨ ∃ (j:Nat) (c0:Chunk),hl'[j]? = some c0∧g j = some k∧c = rnmC g c0:=by
    intro k c hc
    rcases lay_get r hl hl' h k c hlen hr hrl hrlen hc with h1 | ⟨j,h1,h2,c0,h3,h4⟩ | ⟨j,h1,h2,c0,h3,h4⟩
    ·exact .inl h1
    ·obtain ⟨k0,q1,q2,_⟩:=hupold j h1
     rw [h2] at q1
     cases q1
     exact .inr ⟨j,c0,h3,q2,h4⟩
    ·exact .inr ⟨j,c0,h3,by rw [hupnew j h1,h2],h4⟩
   rcases cls k c hc with ⟨a1,a2,a3⟩ | ⟨j,c0,b1,b2,rfl⟩ <;> rcases cls k' c' hc' with ⟨a1',a2',a3'⟩ | ⟨j',c0',b1',b2',rfl⟩
   ·rw [hga k a2,hga k' a2']
    exact hM.sep k k' c c' a3 a3' hne (realW_agree hga a2 hR) (real_agree hga a2' hR')
   ·obtain ⟨i1,i2,i3⟩:=himg j' c0' b1' k' b2'
    rw [i3,hga k a2]
    have hRk:=realW_agree hga a2 hR
    have hRj:=i1.1 hR'
    rcases Nat.lt_or_ge j' hl.length with hj | hj
    ·obtain ⟨cl,q1,q2⟩:=keepsLive_get hkl hj b1' hRj.1
     obtain ⟨k0,p1,p2,p3⟩:=hupold j' (by omega)
     obtain ⟨_,p5⟩:=hget j' k0 cl p1 q1
     have hk0:k' = k0:=by rw [p2] at b2'; cases b2'; rfl
     subst hk0
     have hlv:=chEq_live p5 q2
     rw [← i3,hga k' p3]
     refine hM.sep k k' c _ a3 (lookH_get hlv) hne hRk ⟨hlv,?_⟩
     have:=hR'.2
     rw [hga k' p3] at this
     exact this
    ·have hw:=(roOk_new hro).2 j' c0' hj b1' hRj.1
     have hsz:=hM.size k c a3 hRk.real
     rcases hM'.wr j' c0' b1' ⟨hw,hRj.2⟩ with hx | hx
     ·intro e
      rw [← e] at hx
      exact hwrX k c a1 a3 hRk.real hx
     ·have hx':w.heap.size≤(ρ' j').b:=hx
      omega
   ·obtain ⟨i1,i2,i3⟩:=himg j c0 b1 k b2
    rw [i3,hga k' a2']
    have hRk':=real_agree hga a2' hR'
    have hsz:=hM.size k' c' a3' hRk'
    rcases hM'.wr j c0 b1 (i2.1 hR) with hx | hx
    ·intro e
     rw [e] at hx
     exact hwrX k' c' a1' a3' hRk' hx
    ·have hx':w.heap.size≤(ρ' j).b:=hx
     omega
   ·obtain ⟨i1,i2,i3⟩:=himg j c0 b1 k b2
    obtain ⟨i1',i2',i3'⟩:=himg j' c0' b1' k' b2'
    rw [i3,i3']
    refine hM'.sep j j' c0 c0' b1 b1' ?_ (i2.1 hR) (i1'.1 hR')
    rintro rfl
    rw [b2] at b2'
    cases b2'
    exact hne rfl
 ·have h1:=den_agree (n:=hl'.length) (fun j hj=>(hρ j hj).symm) x hx
  rw [← h1,den_rnm]
theorem callP_frame {f:FuncId} {args argsL:List SV} {h hl:List Chunk} {K KL:Tok→SV→List Chunk→Prop} (r:List Nat) (hc:callP P f argsL hl KL) (hr:r.Nodup) (hh:has (upG r h.length) h r hl)
  (hgl:goodH hl.length hl) (hol:okL hl.length argsL) (ha:args = rnmL (upG r h.length) argsL)
  (hk:∀ v hl',KL .mk v hl'→roOk hl hl'∧keepsLive hl hl'∧K .mk (rnm (upG r h.length) v) (lay (upG r h.length) r hl hl' h)):callP P f args h K:=by
 intro C ρ w hkn hM hok
 obtain ⟨hlen,hget⟩:=has_get hh
 let X:Nat→Prop:=fun b=>∃ (k k0:Nat) (c:Chunk),r[k]? = some k0∧hl[k]? = some c∧c.wr = true∧(ρ k0).nil = false∧b = (ρ k0).b
 have hpair:∀ (k:Nat) (c:Chunk),hl[k]? = some c→∃ k0,r[k]? = some k0∧upG r h.length k = some k0∧chEq (upG r h.length) (lookH h k0) c∧viaG ρ (upG r h.length) k = ρ k0:=fun k c hc'=>by
  have hk':k < r.length:=by rw [hlen]; exact get_lt hc'
  refine ⟨r[k],List.getElem?_eq_getElem hk',by simp [upG,up,nth_get,hk'],(hget k _ c (List.getElem?_eq_getElem hk') hc').2,viaG_up (List.getElem?_eq_getElem hk')⟩
 have hML:Models ⟨w,X,viaG ρ (upG r h.length),hl.length⟩ (viaG ρ (upG r h.length)) hl w:=by
  refine ⟨Keep.refl _ _,fun _ _=>rfl,Nat.le_refl _,?_,fun k c hc'=>goodH_get hgl hc',?_,?_,?_⟩
  ·intro k c hc'
   obtain ⟨k0,h1,h2,h3,h4⟩:=hpair k c hc'
   exact chEq_holds h3 h2 (lookH_holds hM k0)
  ·intro k c hc' hR
   obtain ⟨k0,h1,h2,h3,h4⟩:=hpair k c hc'
   have hlv:=chEq_live h3 hR.1
   rw [h4]
   exact hM.size k0 _ (lookH_get hlv) ⟨hlv,by rw [← h4]; exact hR.2⟩
  ·intro k c hc' hR
   obtain ⟨k0,h1,h2,h3,h4⟩:=hpair k c hc'
   exact .inl ⟨k,k0,c,h1,hc',hR.1,by rw [← h4]; exact hR.2,by rw [h4]⟩
  ·intro k k' c c' hc1 hc2 hne hR hR'
   obtain ⟨k0,h1,h2,h3,h4⟩:=hpair k c hc1
   obtain ⟨k0',h1',h2',h3',h4'⟩:=hpair k' c' hc2
   have hlv:=chEq_live h3 (live_of_wr hR.1)
   have hlv':=chEq_live h3' hR'.1
   rw [h4,h4']
   refine hM.sep k0 k0' _ _ (lookH_get hlv) (lookH_get hlv') ?_ ⟨chEq_wr h3 hR.1,by rw [← h4]; exact hR.2⟩ ⟨hlv',by rw [← h4']; exact hR'.2⟩
   rintro rfl
   have hk1:=get_lt h1
   have hk2:=get_lt h1'
   rw [List.getElem?_eq_getElem hk1] at h1
   rw [List.getElem?_eq_getElem hk2] at h1'
   have:=(List.getElem_inj (h₀:=hk1) (h₁:=hk2) hr).1 (by simp at h1 h1'; rw [h1,h1'])
   exact hne this
 have hargs:denL ρ args = denL (viaG ρ (upG r h.length)) argsL:=by rw [denL_rnm,ha]
 have hkn':P.know w X:=P.keep hkn hM.keep fun b hb=>by
  obtain ⟨k,k0,c,q1,q2,q3,q4,rfl⟩:=hb
  obtain ⟨p1,p2⟩:=hget k k0 c q1 q2
  have hw:=chEq_wr p2 q3
  exact hM.wr k0 _ (lookH_get (live_of_wr hw)) ⟨hw,q4⟩
 have hgoes:=hc ⟨w,X,viaG ρ (upG r h.length),hl.length⟩ (viaG ρ (upG r h.length)) w hkn' hML hol
 rw [hargs]
 have fin:∀ ρ' sv hl' w',KL .mk sv hl'→Models ⟨w,X,viaG ρ (upG r h.length),hl.length⟩ ρ' hl' w'→Agree hl.length (viaG ρ (upG r h.length)) ρ'→ok hl'.length sv→hl.length≤hl'.length →
   ∃ ρ'',den ρ' sv = den ρ'' (rnm (upG r h.length) sv)∧K .mk (rnm (upG r h.length) sv) (lay (upG r h.length) r hl hl' h)∧Models C ρ'' (lay (upG r h.length) r hl hl' h) w'∧Agree h.length ρ ρ'' ∧
    ok (lay (upG r h.length) r hl hl' h).length (rnm (upG r h.length) sv)∧h.length≤(lay (upG r h.length) r hl hl' h).length:=by
  intro ρ' sv hl' w' hK hM' ha' hs hl2
  obtain ⟨q1,q2,q3⟩:=hk sv hl' hK
  obtain ⟨ρ'',m1,m2,m3⟩:=frame_models hM hr hh (X:=X) (fun b hb=>hb) hM' ha' hl2 q1 q2
  have hrlen:r.length≤hl'.length:=by omega
  have hll:=lay_len (g:=upG r h.length) r hl hl' h hlen hrlen
  refine ⟨ρ'',m3 sv hs,q3,m1,m2,?_,by omega⟩
  refine (ok_rnm (n:=hl'.length) (fun k hk=>?_) sv hs).2
  rcases Nat.lt_or_ge k r.length with hj | hj
  ·refine ⟨r[k],by simp [upG,up,nth_get,hj],?_⟩
   have:=(hget k _ hl[k] (List.getElem?_eq_getElem hj) (List.getElem?_eq_getElem (by omega))).1
   omega
  ·exact ⟨h.length+(k - r.length),by simp [upG,up,nth_get,List.getElem?_eq_none hj],by omega⟩
 rcases hgoes with ⟨w',ρ',sv,hl',h1,h2,h3,h4,h5,h6⟩ | ⟨h1,h2⟩
 ·obtain ⟨ρ'',e1,e2,e3,e4,e5,e6⟩:=fin ρ' sv hl' w' h2 h3 h4 h5 h6
  refine .inl ⟨w',ρ'',_,_,?_,e2,e3,e4,e5,e6⟩
  rcases h1 with h1 | ⟨h1,rfl⟩
  ·exact .inl (by rw [h1,e1])
  ·exact .inr ⟨h1,rfl⟩
 ·refine .inr ⟨h1,fun F n hF hro=>CallsIn.mono (h2 F n hF hro) ?_⟩
  rintro e w' ⟨ρ',sv,hl',rfl,q2,q3,q4,q5,q6⟩
  obtain ⟨ρ'',e1,e2,e3,e4,e5,e6⟩:=fin ρ' sv hl' w' q2 q3 q4 q5 q6
  exact ⟨ρ'',_,_,by rw [e1],e2,e3,e4,e5,e6⟩
end Go.Sx
set_option linter.all false
namespace Go.Sx
variable {P:Pr}
@[congr] theorem imp_cong {a a' b:Prop} (h:a = a'):imp a b = imp a' b:=by rw [h]
@[congr] theorem callP_cong {f:FuncId} {args args':List SV} {h h':List Chunk} {K:Tok→SV→List Chunk→Prop} (ha:args = args') (hh:h = h'):callP P f args h K = callP P f args' h' K:=by rw [ha,hh]
@[congr] theorem codeP_cong {nf:Nat} {c:Code} {st st':St} {N:Tok→St→Prop} {E:Tok→Exit→St→Prop} (h:st = st'):codeP P nf c st N E = codeP P nf c st' N E:=by rw [h]
@[congr] theorem into_cong {nf:Nat} {st st':St} {J:St→Prop} (h:st = st'):Into nf st J = Into nf st' J:=by rw [h]
theorem imp_true (b:Prop):imp True b = b:=by simp [imp]
theorem imp_false (b:Prop):imp False b = True:=by simp [imp]
theorem imp_intro {a b:Prop} (h:a→b):imp a b:=h
def IntoR (nf:Nat) (v:SV) (h:List Chunk) (K:Tok→SV→List Chunk→Prop):Prop :=
 ∀ (C:Ctx) (ρ:Env) (w:World),C.n0≤nf→Models C ρ h w→ok h.length v→∃ ρ' v' h',K .mk v' h'∧Models C ρ' h' w∧ok h'.length v'∧den ρ v = den ρ' v'∧nf≤h'.length
@[congr] theorem intoR_cong {nf:Nat} {v v':SV} {h h':List Chunk} {K:Tok→SV→List Chunk→Prop} (hv:v = v') (hh:h = h'):IntoR nf v h K = IntoR nf v' h' K:=by rw [hv,hh]
theorem intoR_refl {nf:Nat} {v:SV} {h:List Chunk} {K:Tok→SV→List Chunk→Prop} (hle:nf≤h.length) (hk:K .mk v h):IntoR nf v h K:=fun _ ρ _ _ hM hok=>⟨ρ,v,h,hk,hM,hok,rfl,hle⟩
theorem intoR_mk {nf:Nat} {v:SV} {h:List Chunk} {K:Tok→SV→List Chunk→Prop} (r:List (Option Nat)) (v':SV) (H:List Chunk)
  (hfix:fixed (rg r) nf) (hle:nf≤H.length) (hr:renH (rg r) h 0 H) (hn:(liveN (rg r) 0 H).Nodup) (hg:goodH H.length H) (ht:eqv v (rnm (rg r) v')) (ho:ok H.length v') (hk:K .mk v' H):IntoR nf v h K :=
 fun C ρ w hC hM hok=>⟨viaG ρ (rg r),v',H,hk,hM.rename hC (fixed_spec hfix) hle hr hn (fun k c hc=>goodH_get hg hc),ho,by rw [den_rnm,eqv_den ρ _ _ ht],hle⟩
theorem intoR_take {nf:Nat} {v:SV} {h:List Chunk} {K:Tok→SV→List Chunk→Prop} (H:List Chunk) (hH:H++h.drop nf = h) (hl:H.length = nf) (hg:goodH nf H) (ho:ok nf v) (hk:K .mk v H):IntoR nf v h K :=
 fun C ρ w hC hM hok=>by
  have hget:∀ k c,H[k]? = some c→h[k]? = some c:=fun k c hc=>by
   rw [← hH,List.getElem?_append_left (get_lt hc)]; exact hc
  refine ⟨ρ,v,H,hk,⟨hM.keep,hM.agree,by omega,fun k c hc=>hM.holds k c (hget k c hc),fun k c hc=>?_,fun k c hc=>hM.size k c (hget k c hc),fun k c hc=>hM.wr k c (hget k c hc),
   fun k k' c c' hc hc'=>hM.sep k k' c c' (hget k c hc) (hget k' c' hc')⟩,by rw [hl]; exact ho,rfl,by omega⟩
  rw [hl]
  exact goodH_get hg hc
def argsL:Nat→List SV→List (Nat × SV)
 | _,[]=>[]
 | k,x :: l=>(k,x) :: argsL (k+1) l
theorem argsL_ok {m:Nat}:∀ (l:List SV) (k n:Nat),okL m l→k+l.length≤n→okE m n (argsL k l)
 | [],_,_,_,_=>trivial
 | x :: l,k,n,h,hn=>⟨⟨by simp at hn; omega,h.1⟩,argsL_ok l (k+1) n h.2 (by simp at hn; omega)⟩
theorem argsL_get (ρ:Env):∀ (l:List SV) (k i:Nat),k≤i→den ρ (lkL (argsL k l) (fun _=>undef) i) = den ρ (look l (i - k))
 | [],k,i,_=>by simp only [argsL,lkL,look,den,denL]; rfl
 | x :: l,k,i,h=>by
  simp only [argsL,lkL]
  split
  ·rename_i hk; subst hk; rw [Nat.sub_self]; rfl
  ·rw [argsL_get ρ l (k+1) i (by omega)]
   rw [show i - k = (i - (k+1))+1 by omega]
   rfl
theorem callP_of_code {tab : Tab} (hT : tab.Ok P) {f : FuncId} {fn : Func} {c : Code} (hf : P.p.funcs[f]? = some fn) (hname : (fn.name == "runtime.NumGoroutine") = false) (hb : fn.body = some c)
  {args:List SV} {h:List Chunk} {K:Tok→SV→List Chunk→Prop}
  (hn:args.length≤fn.ntmps) (hv:codeP P h.length c ⟨⟨fn.ntmps,argsL 0 args,fun _=>undef⟩,h,[]⟩ (fun _ st=>st.d = []∧resS tab st.t st.h (fun l=>IntoR h.length (tupS l) st.h K) fn.results.toList)
   (fun _ e st=>e = .ret∧st.d = []∧resS tab st.t st.h (fun l=>IntoR h.length (tupS l) st.h K) fn.results.toList)):callP P f args h K:=by
 intro C ρ w hkn hM hargs
 refine .inr ⟨?_,fun F n hF hro=>?_⟩
 ·have h1 : fn.name ≠ "runtime.NumGoroutine" := by simpa using hname
  simp [callFunc,hf,h1,hb]
 ·let C':Ctx:=⟨C.w0,C.X,ρ,h.length⟩
  have hM':Models C' ρ h w:=⟨hM.keep,fun _ _=>rfl,Nat.le_refl _,hM.holds,hM.okc,hM.size,hM.wr,hM.sep⟩
  have hok:okS h.length ⟨fn.ntmps,argsL 0 args,fun _=>undef⟩:=⟨fun _ _=>rfl,argsL_ok args 0 fn.ntmps hargs (by omega)⟩
  have hw:=hv C' ρ w F n hF (Nat.le_refl _) hkn hM' hok
  have hinit:({ tmps:=(denL ρ args).toArray++Array.replicate (fn.ntmps - (denL ρ args).toArray.size) undef,defers:=[] }:Act) = act ρ ⟨⟨fn.ntmps,argsL 0 args,fun _=>undef⟩,h,[]⟩:=by
   simp only [act]
   congr 1
   apply Array.ext'
   simp only [Array.toList_append,Array.toList_replicate,List.size_toArray,denL_length,tmpsD]
   apply List.ext_getElem?
   intro i
   rw [List.getElem?_map]
   rcases Nat.lt_or_ge i fn.ntmps with hi | hi
   ·rw [List.getElem?_range hi,Option.map_some]
    show _ = some (den ρ (lkL (argsL 0 args) (fun _=>undef) i))
    rw [argsL_get ρ args 0 i (by omega)]
    rcases Nat.lt_or_ge i args.length with h1 | h1
    ·rw [List.getElem?_append_left (by rw [denL_length]; exact h1),Nat.sub_zero,← den_look,List.getElem?_eq_getElem (by rw [denL_length]; exact h1)]
     rfl
    ·rw [List.getElem?_append_right (by rw [denL_length]; exact h1),denL_length,List.getElem?_replicate,if_pos (by omega),Nat.sub_zero,← den_look,List.getElem?_eq_none (by rw [denL_length]; exact h1)]
     rfl
   ·rw [List.getElem?_eq_none (by simp [denL_length]; omega),List.getElem?_eq_none (by simpa using hi)]
    rfl
  refine callsIn_of_wp hf hb (hF.fn f) ?_ hro
  rw [hinit]
  refine Code.wpIn_mono ?_ hw
  have fin:∀ (ρ':Env) (st':St) (w':World),st'.d = []→resS tab st'.t st'.h (fun l=>IntoR h.length (tupS l) st'.h K) fn.results.toList→Models C' ρ' st'.h w'→okS st'.h.length st'.t →
    (act ρ' st').defers = []∧∃ v,(results fn (act ρ' st').tmps).run P w' = .ok v w'∧Ret C h ρ (K .mk) (.returned v) w':=by
   intro ρ' st' w' hd hr hM2 hok2
   obtain ⟨v,h1,h3,h4⟩:=results_run hT hM2 hok2 (K:=fun v=>IntoR h.length v st'.h K) hr
   obtain ⟨ρ3,v3,h3',q1,q2,q3,q4,q5⟩:=h1 C' ρ' w' (Nat.le_refl _) hM2 h3
   refine ⟨hd,_,h4,ρ3,v3,h3',by rw [q4],q1,?_,q2.agree,q3,q5⟩
   exact ⟨q2.keep,fun k hk=>(q2.agree k (Nat.lt_of_lt_of_le hk hM.len)).trans (hM.agree k hk),Nat.le_trans hM.len q5,q2.holds,q2.okc,q2.size,q2.wr,q2.sep⟩
  rintro e a w' ⟨ρ',st',hq,hM2,hok2,rfl⟩
  cases e with
  | normal=>exact fin ρ' st' w' hq.1 hq.2 hM2 hok2
  | ret=>exact fin ρ' st' w' hq.2.1 hq.2.2 hM2 hok2
  | _=>exact absurd hq.1 (by simp)
def rounds (k:Tok) (P:Pr) (tab:Tab) (nf:Nat) (pl:Nat→Plan) (c:Code) (E:Tok→Exit→St→Prop):Nat→St→Prop
 | 0,_=>False
 | m+1,st=>vc k P tab nf pl c st (fun k st=>rounds k P tab nf pl c E m st) fun k e s=>e ≠ .normal∧E k e s
theorem codeP_rounds {tab:Tab} {nf:Nat} {pl:Nat→Plan} (hT:tab.Ok P) (hm:P.p.follows .mixedOrders = true) {c:Code} (hfit:fits pl c = true) {N:Tok→St→Prop} {E:Tok→Exit→St→Prop} (m:Nat) {st:St}
  (h:rounds .mk P tab nf pl c E m st):codeP P nf (.loop c) st N E:=by
 intro C ρ w F n hF hC hkn hM hok
 refine wpIn_loop_rounds m ?_
 have key:∀ m st ρ w,rounds .mk P tab nf pl c E m st→Models C ρ st.h w→okS st.h.length st.t→Code.roundsIn F n P c (QK C N E) m (act ρ st) w:=by
  intro m
  induction m with
  | zero=>intro st ρ w h; exact h.elim
  | succ m ih =>
   intro st ρ w h hM hok
   rw [roundsIn_succ]
   refine Code.wpIn_mono ?_ (vc_run hT hm hC hkn hF c st _ _ hfit h ρ w hM hok (n:=n))
   rintro e a w ⟨ρ2,s2,hq,hM2,hok2,rfl⟩
   cases e with
   | normal=>exact ih s2 ρ2 w hq hM2 hok2
   | exit id=>exact ⟨ρ2,s2,hq.2,hM2,hok2,rfl⟩
   | goto id=>exact ⟨ρ2,s2,hq.2,hM2,hok2,rfl⟩
   | ret=>exact ⟨ρ2,s2,hq.2,hM2,hok2,rfl⟩
   | panic id=>exact ⟨ρ2,s2,hq.2,hM2,hok2,rfl⟩
   | outgrown=>exact ⟨ρ2,s2,hq.2,hM2,hok2,rfl⟩
 exact key m st ρ w h hM hok
theorem ev_tmp (t:Slots) (i:Nat):ev t (.tmp i) = slot t i:=rfl
theorem ev_const (t:Slots) (v:Value):ev t (.const v) = ofV v:=rfl
theorem ev_global (t:Slots) (g:Nat):ev t (.global g) = .v (.pointer (some ⟨g,0,none⟩)):=rfl
theorem ev_func (t:Slots) (f:FuncId):ev t (.func f) = .fn (.func f) [] []:=rfl
section
variable {tab:Tab} {nf:Nat} {pl:Nat→Plan} {st:St} {N:Tok→St→Prop} {E:Tok→Exit→St→Prop} {ops:Array Oper} {t:Slots} {h:List Chunk} {d:List Deferred} {K:Tok→Slots→List Chunk→Prop}
theorem vc_skip:vc .mk P tab nf pl .skip st N E = N .mk st:=rfl
theorem vc_label {l:Nat}:vc .mk P tab nf pl (.label l) st N E = N .mk st:=rfl
theorem vc_plain {id:Nat} {l:List Oper}:vc .mk P tab nf pl (.region id l.toArray false) ⟨t,h,d⟩ N E = rn .mk P tab l.toArray l t h fun k t h=>N k ⟨t,h,d⟩:=rfl
theorem vc_drawn {id:Nat}:vc .mk P tab nf pl (.region id ops true) ⟨t,h,d⟩ N E = rp .mk P tab ops (pl id) [] t h fun k t h=>N k ⟨t,h,d⟩:=rfl
theorem vc_seq {a b:Code}:vc .mk P tab nf pl (.seq a b) st N E = vc .mk P tab nf pl a st (fun k st=>vc k P tab nf pl b st N E) E:=rfl
theorem vc_cond {c:Operand} {a b:Code}:vc .mk P tab nf pl (.cond c a b) ⟨t,h,d⟩ N E = (match ev t c with
  | .bool x=>imp (x = true) (vc .mk P tab nf pl a ⟨t,h,d⟩ N E)∧imp (x = false) (vc .mk P tab nf pl b ⟨t,h,d⟩ N E)
  | _=>False):=rfl
theorem vc_block {id:Nat} {c:Code}:vc .mk P tab nf pl (.block id c) st N E = vc .mk P tab nf pl c st N fun k e st=>match e with
  | .exit j=>if j = id then N k st else E k (.exit j) st
  | e=>E k e st:=rfl
theorem vc_exit {id:Nat}:vc .mk P tab nf pl (.exit id) st N E = E .mk (.exit id) st:=rfl
theorem vc_ret:vc .mk P tab nf pl .ret st N E = E .mk .ret st:=rfl
theorem vc_loop {c:Code}:vc .mk P tab nf pl (.loop c) st N E = codeP P nf (.loop c) st N E:=rfl
theorem vc_range {f:Operand} {ps:Array Tmp} {a b:Code}:vc .mk P tab nf pl (.rangeFunc f ps a b) st N E = codeP P nf (.rangeFunc f ps a b) st N E:=rfl
theorem rn_nil:rn .mk P tab ops [] t h K = K .mk t h:=rfl
theorem rn_cons {o:Oper} {r:List Oper}:rn .mk P tab ops (o :: r) t h K = gd ops t o.guard (fun t=>opP P tab t h o.op fun k v h'=>rn k P tab ops r (putO t o.dst v) h' K) (fun t=>rn .mk P tab ops r (putO t o.dst (.tup [])) h K):=rfl
variable {rd:List (Nat × List Nat)}
theorem rp_nil:rp .mk P tab ops .nil rd t h K = K .mk t h:=rfl
theorem rp_q {i:Nat} {p:Plan}:rp .mk P tab ops (.q i p) rd t h K = (match ops[i]? with
  | some o=>gd ops t o.guard (fun t=>match qv tab t h o.op with
    | some (c,v)=>c∧rp .mk P tab ops p ((i,qn t o.op) :: rd) (putO t o.dst v) h K
    | none=>False) (fun t=>rp .mk P tab ops p rd (putO t o.dst (.tup [])) h K)
  | none=>False):=rfl
theorem rp_e1 {i:Nat} {ws:List Nat} {p:Plan}:rp .mk P tab ops (.e1 i ws p) rd t h K = (match ops[i]? with
  | some o=>gd ops t o.guard (fun t=>opP P tab t h o.op fun k v h'=>stays ws h h' rd∧rp k P tab ops p rd (putO t o.dst v) h' K) (fun t=>rp .mk P tab ops p rd (putO t o.dst (.tup [])) h K)
  | none=>False):=rfl
theorem rp_e2 {i j:Nat} {ws ws':List Nat} {p p':Plan}:rp .mk P tab ops (.e2 i ws p j ws' p') rd t h K = (
  (match ops[i]? with
  | some o=>gd ops t o.guard (fun t=>opP P tab t h o.op fun k v h'=>stays ws h h' rd∧rp k P tab ops p rd (putO t o.dst v) h' K) (fun t=>rp .mk P tab ops p rd (putO t o.dst (.tup [])) h K)
  | none=>False) ∧
  (match ops[j]? with
  | some o=>gd ops t o.guard (fun t=>opP P tab t h o.op fun k v h'=>stays ws' h h' rd∧rp k P tab ops p' rd (putO t o.dst v) h' K) (fun t=>rp .mk P tab ops p' rd (putO t o.dst (.tup [])) h K)
  | none=>False)):=rfl
theorem rounds_zero {c:Code}:rounds .mk P tab nf pl c E 0 st = False:=rfl
theorem rounds_succ {c:Code} {m:Nat}:rounds .mk P tab nf pl c E (m+1) st = vc .mk P tab nf pl c st (fun k st=>rounds k P tab nf pl c E m st) fun k e s=>e ≠ .normal∧E k e s:=rfl
end
def vcB:=And.intro @vc_skip (And.intro @vc_label (And.intro @vc_plain (And.intro @vc_drawn (And.intro @vc_seq (And.intro @vc_cond (And.intro @vc_block (And.intro @vc_exit (And.intro @vc_ret (And.intro @vc_loop (And.intro @vc_range (And.intro @rn_nil (And.intro @rn_cons (And.intro @rp_nil (And.intro @rp_q (And.intro @rp_e1 (And.intro @rp_e2 (And.intro @rounds_zero (@rounds_succ))))))))))))))))))
def evB:=And.intro @ev_tmp (And.intro @ev_const (And.intro @ev_global (@ev_func)))
end Go.Sx
set_option linter.all false
namespace Go.Sx
def nat {n:Nat} (x:BitVec n):Int:=(x.toNat:Int)
theorem ofInt_nat {n m:Nat} (x:BitVec n):BitVec.ofInt m (nat x) = x.setWidth m:=by
 apply BitVec.eq_of_toNat_eq
 simp [nat,BitVec.toNat_ofInt]
theorem wrapU {k:IntKind} (hs:k.signed = false) (n:Int):k.wrap n = n % 2 ^ k.bits:=by
 simp only [IntKind.wrap,hs,Bool.false_and,Bool.false_eq_true,if_false]
theorem wrap_small {k:IntKind} (hs:k.signed = false) {n:Int} (h0:0≤n) (h1:n < 2 ^ k.bits):k.wrap n = n:=by
 rw [wrapU hs,Int.emod_eq_of_lt h0 h1]
theorem nat_nonneg {n:Nat} (x:BitVec n):0≤nat x:=by simp [nat]
theorem nat_lt {n:Nat} (x:BitVec n):nat x < 2 ^ n:=by
 have:=x.isLt
 simp only [nat]
 exact_mod_cast this
theorem nat_inj {n:Nat} {x y:BitVec n}:nat x = nat y ↔ x = y:=by
 simp only [nat,Int.ofNat_inj,BitVec.toNat_inj]
section
variable {n:Nat}
theorem nat_add (x y:BitVec n):(nat x+nat y) % 2 ^ n = nat (x+y):=by
 simp only [nat,BitVec.toNat_add]
 push_cast
 rfl
theorem nat_mul (x y:BitVec n):(nat x * nat y) % 2 ^ n = nat (x * y):=by
 simp only [nat,BitVec.toNat_mul]
 push_cast
 rfl
theorem nat_sub (x y:BitVec n):(nat x - nat y) % 2 ^ n = nat (x - y):=by
 have h1:=x.isLt
 have h2:=y.isLt
 simp only [nat,BitVec.toNat_sub]
 push_cast
 rw [Int.ofNat_sub (by omega)]
 push_cast
 rw [show (2:Int) ^ n - (y.toNat:Int)+(x.toNat:Int) = ((x.toNat:Int) - y.toNat)+2 ^ n by omega,Int.add_emod_right]
theorem nat_shl (x:BitVec n) (s:Nat):(nat x * 2 ^ s) % 2 ^ n = nat (x <<< s):=by
 simp only [nat,BitVec.toNat_shiftLeft,Nat.shiftLeft_eq]
 push_cast
 rfl
theorem nat_shr (x:BitVec n) (s:Nat):(nat x).fdiv (2 ^ s) = nat (x >>> s):=by
 simp only [nat,BitVec.toNat_ushiftRight,Nat.shiftRight_eq_div_pow]
 rw [Int.fdiv_eq_ediv_of_nonneg _ (Int.le_of_lt (Int.pow_pos (by decide)))]
 push_cast
 rfl
end
section
variable (x y:BitVec 32) (b c:BitVec 8) (u v:BitVec 64)
theorem add32:IntKind.u32.wrap (nat x+nat y) = nat (x+y):=by rw [wrapU rfl]; exact nat_add x y
theorem sub32:IntKind.u32.wrap (nat x - nat y) = nat (x - y):=by rw [wrapU rfl]; exact nat_sub x y
theorem add8:IntKind.u8.wrap (nat b+nat c) = nat (b+c):=by rw [wrapU rfl]; exact nat_add b c
theorem sub8:IntKind.u8.wrap (nat b - nat c) = nat (b - c):=by rw [wrapU rfl]; exact nat_sub b c
theorem add64:IntKind.u64.wrap (nat u+nat v) = nat (u+v):=by rw [wrapU rfl]; exact nat_add u v
theorem mul64:IntKind.u64.wrap (nat u * nat v) = nat (u * v):=by rw [wrapU rfl]; exact nat_mul u v
theorem shl32 (s:Nat) (hs:s≤32):shlS .u32 (nat x) s = nat (x <<< s):=by
 unfold shlS
 rw [wrapU rfl,show min (s:Int).toNat IntKind.u32.bits = s from by show min _ 32 = s; omega]
 exact nat_shl x s
theorem shr32 (s:Nat) (hs:s≤32):shrS .u32 (nat x) s = nat (x >>> s):=by
 unfold shrS
 rw [show min (s:Int).toNat IntKind.u32.bits = s from by show min _ 32 = s; omega]
 exact nat_shr x s
theorem shl8 (s:Nat) (hs:s≤8):shlS .u8 (nat b) s = nat (b <<< s):=by
 unfold shlS
 rw [wrapU rfl,show min (s:Int).toNat IntKind.u8.bits = s from by show min _ 8 = s; omega]
 exact nat_shl b s
theorem shr8 (s:Nat) (hs:s≤8):shrS .u8 (nat b) s = nat (b >>> s):=by
 unfold shrS
 rw [show min (s:Int).toNat IntKind.u8.bits = s from by show min _ 8 = s; omega]
 exact nat_shr b s
theorem shl64 (s:Nat) (hs:s≤64):shlS .u64 (nat u) s = nat (u <<< s):=by
 unfold shlS
 rw [wrapU rfl,show min (s:Int).toNat IntKind.u64.bits = s from by show min _ 64 = s; omega]
 exact nat_shl u s
theorem shr64 (s:Nat) (hs:s≤64):shrS .u64 (nat u) s = nat (u >>> s):=by
 unfold shrS
 rw [show min (s:Int).toNat IntKind.u64.bits = s from by show min _ 64 = s; omega]
 exact nat_shr u s
theorem shli8 (s:Int) (h0:0≤s) (h1:s≤8):shlS .u8 (nat b) s = nat (b <<< s.toNat):=by
 obtain ⟨n,rfl⟩:=Int.eq_ofNat_of_zero_le h0
 exact shl8 b n (by omega)
theorem shri8 (s:Int) (h0:0≤s) (h1:s≤8):shrS .u8 (nat b) s = nat (b >>> s.toNat):=by
 obtain ⟨n,rfl⟩:=Int.eq_ofNat_of_zero_le h0
 exact shr8 b n (by omega)
theorem shli32 (s:Int) (h0:0≤s) (h1:s≤32):shlS .u32 (nat x) s = nat (x <<< s.toNat):=by
 obtain ⟨n,rfl⟩:=Int.eq_ofNat_of_zero_le h0
 exact shl32 x n (by omega)
theorem shri32 (s:Int) (h0:0≤s) (h1:s≤32):shrS .u32 (nat x) s = nat (x >>> s.toNat):=by
 obtain ⟨n,rfl⟩:=Int.eq_ofNat_of_zero_le h0
 exact shr32 x n (by omega)
theorem shli64 (s:Int) (h0:0≤s) (h1:s≤64):shlS .u64 (nat u) s = nat (u <<< s.toNat):=by
 obtain ⟨n,rfl⟩:=Int.eq_ofNat_of_zero_le h0
 exact shl64 u n (by omega)
theorem shri64 (s:Int) (h0:0≤s) (h1:s≤64):shrS .u64 (nat u) s = nat (u >>> s.toNat):=by
 obtain ⟨n,rfl⟩:=Int.eq_ofNat_of_zero_le h0
 exact shr64 u n (by omega)
theorem wrap_nat {k:IntKind} (hs:k.signed = false) (z:BitVec k.bits):k.wrap ((z.toNat:Nat):Int) = nat z :=
 wrap_small hs (by omega) (by have:=z.isLt; exact_mod_cast this)
theorem and32:bits .and .u32 (nat x) (nat y) = nat (x &&& y):=by
 simp only [bits,ofInt_nat,BitVec.setWidth_eq]
 exact wrap_nat (k:=.u32) rfl (x &&& y)
theorem or32:bits .or .u32 (nat x) (nat y) = nat (x ||| y):=by
 simp only [bits,ofInt_nat,BitVec.setWidth_eq]
 exact wrap_nat (k:=.u32) rfl (x ||| y)
theorem xor32:bits .xor .u32 (nat x) (nat y) = nat (x ^^^ y):=by
 simp only [bits,ofInt_nat,BitVec.setWidth_eq]
 exact wrap_nat (k:=.u32) rfl (x ^^^ y)
theorem and8:bits .and .u8 (nat b) (nat c) = nat (b &&& c):=by
 simp only [bits,ofInt_nat,BitVec.setWidth_eq]
 exact wrap_nat (k:=.u8) rfl (b &&& c)
theorem or8:bits .or .u8 (nat b) (nat c) = nat (b ||| c):=by
 simp only [bits,ofInt_nat,BitVec.setWidth_eq]
 exact wrap_nat (k:=.u8) rfl (b ||| c)
theorem and64:bits .and .u64 (nat u) (nat v) = nat (u &&& v):=by
 simp only [bits,ofInt_nat,BitVec.setWidth_eq]
 exact wrap_nat (k:=.u64) rfl (u &&& v)
theorem or64:bits .or .u64 (nat u) (nat v) = nat (u ||| v):=by
 simp only [bits,ofInt_nat,BitVec.setWidth_eq]
 exact wrap_nat (k:=.u64) rfl (u ||| v)
theorem not32:bits .xor .u32 4294967295 (nat x) = nat (~~~x):=by
 have h:(4294967295:Int) = nat (BitVec.allOnes 32):=by simp [nat]
 rw [h,xor32,BitVec.allOnes_xor]
theorem not32':bits .xor .u32 (if IntKind.u32.signed = true then -1 else IntKind.u32.max) (nat x) = nat (~~~x):=not32 x
theorem c8_32:IntKind.u32.wrap (nat b) = nat (b.setWidth 32):=by
 rw [wrap_small rfl (nat_nonneg b) (Int.lt_of_lt_of_le (nat_lt b) (by decide))]
 have:=b.isLt
 simp only [nat,BitVec.toNat_setWidth]
 rw [Nat.mod_eq_of_lt (by omega)]
theorem c8_64:IntKind.u64.wrap (nat b) = nat (b.setWidth 64):=by
 rw [wrap_small rfl (nat_nonneg b) (Int.lt_of_lt_of_le (nat_lt b) (by decide))]
 have:=b.isLt
 simp only [nat,BitVec.toNat_setWidth]
 rw [Nat.mod_eq_of_lt (by omega)]
theorem c32_8:IntKind.u8.wrap (nat x) = nat (x.setWidth 8):=by
 rw [wrapU rfl,show IntKind.u8.bits = 8 from rfl]
 simp only [nat,BitVec.toNat_setWidth]
 rw [Int.natCast_emod]; rfl
theorem c64_8:IntKind.u8.wrap (nat u) = nat (u.setWidth 8):=by
 rw [wrapU rfl,show IntKind.u8.bits = 8 from rfl]
 simp only [nat,BitVec.toNat_setWidth]
 rw [Int.natCast_emod]; rfl
theorem c64_32:IntKind.u32.wrap (nat u) = nat (u.setWidth 32):=by
 rw [wrapU rfl,show IntKind.u32.bits = 32 from rfl]
 simp only [nat,BitVec.toNat_setWidth]
 rw [Int.natCast_emod]; rfl
theorem c32_64:IntKind.u64.wrap (nat x) = nat (x.setWidth 64):=by
 rw [wrap_small rfl (nat_nonneg x) (Int.lt_of_lt_of_le (nat_lt x) (by decide))]
 have:=x.isLt
 simp only [nat,BitVec.toNat_setWidth]
 rw [Nat.mod_eq_of_lt (by omega)]
end
theorem wrap64 {n:Int} (h0:-9223372036854775808≤n) (h1:n < 9223372036854775808):IntKind.i64.wrap n = n:=by
 have e:IntKind.i64.bits = 64:=rfl
 simp only [IntKind.wrap,e,show IntKind.i64.signed = true from rfl,Bool.true_and,decide_eq_true_eq]
 split <;> omega
def numB:=And.intro @add32 (And.intro @sub32 (And.intro @add8 (And.intro @sub8 (And.intro @add64 (And.intro @mul64 (And.intro @and32 (And.intro @or32 (And.intro @xor32 (And.intro @and8 (And.intro @or8 (And.intro @and64 (And.intro @or64 (And.intro @not32 (And.intro @not32' (And.intro @c8_32 (And.intro @c8_64 (And.intro @c32_8 (And.intro @c64_8 (And.intro @c64_32 (And.intro @c32_64 (And.intro @shli8 (And.intro @shli32 (And.intro @shli64 (And.intro @shri8 (And.intro @shri32 (@shri64))))))))))))))))))))))))))
end Go.Sx
