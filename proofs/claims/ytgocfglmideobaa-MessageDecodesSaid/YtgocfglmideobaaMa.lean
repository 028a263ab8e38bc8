/- Texts put together: Symbolic values and symbolic heaps: what they stand for in a world. No condition. -/
import Derived.CallsIn
import Derived.OrdersIn
import Derived.OwnWalkIn
import Derived.RangeFuncIn
import Derived.WalkKit
import Derived.Deep.MidRow
import Derived.Laws.IdiomCopy
set_option linter.all false
namespace Go.Sx
open Go.RowKit
inductive SV where
 | v (x:Value)
 | int (k:IntKind) (n:Int)
 | bool (b:Bool)
 | str (s:ByteArray)
 | ptr (nm b:Nat)
 | pix (nm b i s j:Nat)
 | sl (nm b e s len cap:Nat)
 | osl (nm d e s n:Nat)
 | agg (l:List SV)
 | fam (n s:Nat) (f:Nat→SV)
 | tup (l:List SV)
 | fn (f:Fn) (first cap:List SV)
 | mp (nm:Nat)
structure Place where
 b:Nat
 o:Nat
 c:Nat
 nil:Bool
 a:Option Addr
abbrev Env:=Nat→Place
mutual
def den (ρ:Env):SV→Value
 | .v x=>x
 | .int k n=>.int k n
 | .bool b=>.bool b
 | .str s=>.string s
 | .ptr nm b=>.pointer (some ⟨(ρ nm).b,(ρ nm).o+b,none⟩)
 | .pix nm b i s j=>.pointer (some ⟨(ρ nm).b,(ρ nm).o+b+i * s+j,none⟩)
 | .sl nm b e s len cap=>.slice (some ⟨(ρ nm).b,(ρ nm).o+b+e * s,none⟩) len cap
 | .osl nm d e s n=>.slice (bif (ρ nm).nil then (ρ nm).a else some ⟨(ρ nm).b,(ρ nm).o+(if (ρ nm).c = e then d * s else e * s),none⟩) n ((ρ nm).c - e)
 | .agg l=>.agg (denC ρ l).toArray
 | .fam n _ f=>.agg ((List.range n).flatMap fun i=>(den ρ (f i)).cells.toList).toArray
 | .tup l=>.tuple (denL ρ l).toArray
 | .fn f a c=>.func f (denL ρ a).toArray (denL ρ c).toArray
 | .mp nm=>.map (some (ρ nm).b)
def denC (ρ:Env):List SV→List Value
 | []=>[]
 | x :: l=>(den ρ x).cells.toList++denC ρ l
def denL (ρ:Env):List SV→List Value
 | []=>[]
 | x :: l=>den ρ x :: denL ρ l
end
mutual
def sz:SV→Nat
 | .agg l=>szL l
 | .fam n s _=>n * s
 | .v x=>x.cells.size
 | _=>1
def szL:List SV→Nat
 | []=>0
 | x :: l=>sz x+szL l
end
mutual
def ok (n:Nat):SV→Prop
 | .ptr nm _ | .pix nm _ _ _ _ | .sl nm _ _ _ _ _ | .osl nm _ _ _ _ | .mp nm=>nm < n
 | .agg l=>okL n l
 | .fam m s f=>∀ i,i < m→sz (f i) = s∧ok n (f i)
 | .tup l=>okL n l
 | .fn _ a c=>okL n a∧okL n c
 | _=>True
def okL (n:Nat):List SV→Prop
 | []=>True
 | x :: l=>ok n x∧okL n l
end
theorem flatMap_len {α:Type} (g:Nat→List α) (s:Nat):∀ n,(∀ i,i < n→(g i).length = s)→((List.range n).flatMap g).length = n * s
 | 0,_=>by simp
 | n+1,h=>by
  rw [List.range_succ,List.flatMap_append,List.length_append,flatMap_len g s n (fun i hi=>h i (by omega))]
  simp [h n (by omega),Nat.succ_mul]
mutual
theorem cells_len (ρ:Env):∀ (n:Nat) (x:SV),ok n x→(den ρ x).cells.toList.length = sz x
 | _,.v x,_=>by simp [den,sz]
 | _,.int ..,_ | _,.bool ..,_ | _,.str ..,_ | _,.ptr ..,_ | _,.pix ..,_ | _,.sl ..,_ | _,.osl ..,_ | _,.tup ..,_ | _,.fn ..,_ | _,.mp ..,_=>by simp [den,sz,Value.cells]
 | n,.agg l,h=>by simp only [den,sz,Value.cells]; exact denC_len ρ n l (by simpa [ok] using h)
 | n,.fam m s f,h=>by
  simp only [ok] at h
  simp only [den,sz,Value.cells]
  exact flatMap_len _ s m fun i hi=>(cells_len ρ n (f i) (h i hi).2).trans (h i hi).1
theorem denC_len (ρ:Env):∀ (n:Nat) (l:List SV),okL n l→(denC ρ l).length = szL l
 | _,[],_=>rfl
 | n,x :: l,h=>by
  simp only [okL] at h
  simp only [denC,szL,List.length_append,cells_len ρ n x h.1,denC_len ρ n l h.2]
end
def Agree (n:Nat) (ρ ρ':Env):Prop:=∀ k,k < n→ρ' k = ρ k
theorem flatMap_congr' {α:Type} (g g':Nat→List α):∀ n,(∀ i,i < n→g i = g' i)→(List.range n).flatMap g = (List.range n).flatMap g'
 | 0,_=>rfl
 | n+1,h=>by
  rw [List.range_succ,List.flatMap_append,List.flatMap_append,flatMap_congr' g g' n (fun i hi=>h i (by omega))]
  simp [h n (by omega)]
mutual
theorem den_agree {n:Nat} {ρ ρ':Env} (ha:Agree n ρ ρ'):∀ x:SV,ok n x→den ρ' x = den ρ x
 | .v ..,_ | .int ..,_ | .bool ..,_ | .str ..,_=>rfl
 | .ptr nm b,h | .pix nm b _ _ _,h | .sl nm b _ _ _ _,h | .osl nm _ _ _ _,h | .mp nm,h=>by simp only [ok] at h; simp only [den,ha nm h]
 | .agg l,h=>by simp only [ok] at h; simp only [den,denC_agree ha l h]
 | .fam m s f,h=>by
  simp only [ok] at h
  simp only [den]
  rw [flatMap_congr' _ _ m fun i hi=>by rw [den_agree ha (f i) (h i hi).2]]
 | .tup l,h=>by simp only [ok] at h; simp only [den,denL_agree ha l h]
 | .fn f a c,h=>by simp only [ok] at h; simp only [den,denL_agree ha a h.1,denL_agree ha c h.2]
theorem denC_agree {n:Nat} {ρ ρ':Env} (ha:Agree n ρ ρ'):∀ l:List SV,okL n l→denC ρ' l = denC ρ l
 | [],_=>rfl
 | x :: l,h=>by simp only [okL] at h; simp only [denC,den_agree ha x h.1,denC_agree ha l h.2]
theorem denL_agree {n:Nat} {ρ ρ':Env} (ha:Agree n ρ ρ'):∀ l:List SV,okL n l→denL ρ' l = denL ρ l
 | [],_=>rfl
 | x :: l,h=>by simp only [okL] at h; simp only [denL,den_agree ha x h.1,denL_agree ha l h.2]
end
mutual
theorem ok_mono {n m:Nat} (h:n≤m):∀ x:SV,ok n x→ok m x
 | .v ..,_ | .int ..,_ | .bool ..,_ | .str ..,_=>trivial
 | .ptr ..,h' | .pix ..,h' | .sl ..,h' | .osl ..,h' | .mp ..,h'=>Nat.lt_of_lt_of_le h' h
 | .agg l,h'=>by simp only [ok] at h' ⊢; exact okL_mono h l h'
 | .tup l,h'=>by simp only [ok] at h' ⊢; exact okL_mono h l h'
 | .fam k s f,h'=>by simp only [ok] at h' ⊢; exact fun i hi=>⟨(h' i hi).1,ok_mono h (f i) (h' i hi).2⟩
 | .fn f a c,h'=>by simp only [ok] at h' ⊢; exact ⟨okL_mono h a h'.1,okL_mono h c h'.2⟩
theorem okL_mono {n m:Nat} (h:n≤m):∀ l:List SV,okL n l→okL m l
 | [],_=>trivial
 | x :: l,h'=>by simp only [okL] at h' ⊢; exact ⟨ok_mono h x h'.1,okL_mono h l h'.2⟩
end
end Go.Sx
set_option linter.all false
namespace Go.Sx
open Go.RowKit
inductive Chunk where
 | none
 | cells (wr:Bool) (fs:List SV)
 | row (wr:Bool) (n s:Nat) (f:Nat→SV)
 | map (n:Nat) (key val:Nat→SV) (born:Nat→Nat) (clock:Nat)
 | rmap (n:Nat) (key val:Nat→SV) (born:Nat→Nat) (clock:Nat)
 | iter (m:SV) (since:Nat) (seen:List Nat) (st:Nat)
def Chunk.live:Chunk→Bool
 | .none=>false
 | _=>true
def Chunk.wr:Chunk→Bool
 | .none=>false
 | .cells wr _=>wr
 | .row wr ..=>wr
 | .map ..=>true
 | .rmap ..=>false
 | .iter ..=>true
mutual
def stor:SV→Prop
 | .v x=>x.oneCell' = true
 | .tup _=>False
 | .agg l=>storL l
 | .fam n _ f=>∀ i,i < n→stor (f i)
 | _=>True
def storL:List SV→Prop
 | []=>True
 | x :: l=>stor x∧storL l
end
def Chunk.good (n:Nat):Chunk→Prop
 | .none=>True
 | .cells _ fs=>okL n fs∧storL fs
 | .row _ m s f=>ok n (.fam m s f)∧stor (.fam m s f)
 | .map m key val _ _=>∀ i,i < m→ok n (key i)∧ok n (val i)
 | .rmap m key val _ _=>∀ i,i < m→ok n (key i)∧ok n (val i)
 | .iter m _ _ _=>ok n m
mutual
theorem stor_one (ρ:Env):∀ x:SV,stor x→∀ u ∈ (den ρ x).cells.toList,u.oneCell' = true
 | .v x,h,u,hu=>by
  simp only [stor] at h
  cases x <;> simp_all [den,Value.cells,Value.oneCell']
 | .int ..,_,u,hu | .bool ..,_,u,hu | .str ..,_,u,hu | .ptr ..,_,u,hu | .pix ..,_,u,hu | .sl ..,_,u,hu | .osl ..,_,u,hu | .fn ..,_,u,hu | .mp ..,_,u,hu=>by
  simp only [den,Value.cells,List.mem_singleton] at hu
  subst hu
  rfl
 | .tup _,h,_,_=>(h:False).elim
 | .agg l,h,u,hu=>by
  simp only [stor] at h
  simp only [den,Value.cells] at hu
  exact storL_one ρ l h u hu
 | .fam n s f,h,u,hu=>by
  simp only [stor] at h
  simp only [den,Value.cells,List.mem_flatMap,List.mem_range] at hu
  obtain ⟨i,hi,hu⟩:=hu
  exact stor_one ρ (f i) (h i hi) u hu
theorem storL_one (ρ:Env):∀ l:List SV,storL l→∀ u ∈ denC ρ l,u.oneCell' = true
 | [],_,u,hu=>by simp [denC] at hu
 | x :: l,h,u,hu=>by
  simp only [storL] at h
  simp only [denC,List.mem_append] at hu
  rcases hu with hu | hu
  ·exact stor_one ρ x h.1 u hu
  ·exact storL_one ρ l h.2 u hu
end
def mapObj (ρ:Env) (n:Nat) (key val:Nat→SV) (born:Nat→Nat) (clock:Nat):Obj :=
 .map ((List.range n).map fun i=>{ key:=den ρ (key i),val:=den ρ (val i),born:=born i:MapEntry }).toArray clock
def mapOf:Value→Option Nat
 | .map o=>o
 | _=>none
def Holds (ρ:Env) (w:World) (k:Nat):Chunk→Prop
 | .none=>True
 | .cells wr fs=>(ρ k).nil = false∧w.rangeAt (ρ k).b (ρ k).o (denC ρ fs)∧(wr = true→w.there (ρ k).b (ρ k).o (denC ρ fs).length)
 | .row wr n s f=>if (ρ k).nil = true then n = 0∧(ρ k).c = 0∧(wr = true→(ρ k).a = none) else w.rangeAt (ρ k).b (ρ k).o (den ρ (.fam n s f)).cells.toList∧n≤(ρ k).c∧(wr = true→w.there (ρ k).b (ρ k).o ((ρ k).c * s))
 | .map n key val born clock=>(ρ k).nil = false∧w.heap[(ρ k).b]? = some (mapObj ρ n key val born clock)
 | .rmap n key val born clock=>(ρ k).nil = false∧w.heap[(ρ k).b]? = some (mapObj ρ n key val born clock)
 | .iter m since seen st=>(ρ k).nil = false∧(ρ k).o = 0∧w.heap[(ρ k).b]? = some (.mapIter (mapOf (den ρ m)) since seen.toArray st)
theorem Holds.nle {ρ:Env} {w:World} {k n s:Nat} {wr:Bool} {f:Nat→SV} (h:Holds ρ w k (.row wr n s f)):n≤(ρ k).c:=by
 simp only [Holds] at h
 split at h
 ·omega
 ·exact h.2.1
theorem Holds.some {ρ:Env} {w:World} {k n s:Nat} {wr:Bool} {f:Nat→SV} (h:Holds ρ w k (.row wr n s f)) (hn:0 < n) :
  (ρ k).nil = false∧w.rangeAt (ρ k).b (ρ k).o (den ρ (.fam n s f)).cells.toList:=by
 simp only [Holds] at h
 split at h
 ·omega
 ·rename_i hh
  exact ⟨by simpa using hh,h.1⟩
def Real (ρ:Env) (k:Nat) (c:Chunk):Prop:=c.live = true∧(ρ k).nil = false
def RealW (ρ:Env) (k:Nat) (c:Chunk):Prop:=c.wr = true∧(ρ k).nil = false
structure Keep (X:Nat→Prop) (w0 w:World):Prop where
 os:w.os = w0.os
 tape:w.tape = w0.tape
 output:w.output = w0.output
 size:w0.heap.size≤w.heap.size
 block:∀ b,b < w0.heap.size→¬ X b→w.heap[b]? = w0.heap[b]?
theorem Keep.refl (X:Nat→Prop) (w:World):Keep X w w:=⟨rfl,rfl,rfl,Nat.le_refl _,fun _ _ _=>rfl⟩
theorem Keep.step {X Y:Nat→Prop} {w0 w w':World} (h:Keep X w0 w) (h':Keep Y w w') (hY:∀ b,Y b→X b ∨ w0.heap.size≤b):Keep X w0 w' :=
 ⟨h'.os.trans h.os,h'.tape.trans h.tape,h'.output.trans h.output,Nat.le_trans h.size h'.size,fun b hb hX =>
  (h'.block b (Nat.lt_of_lt_of_le hb h.size) (fun hy=>(hY b hy).elim hX (fun hle=>by omega))).trans (h.block b hb hX)⟩
structure Ctx where
 w0:World
 X:Nat→Prop
 ρ0:Env
 n0:Nat
structure Models (C:Ctx) (ρ:Env) (H:List Chunk) (w:World):Prop where
 keep:Keep C.X C.w0 w
 agree:Agree C.n0 C.ρ0 ρ
 len:C.n0≤H.length
 holds:∀ k c,H[k]? = some c→Holds ρ w k c
 okc:∀ (k:Nat) (c:Chunk),H[k]? = some c→c.good H.length
 size:∀ k c,H[k]? = some c→Real ρ k c→(ρ k).b < w.heap.size
 wr:∀ k c,H[k]? = some c→RealW ρ k c→C.X (ρ k).b ∨ C.w0.heap.size≤(ρ k).b
 sep:∀ k k' c c',H[k]? = some c→H[k']? = some c'→k ≠ k'→RealW ρ k c→Real ρ k' c'→(ρ k).b ≠ (ρ k').b
structure Slots where
 n:Nat
 l:List (Nat × SV)
 j:Nat→Value
structure St where
 t:Slots
 h:List Chunk
 d:List Deferred
def lkL:List (Nat × SV)→(Nat→Value)→Nat→SV
 | [],j,i=>.v (j i)
 | (k,v) :: l,j,i=>if k = i then v else lkL l j i
def slot (t:Slots) (i:Nat):SV:=lkL t.l t.j i
def tmpsD (ρ:Env) (t:Slots):List Value:=(List.range t.n).map fun i=>den ρ (slot t i)
def act (ρ:Env) (st:St):Act:=⟨(tmpsD ρ st.t).toArray,st.d⟩
def okE (m n:Nat):List (Nat × SV)→Prop
 | []=>True
 | (k,v) :: l=>(k < n∧ok m v)∧okE m n l
def okS (m:Nat) (t:Slots):Prop:=(∀ i,t.n≤i→t.j i = undef)∧okE m t.n t.l
def putS (t:Slots) (d:Nat) (v:SV):Slots:=if d < t.n then ⟨t.n,(d,v) :: t.l,t.j⟩ else t
def look:List SV→Nat→SV
 | [],_=>.tup []
 | v :: _,0=>v
 | _ :: l,n+1=>look l n
def lookH:List Chunk→Nat→Chunk
 | [],_=>.none
 | v :: _,0=>v
 | _ :: l,n+1=>lookH l n
def putH:List Chunk→Nat→Chunk→List Chunk
 | [],_,_=>[]
 | _ :: l,0,v=>v :: l
 | x :: l,n+1,v=>x :: putH l n v
def putO (t:Slots):Option Nat→SV→Slots
 | none,_=>t
 | some d,v=>putS t d v
def allOne (cs:Array Value):Bool:=cs.toList.all (·.oneCell')
def of1:Value→SV
 | .int k n=>.int k n
 | .bool b=>.bool b
 | .string s=>.str s
 | x=>.v x
def ofV:Value→SV
 | .int k n=>.int k n
 | .bool b=>.bool b
 | .string s=>.str s
 | .agg cs=>bif allOne cs then .agg (cs.toList.map of1) else .v (.agg cs)
 | x=>.v x
def ev (t:Slots):Operand→SV
 | .tmp i=>slot t i
 | .const v=>ofV v
 | .global g=>.v (.pointer (some ⟨g,0,none⟩))
 | .func f=>.fn (.func f) [] []
theorem den_look (ρ:Env):∀ (t:List SV) (i:Nat),(denL ρ t)[i]?.getD undef = den ρ (look t i)
 | [],i=>by simp [denL,look,den,undef]
 | x :: t,0=>by simp [denL,look]
 | x :: t,i+1=>by simpa [denL,look] using den_look ρ t i
theorem denL_length (ρ:Env):∀ t:List SV,(denL ρ t).length = t.length
 | []=>rfl
 | x :: t=>by simp [denL,denL_length ρ t]
theorem denL_append (ρ:Env):∀ a b:List SV,denL ρ (a++b) = denL ρ a++denL ρ b
 | [],b=>rfl
 | x :: a,b=>by simp [denL,denL_append ρ a b]
theorem denC_append (ρ:Env):∀ a b:List SV,denC ρ (a++b) = denC ρ a++denC ρ b
 | [],b=>rfl
 | x :: a,b=>by simp [denC,denC_append ρ a b]
theorem ok_look {n:Nat}:∀ (t:List SV) (i:Nat),okL n t→ok n (look t i)
 | [],_,_=>by simp [look,ok,okL]
 | x :: t,0,h=>h.1
 | x :: t,i+1,h=>ok_look t i h.2
theorem lookH_some:∀ {H:List Chunk} {k:Nat} {c:Chunk},lookH H k = c→c ≠ .none→H[k]? = some c
 | [],k,c,h,hc=>absurd h.symm hc
 | x :: H,0,c,h,_=>by simpa [lookH] using h
 | x :: H,k+1,c,h,hc=>by simpa using lookH_some (H:=H) (k:=k) h hc
theorem putH_length:∀ (H:List Chunk) (k:Nat) (c:Chunk),(putH H k c).length = H.length
 | [],_,_=>rfl
 | x :: H,0,c=>rfl
 | x :: H,k+1,c=>by simp [putH,putH_length H k c]
theorem putH_get:∀ (H:List Chunk) (k:Nat) (c:Chunk) (j:Nat),(putH H k c)[j]? = if j = k then (H[j]?).map fun _=>c else H[j]?
 | [],k,c,j=>by simp [putH]
 | x :: H,0,c,0=>by simp [putH]
 | x :: H,0,c,j+1=>by simp [putH]
 | x :: H,k+1,c,0=>by simp [putH]
 | x :: H,k+1,c,j+1=>by simpa [putH] using putH_get H k c j
theorem slot_put (t:Slots) (d:Nat) (v:SV) (i:Nat) (hi:i < t.n):slot (putS t d v) i = if d = i then v else slot t i:=by
 unfold putS
 split
 ·rfl
 ·rename_i h
  rw [if_neg (by omega)]
theorem n_put (t:Slots) (d:Nat) (v:SV):(putS t d v).n = t.n:=by
 unfold putS
 split <;> rfl
theorem act_put (ρ:Env) (st:St) (d:Option Nat) (v:SV):(act ρ st).put d (den ρ v) = act ρ { st with t:=putO st.t d v }:=by
 cases d with
 | none=>rfl
 | some d =>
  simp only [act,Act.put,putO]
  congr 1
  apply Array.ext'
  simp only [Array.toList_setIfInBounds,tmpsD,n_put]
  apply List.ext_getElem?
  intro i
  simp only [List.getElem?_set,List.getElem?_map,List.length_map,List.length_range]
  rcases Nat.lt_or_ge i st.t.n with hi | hi
  ·rw [List.getElem?_range hi,Option.map_some,Option.map_some,slot_put _ _ _ _ hi]
   by_cases hd:d = i
   ·subst hd; simp [hi]
   ·simp [hd]
  ·rw [List.getElem?_eq_none (by simpa using hi)]
   simp only [Option.map_none]
   split
   ·rename_i hd; subst hd; rw [if_neg (by omega)]
   ·rfl
theorem lkL_out {m n:Nat}:∀ (l:List (Nat × SV)) (j:Nat→Value) (i:Nat),okE m n l→n≤i→lkL l j i = .v (j i)
 | [],_,_,_,_=>rfl
 | (k,v) :: l,j,i,h,hi=>by
  simp only [okE] at h
  simp only [lkL,if_neg (show ¬ k = i by omega)]
  exact lkL_out l j i h.2 hi
theorem lkL_ok {m n:Nat}:∀ (l:List (Nat × SV)) (j:Nat→Value) (i:Nat),okE m n l→ok m (lkL l j i)
 | [],_,_,_=>trivial
 | (k,v) :: l,j,i,h=>by
  simp only [okE] at h
  simp only [lkL]
  split
  ·exact h.1.2
  ·exact lkL_ok l j i h.2
theorem ok_slot {m:Nat} (t:Slots) (i:Nat) (h:okS m t):ok m (slot t i):=lkL_ok _ _ _ h.2
theorem okE_mono {m m' n:Nat} (h:m≤m'):∀ l:List (Nat × SV),okE m n l→okE m' n l
 | [],_=>trivial
 | (k,v) :: l,h'=>by simp only [okE] at h' ⊢; exact ⟨⟨h'.1.1,ok_mono h v h'.1.2⟩,okE_mono h l h'.2⟩
theorem okS_mono {m m':Nat} (h:m≤m') {t:Slots} (ht:okS m t):okS m' t:=⟨ht.1,okE_mono h _ ht.2⟩
theorem okS_put {m:Nat} {t:Slots} {d:Nat} {v:SV} (h:okS m t) (hv:ok m v):okS m (putS t d v):=by
 unfold putS
 split
 ·rename_i hd; exact ⟨h.1,⟨hd,hv⟩,h.2⟩
 ·exact h
theorem tmpsD_get (ρ:Env) {m:Nat} {t:Slots} (h:okS m t) (i:Nat):(tmpsD ρ t)[i]?.getD undef = den ρ (slot t i):=by
 simp only [tmpsD,List.getElem?_map]
 rcases Nat.lt_or_ge i t.n with hi | hi
 ·rw [List.getElem?_range hi]; rfl
 ·rw [List.getElem?_eq_none (by simpa using hi)]
  simp only [Option.map_none,Option.getD_none,slot,lkL_out _ _ _ h.2 hi,den,h.1 i hi]
theorem tmpsD_agree {n:Nat} {ρ ρ':Env} (ha:Agree n ρ ρ') {t:Slots} (h:okS n t):tmpsD ρ' t = tmpsD ρ t:=by
 unfold tmpsD
 apply List.map_congr_left
 intro i _
 exact den_agree ha _ (ok_slot t i h)
theorem act_eval_tmp (ρ:Env) (st:St) {m:Nat} (h:okS m st.t) (i:Nat):(act ρ st).eval (.tmp i) = den ρ (slot st.t i):=by
 simp only [act,Act.eval,← tmpsD_get ρ h]
 simp [Array.getD_eq_getD_getElem?]
theorem den_of1 (ρ:Env) (x:Value):den ρ (of1 x) = x:=by cases x <;> rfl
theorem denC_of1 (ρ:Env):∀ l:List Value,l.all (·.oneCell') = true→denC ρ (l.map of1) = l
 | [],_=>rfl
 | x :: l,h=>by
  simp only [List.all_cons,Bool.and_eq_true] at h
  simp only [List.map_cons,denC,denC_of1 ρ l h.2,den_of1]
  have h1:=h.1
  cases x <;> simp_all [Value.cells,Value.oneCell']
theorem den_ofV (ρ:Env) (x:Value):den ρ (ofV x) = x:=by
 cases x <;> try rfl
 rename_i cs
 simp only [ofV]
 cases h:allOne cs
 ·rfl
 ·simp only [cond_true,den,denC_of1 ρ _ h]
theorem okL_all {n:Nat} {α:Type} (g:α→SV) (h:∀ x,ok n (g x)):∀ l:List α,okL n (l.map g)
 | []=>trivial
 | x :: l=>⟨h x,okL_all g h l⟩
theorem ok_of1 (n:Nat) (x:Value):ok n (of1 x):=by cases x <;> trivial
theorem ok_ofV (n:Nat) (x:Value):ok n (ofV x):=by
 cases x <;> try trivial
 rename_i cs
 simp only [ofV]
 cases h:allOne cs
 ·trivial
 ·simp only [cond_true,ok]
  exact okL_all _ (ok_of1 n) _
theorem act_eval (ρ:Env) (st:St) {m:Nat} (h:okS m st.t) (x:Operand):(act ρ st).eval x = den ρ (ev st.t x):=by
 cases x with
 | tmp i=>exact act_eval_tmp ρ st h i
 | const v=>simp [Act.eval,ev,den_ofV]
 | global g=>simp [Act.eval,ev,den]
 | func f=>simp [Act.eval,ev,den,denL]
theorem ok_ev {n:Nat} (t:Slots) (x:Operand) (h:okS n t):ok n (ev t x):=by
 cases x with
 | tmp i=>exact ok_slot t i h
 | const v=>exact ok_ofV n v
 | global g=>trivial
 | func f=>exact ⟨trivial,trivial⟩
end Go.Sx
set_option linter.all false
namespace Go.Sx
open Go.RowKit
inductive TD where
  | int (k:IntKind) | bool | str | ptr (e:TypeId) | slice (e:TypeId) | arr (n:Nat) (e:TypeId) | struct (l:List (Nat × TypeId)) | map (k e:TypeId) | func
def TD.fits:TD→TypeDesc→Prop
  | .int k,d=>d = .int k
  | .bool,d=>d = .bool
  | .str,d=>d = .string
  | .ptr e,d=>d = .pointer e
  | .slice e,d=>d = .slice e
  | .arr n e,d=>d = .array n e
  | .struct l,d=>∃ fs,d = .struct fs∧fs.toList.map (fun f=>(f.offset,f.type)) = l
  | .map k e,d=>d = .map k e
  | .func,d=>∃ a b c,d = .func a b c
structure Ent where
  d:TD
  size:Nat
  bytes:Nat
  zero:SV
  zl:List SV
abbrev Tab:=TypeId→Option Ent
structure Ent.Fits (P:Program) (t:TypeId) (e:Ent):Prop where
  desc:∃ d,P.underlying t = some d∧e.d.fits d
  info:∃ i,P.info? t = some i∧i.size = e.size∧i.bytes = e.bytes∧∀ ρ,i.zero = some (den ρ e.zero)
  zok:ok 0 e.zero
  zstor:stor e.zero
  zsz:sz e.zero = e.size
  zlok:okL 0 e.zl∧storL e.zl∧∀ ρ,denC ρ e.zl = (den ρ e.zero).cells.toList
  fld:∀ l,e.d = .struct l→∀ p ∈ l,(P.info? p.2).isSome = true
  eld:∀ n el,e.d = .arr n el→(P.info? el).isSome = true
  eqs : ∀ l, e.d = .struct l → (∀ fs, P.underlying t = some (.struct fs) → ∀ f ∈ fs.toList, f.name ≠ "_") ∧ P.stoodInHeld t = false ∧ P.eqGuardType P.depth t = false
def Tab.Ok (P:Program) (tab:Tab):Prop:=∀ t e,tab t = some e→e.Fits P t
def Ent.row (e:Ent):Bool:=match e.d with | .struct _ | .arr ..=>true | _=>false
theorem Ent.Fits.und {P:Program} {t:TypeId} {e:Ent} (h:e.Fits P t) (w:World):∃ d,(underlying t).run P w = .ok d w∧e.d.fits d :=
  let ⟨d,h1,h2⟩:=h.desc; ⟨d,run_underlying h1 w,h2⟩
theorem Ent.Fits.siz {P:Program} {t:TypeId} {e:Ent} (h:e.Fits P t) (w:World):(sizeOf t).run P w = .ok e.size w:=by
  obtain ⟨i,hi,hs,_⟩:=h.info
  simp [sizeOf,typeInfo,hi,hs]
theorem Ent.Fits.agg {P:Program} {t:TypeId} {e:Ent} (h:e.Fits P t) (w:World):(isAgg t).run P w = .ok e.row w:=by
  obtain ⟨d,hd,hf⟩:=h.und w
  unfold isAgg
  rw [Sem.run_bind,hd]
  cases he:e.d <;> simp only [he,TD.fits] at hf <;> (first | (subst hf; simp [Ent.row,he]) | (obtain ⟨_,rfl,_⟩:=hf; simp [Ent.row,he]) | (obtain ⟨_,_,_,rfl⟩:=hf; simp [Ent.row,he]))
def shlS (k:IntKind) (x y:Int):Int:=k.wrap (x * 2 ^ min y.toNat k.bits)
def shrS (k:IntKind) (x y:Int):Int:=x.fdiv (2 ^ min y.toNat k.bits)
def nilS:TD→SV→Option Bool
  | .ptr _,.ptr .. | .ptr _,.pix .. | .slice _,.sl .. | .map ..,.mp _ | .func,.fn ..=>some false
  | .ptr _,.v (.pointer a)=>some a.isNone
  | .slice _,.v (.slice a _ _)=>some a.isNone
  | .map ..,.v (.map a)=>some a.isNone
  | .func,.v .nilFunc=>some true
  | .func,.v (.func ..)=>some false
  | _,_=>none
def nilEq (d:TD) (x y:SV):Option Bool :=
  match nilS d x,nilS d y with
  | some a,some true=>some a
  | some true,some b=>some b
  | _,_=>none
def valI:SV→Int
  | .int _ n=>n
  | _=>0
def isI (k:IntKind):SV→Prop
  | .int k' _=>k' = k
  | _=>False
def famEq (m:Nat) (f g:Nat→SV):Bool:=decide (∀ i,i < m→valI (f i) = valI (g i))
def arrS (tab:Tab) (t:TypeId) (n s n' s':Nat) (f g:Nat→SV):Option (Prop × Bool) :=
  match tab t with
  | some e=>match e.d with
    | .arr m el=>match tab el with
      | some e2=>match e2.d with
        | .int k=>some ((s = 1∧s' = 1∧n = m∧n' = m∧e2.size = 1)∧(∀ i,i < m→isI k (f i))∧∀ i,i < m→isI k (g i),famEq m f g)
        | _=>none
      | none=>none
    | _=>none
  | none=>none
def binS (tab:Tab) (op:BinOp) (t:TypeId) (x y:SV):Option (Prop × SV) :=
  match x,y with
  | .int k a,.int k' b=>match op with
    | .add=>some (k = k',.int k (k.wrap (a+b)))
    | .sub=>some (k = k',.int k (k.wrap (a - b)))
    | .mul=>some (k = k',.int k (k.wrap (a * b)))
    | .quo=>some (k = k'∧b ≠ 0,.int k (k.wrap (a.tdiv b)))
    | .rem=>some (k = k'∧b ≠ 0,.int k (a.tmod b))
    | .and=>some (k = k',.int k (bits .and k a b))
    | .or=>some (k = k',.int k (bits .or k a b))
    | .xor=>some (k = k',.int k (bits .xor k a b))
    | .andNot=>some (k = k',.int k (bits .andNot k a b))
    | .shl=>some (0≤b,.int k (shlS k a b))
    | .shr=>some (0≤b,.int k (shrS k a b))
    | .eql=>some (k = k',.bool (a == b))
    | .neq=>some (k = k',.bool (a != b))
    | .lss=>some (k = k',.bool (decide (a < b)))
    | .leq=>some (k = k',.bool (decide (a≤b)))
    | .gtr=>some (k = k',.bool (decide (a > b)))
    | .geq=>some (k = k',.bool (decide (a ≥ b)))
  | .str a,.str b=>match op with
    | .add=>some (((a.size+b.size:Nat):Int)≤9223372036854775807,.str (a++b))
    | .eql=>some (True,.bool (a.toList == b.toList))
    | .neq=>some (True,.bool !(a.toList == b.toList))
    | .lss=>some (True,.bool (Op.bytesLess a.toList b.toList))
    | .leq=>some (True,.bool (Op.bytesLess a.toList b.toList || a.toList == b.toList))
    | .gtr=>some (True,.bool !(Op.bytesLess a.toList b.toList || a.toList == b.toList))
    | .geq=>some (True,.bool !(Op.bytesLess a.toList b.toList))
    | _=>none
  | .fam n s f,.fam n' s' g=>match op with
    | .eql=>match arrS tab t n s n' s' f g with
      | some (p,b)=>some (p,.bool b)
      | none=>none
    | .neq=>match arrS tab t n s n' s' f g with
      | some (p,b)=>some (p,.bool !b)
      | none=>none
    | _=>none
  | x,y=>match op,tab t with
    | .eql,some e=>match x,y with
      | .bool a,.bool b=>match e.d with
        | .bool=>some (True,.bool (a == b))
        | _=>none
      | _,_=>match nilEq e.d x y with
        | some b=>some (True,.bool b)
        | none=>none
    | .neq,some e=>match x,y with
      | .bool a,.bool b=>match e.d with
        | .bool=>some (True,.bool !(a == b))
        | _=>none
      | _,_=>match nilEq e.d x y with
        | some b=>some (True,.bool !b)
        | none=>none
    | _,_=>none
variable {P:Program}
theorem nilS_ptr {e:TypeId} {x:SV} {b:Bool} (ρ:Env) (h:nilS (.ptr e) x = some b):∃ a,den ρ x = .pointer a∧b = a.isNone:=by
  cases x <;> simp only [nilS] at h <;> first | (cases h; exact ⟨_,rfl,rfl⟩) | (cases h; done) | skip
  rename_i x
  cases x <;> simp only [nilS] at h <;> first | (cases h; exact ⟨_,rfl,rfl⟩) | (cases h)
theorem nilS_slice {e:TypeId} {x:SV} {b:Bool} (ρ:Env) (h:nilS (.slice e) x = some b):∃ a l c,den ρ x = .slice a l c∧b = a.isNone:=by
  cases x <;> simp only [nilS] at h <;> first | (cases h; exact ⟨_,_,_,rfl,rfl⟩) | (cases h; done) | skip
  rename_i x
  cases x <;> simp only [nilS] at h <;> first | (cases h; exact ⟨_,_,_,rfl,rfl⟩) | (cases h)
theorem nilS_map {k e:TypeId} {x:SV} {b:Bool} (ρ:Env) (h:nilS (.map k e) x = some b):∃ a,den ρ x = .map a∧b = a.isNone:=by
  cases x <;> simp only [nilS] at h <;> first | (cases h; exact ⟨_,rfl,rfl⟩) | (cases h; done) | skip
  rename_i x
  cases x <;> simp only [nilS] at h <;> first | (cases h; exact ⟨_,rfl,rfl⟩) | (cases h)
theorem nilS_func {x:SV} {b:Bool} (ρ:Env) (h:nilS .func x = some b):(den ρ x = .nilFunc∧b = true) ∨ ∃ f a c,den ρ x = .func f a c∧b = false:=by
  cases x <;> simp only [nilS] at h <;> first | (cases h; exact .inr ⟨_,_,_,rfl,rfl⟩) | (cases h; done) | skip
  rename_i x
  cases x <;> simp only [nilS] at h <;> first | (cases h; exact .inl ⟨rfl,rfl⟩) | (cases h; exact .inr ⟨_,_,_,rfl,rfl⟩) | (cases h)
theorem nilEq_inv {d:TD} {x y:SV} {b:Bool} (h:nilEq d x y = some b):(nilS d x = some b∧nilS d y = some true) ∨ (nilS d x = some true∧nilS d y = some b):=by
  unfold nilEq at h
  split at h
  · rename_i a h1 h2; cases h; exact .inl ⟨h1,h2⟩
  · rename_i b' h1 h2 h3; cases h; first | exact .inr ⟨h1,h2⟩ | exact .inr ⟨h2,h3⟩ | exact .inr ⟨by assumption,by assumption⟩
  · cases h
theorem equal_step {t:TypeId} {x y:Value} {w:World} {r:Result Bool} (h:∀ n,(Op.equalIn (n+1) t x y).run P w = r):(Op.equal t x y).run P w = r:=h 9999
theorem nilEq_run {tab:Tab} (hT:tab.Ok P) {t:TypeId} {e:Ent} (he:tab t = some e) (ρ:Env) {x y:SV} {b:Bool} (h:nilEq e.d x y = some b) (w:World) :
    (Op.equal t (den ρ x) (den ρ y)).run P w = .ok b w∧(∀ op a c,(eqGuard op t a c (den ρ x) (den ρ y)).run P w = .ok () w) ∧
    (binOp .eql t (den ρ x) (den ρ y) = (do pure (.bool (← Op.equal t (den ρ x) (den ρ y)))))∧(binOp .neq t (den ρ x) (den ρ y) = (do pure (.bool (!(← Op.equal t (den ρ x) (den ρ y)))))):=by
  obtain ⟨d,hd,hf⟩:=(hT t e he).und w
  have h2:=nilEq_inv h
  cases hed:e.d <;> rw [hed] at h2 hf <;> simp only [TD.fits] at hf
  case ptr el =>
    subst hf
    rcases h2 with ⟨hx,hy⟩ | ⟨hx,hy⟩ <;> obtain ⟨a,ha,hab⟩:=nilS_ptr ρ hx <;> obtain ⟨c,hc,hcb⟩:=nilS_ptr ρ hy <;> rw [ha,hc] <;> cases a <;> cases c <;> simp only [Option.isNone_none,Option.isNone_some,reduceCtorEq] at hab hcb <;>
      (refine ⟨equal_step fun n=>(by simp only [Op.equalIn,Sem.run_bind,hd,Result.andThen_ok,Sem.run_pure]; try simp only [Option.isNone_none,Option.isNone_some,hab,hcb]),fun op _ _=>by cases op <;> simp [eqGuard],rfl,rfl⟩)
  case slice el =>
    subst hf
    rcases h2 with ⟨hx,hy⟩ | ⟨hx,hy⟩ <;> obtain ⟨a,_,_,ha,hab⟩:=nilS_slice ρ hx <;> obtain ⟨c,_,_,hc,hcb⟩:=nilS_slice ρ hy <;> rw [ha,hc] <;> cases a <;> cases c <;> simp only [Option.isNone_none,Option.isNone_some,reduceCtorEq] at hab hcb <;>
      (refine ⟨equal_step fun n=>(by simp only [Op.equalIn,Sem.run_bind,hd,Result.andThen_ok,Sem.run_pure]; try simp only [Option.isNone_none,Option.isNone_some,hab,hcb]),fun op _ _=>by cases op <;> simp [eqGuard],rfl,rfl⟩)
  case map k el =>
    subst hf
    rcases h2 with ⟨hx,hy⟩ | ⟨hx,hy⟩ <;> obtain ⟨a,ha,hab⟩:=nilS_map ρ hx <;> obtain ⟨c,hc,hcb⟩:=nilS_map ρ hy <;> rw [ha,hc] <;> cases a <;> cases c <;> simp only [Option.isNone_none,Option.isNone_some,reduceCtorEq] at hab hcb <;>
      (refine ⟨equal_step fun n=>(by simp only [Op.equalIn,Sem.run_bind,hd,Result.andThen_ok,Sem.run_pure]; try simp only [Option.isNone_none,Option.isNone_some,hab,hcb]),fun op _ _=>by cases op <;> simp [eqGuard],rfl,rfl⟩)
  case func =>
    obtain ⟨_,_,_,rfl⟩:=hf
    rcases h2 with ⟨hx,hy⟩ | ⟨hx,hy⟩ <;> rcases nilS_func ρ hx with ⟨ha,hab⟩ | ⟨_,_,_,ha,hab⟩ <;> rcases nilS_func ρ hy with ⟨hc,hcb⟩ | ⟨_,_,_,hc,hcb⟩ <;> simp only [reduceCtorEq] at hab hcb <;> rw [ha,hc] <;>
      (refine ⟨equal_step fun n=>(by simp only [Op.equalIn,Sem.run_bind,hd,Result.andThen_ok,Sem.run_pure]; try simp only [Option.isNone_none,Option.isNone_some,hab,hcb]),fun op _ _=>by cases op <;> simp [eqGuard],rfl,rfl⟩)
  all_goals
    exfalso
    rcases h2 with ⟨hx,hy⟩ | ⟨hx,hy⟩ <;> (revert hx; cases x <;> simp [nilS])
theorem run_equalIn_ints (d:Nat) {t el:TypeId} {n:Nat} {k:IntKind} (ht:P.underlying t = some (.array n el)) (he:P.underlying el = some (.int k)) (hsz:∀ w,(sizeOf el).run P w = .ok 1 w) (a b:Nat→Int) {xs ys:Array Value}
    (hx:∀ i,i < n→xs[i]? = some (.int k (a i))) (hy:∀ i,i < n→ys[i]? = some (.int k (b i))) (w:World) :
    (Op.equalIn (d+2) t (.agg xs) (.agg ys)).run P w = .ok ((List.range n).all fun i=>a i == b i) w:=by
  rw [Op.equalIn]
  simp only [Sem.run_bind,run_underlying ht,Result.andThen_ok,hsz,Std.Legacy.Range.forIn_eq_forIn_range',Std.Legacy.Range.size,Nat.sub_zero,Nat.add_sub_cancel,Nat.div_one]
  have hl:∀ i ∈ List.range n,i < n:=fun i hi=>by simpa using hi
  rw [show List.range' 0 n 1 = List.range n from (List.range_eq_range' ..).symm]
  generalize List.range n = l at hl ⊢
  induction l with
  | nil=>simp
  | cons i l ih =>
    have hi:i < n:=hl i (by simp)
    have px:(part el xs (i * 1)).run P w = .ok (.int k (a i)) w:=by
      simp [part,isAgg,run_underlying he,hx i hi]
    have py:(part el ys (i * 1)).run P w = .ok (.int k (b i)) w:=by
      simp [part,isAgg,run_underlying he,hy i hi]
    have pe:(Op.equalIn (d+1) el (.int k (a i)) (.int k (b i))).run P w = .ok (a i == b i) w:=run_equalIn_int w d el k k _ _ he
    simp only [List.forIn_cons,Sem.run_bind,px,py,pe,Result.andThen_ok,List.all_cons]
    cases hb:(a i == b i)
    · simp
    · simp only [Bool.not_true,Bool.false_eq_true,if_false,Sem.run_pure,Result.andThen_ok,Bool.true_and]
      exact ih fun j hj=>hl j (by simp [hj])
theorem run_eqGuardIn_ints (d:Nat) {t el:TypeId} {n:Nat} {k:IntKind} (ht:P.underlying t = some (.array n el)) (he:P.underlying el = some (.int k)) (hsz:∀ w,(sizeOf el).run P w = .ok 1 w) (a b:Nat→Int) {xs ys:Array Value}
    (hx:∀ i,i < n→xs[i]? = some (.int k (a i))) (hy:∀ i,i < n→ys[i]? = some (.int k (b i))) (w:World) :
    (Op.eqGuardIn (d+2) t (.agg xs) (.agg ys)).run P w = .ok false w:=by
  rw [Op.eqGuardIn]
  simp only [Sem.run_bind,run_underlying ht,Result.andThen_ok,hsz,Std.Legacy.Range.forIn_eq_forIn_range',Std.Legacy.Range.size,Nat.sub_zero,Nat.add_sub_cancel,Nat.div_one]
  have hl:∀ i ∈ List.range n,i < n:=fun i hi=>by simpa using hi
  rw [show List.range' 0 n 1 = List.range n from (List.range_eq_range' ..).symm]
  generalize List.range n = l at hl ⊢
  induction l with
  | nil=>simp
  | cons i l ih =>
    have hi:i < n:=hl i (by simp)
    have px:(part el xs (i * 1)).run P w = .ok (.int k (a i)) w:=by
      simp [part,isAgg,run_underlying he,hx i hi]
    have py:(part el ys (i * 1)).run P w = .ok (.int k (b i)) w:=by
      simp [part,isAgg,run_underlying he,hy i hi]
    have pe:(Op.eqGuardIn (d+1) el (.int k (a i)) (.int k (b i))).run P w = .ok false w:=by
      simp [Op.eqGuardIn,run_underlying he]
    simp only [List.forIn_cons,Sem.run_bind,px,py,pe,Result.andThen_ok,Bool.false_eq_true,if_false,Sem.run_pure]
    exact ih fun j hj=>hl j (by simp [hj])
theorem fam_ints {ρ:Env} {k:IntKind} {m:Nat} {f:Nat→SV} (h:∀ i,i < m→isI k (f i)):∃ xs,den ρ (.fam m 1 f) = .agg xs∧∀ i,i < m→xs[i]? = some (.int k (valI (f i))):=by
  refine ⟨_,rfl,fun i hi=>?_⟩
  have e:((List.range m).flatMap fun i=>(den ρ (f i)).cells.toList) = (List.range m).flatMap fun i=>[Value.int k (valI (f i))]:=flatMap_congr' _ _ m fun i hi=>by
    have:=h i hi
    cases hf:f i <;> rw [hf] at this <;> simp only [isI] at this
    subst this
    rfl
  rw [e,show ((List.range m).flatMap fun i=>[Value.int k (valI (f i))]) = (List.range m).map fun i=>Value.int k (valI (f i)) by
    generalize List.range m = l
    induction l with
    | nil=>rfl
    | cons a l ih=>rw [List.flatMap_cons,ih]; rfl]
  simp [hi]
theorem famEq_all (m:Nat) (f g:Nat→SV):((List.range m).all fun i=>valI (f i) == valI (g i)) = famEq m f g:=by
  rw [Bool.eq_iff_iff]
  simp [famEq]
theorem arrS_in {tab:Tab} (hT:tab.Ok P) {t:TypeId} {n s n' s':Nat} {f g:Nat→SV} {p:Prop} {b:Bool} (h:arrS tab t n s n' s' f g = some (p,b)) (hp:p) (ρ:Env) (w:World) (d:Nat) :
    (Op.equalIn (d+2) t (den ρ (.fam n s f)) (den ρ (.fam n' s' g))).run P w = .ok b w:=by
  unfold arrS at h
  split at h
  · rename_i e he
    split at h
    · rename_i m el hd
      split at h
      · rename_i e2 he2
        split at h
        · rename_i k hd2
          simp only [Option.some.injEq,Prod.mk.injEq] at h
          obtain ⟨rfl,rfl⟩:=h
          obtain ⟨⟨rfl,rfl,rfl,rfl,hz⟩,h1,h2⟩:=hp
          obtain ⟨d',hu,hf⟩:=(hT t e he).desc
          rw [hd] at hf
          simp only [TD.fits] at hf
          subst hf
          obtain ⟨d2,hu2,hf2⟩:=(hT el e2 he2).desc
          rw [hd2] at hf2
          simp only [TD.fits] at hf2
          subst hf2
          have hsz:∀ w,(sizeOf el).run P w = .ok 1 w:=fun w=>by rw [(hT el e2 he2).siz w,hz]
          obtain ⟨xs,ex,hx⟩:=fam_ints (ρ:=ρ) h1
          obtain ⟨ys,ey,hy⟩:=fam_ints (ρ:=ρ) h2
          rw [ex,ey,← famEq_all]
          exact run_equalIn_ints d hu hu2 hsz _ _ hx hy w
        · cases h
      · cases h
    · cases h
  · cases h
theorem arrS_run {tab:Tab} (hT:tab.Ok P) {t:TypeId} {n s n' s':Nat} {f g:Nat→SV} {p:Prop} {b:Bool} (h:arrS tab t n s n' s' f g = some (p,b)) (hp:p) (ρ:Env) (w:World) :
    (Op.equal t (den ρ (.fam n s f)) (den ρ (.fam n' s' g))).run P w = .ok b w∧(∀ op a c,(eqGuard op t a c (den ρ (.fam n s f)) (den ρ (.fam n' s' g))).run P w = .ok () w) ∧
    (binOp .eql t (den ρ (.fam n s f)) (den ρ (.fam n' s' g)) = (do pure (.bool (← Op.equal t (den ρ (.fam n s f)) (den ρ (.fam n' s' g)))))) ∧
    (binOp .neq t (den ρ (.fam n s f)) (den ρ (.fam n' s' g)) = (do pure (.bool (!(← Op.equal t (den ρ (.fam n s f)) (den ρ (.fam n' s' g))))))):=by
  unfold arrS at h
  split at h
  · rename_i e he
    split at h
    · rename_i m el hd
      split at h
      · rename_i e2 he2
        split at h
        · rename_i k hd2
          simp only [Option.some.injEq,Prod.mk.injEq] at h
          obtain ⟨rfl,rfl⟩:=h
          obtain ⟨⟨rfl,rfl,rfl,rfl,hz⟩,h1,h2⟩:=hp
          obtain ⟨d,hu,hf⟩:=(hT t e he).desc
          rw [hd] at hf
          simp only [TD.fits] at hf
          subst hf
          obtain ⟨d2,hu2,hf2⟩:=(hT el e2 he2).desc
          rw [hd2] at hf2
          simp only [TD.fits] at hf2
          subst hf2
          have hsz:∀ w,(sizeOf el).run P w = .ok 1 w:=fun w=>by rw [(hT el e2 he2).siz w,hz]
          obtain ⟨xs,ex,hx⟩:=fam_ints (ρ:=ρ) h1
          obtain ⟨ys,ey,hy⟩:=fam_ints (ρ:=ρ) h2
          rw [ex,ey]
          refine ⟨?_,fun op a c=>?_,rfl,rfl⟩
          · rw [← famEq_all]
            exact run_equalIn_ints 9998 hu hu2 hsz _ _ hx hy w
          · have hg:=run_eqGuardIn_ints 9998 hu hu2 hsz _ _ hx hy w
            cases op <;> simp [eqGuard]
            all_goals
              cases P.eqGuardType P.depth t
              · simp
              · simp [Op.maxDepth,hg]
        · cases h
      · cases h
    · cases h
  · cases h
theorem binS_run {tab:Tab} (hT:tab.Ok P) {op:BinOp} {t:TypeId} {x y v:SV} {p:Prop} (h:binS tab op t x y = some (p,v)) (hp:p) (ρ:Env) (a c:Operand) (w:World) :
    (do eqGuard op t a c (den ρ x) (den ρ y); binOp op t (den ρ x) (den ρ y):Sem Value).run P w = .ok (den ρ v) w∧∀ n,ok n v:=by
  unfold binS at h
  split at h
  · rename_i k a' k' b'
    cases op <;> simp only [Option.some.injEq,Prod.mk.injEq] at h <;> obtain ⟨rfl,rfl⟩:=h <;>
      (refine ⟨?_,fun _=>trivial⟩) <;>
      (first
        | (subst hp; simp [den,eqGuard,binOp,Op.intArith,Op.intCmp,intBits_and,intBits_or,intBits_xor,intBits_andNot]; done)
        | (obtain ⟨rfl,h0⟩:=hp; simp [den,eqGuard,binOp,Op.intDiv,h0]; done)
        | (have h0:¬ b' < 0:=by omega
           simp [den,eqGuard,binOp,Op.shift,h0,shlS,shrS]))
  · rename_i a' b'
    cases op <;> simp only [Option.some.injEq,Prod.mk.injEq,reduceCtorEq] at h <;> obtain ⟨rfl,rfl⟩:=h <;>
      (refine ⟨?_,fun _=>trivial⟩) <;>
      (first
        | (simp [den,eqGuard,binOp,Op.stringOp]; done)
        | (have h0:¬ (((a'.size+b'.size:Nat):Int) > IntKind.i64.max):=by
             have:IntKind.i64.max = 9223372036854775807:=by decide
             omega
           simp only [den,eqGuard,binOp,Op.stringOp]
           rw [if_neg h0]; simp))
  · split at h
    · split at h <;> simp only [Option.some.injEq,Prod.mk.injEq,reduceCtorEq] at h
      rename_i p' b hb
      obtain ⟨rfl,rfl⟩:=h
      obtain ⟨h1,h2,h3,h4⟩:=arrS_run hT hb hp ρ w
      exact ⟨by rw [h3,Sem.run_bind,h2,Result.andThen_ok,Sem.run_bind,h1,Result.andThen_ok]; rfl,fun _=>trivial⟩
    · split at h <;> simp only [Option.some.injEq,Prod.mk.injEq,reduceCtorEq] at h
      rename_i p' b hb
      obtain ⟨rfl,rfl⟩:=h
      obtain ⟨h1,h2,h3,h4⟩:=arrS_run hT hb hp ρ w
      exact ⟨by rw [h4,Sem.run_bind,h2,Result.andThen_ok,Sem.run_bind,h1,Result.andThen_ok]; rfl,fun _=>trivial⟩
    · cases h
  · split at h
    · rename_i e he
      split at h
      · rename_i a' b' _ _ _
        split at h <;> simp only [Option.some.injEq,Prod.mk.injEq,reduceCtorEq] at h
        rename_i hd
        obtain ⟨rfl,rfl⟩:=h
        obtain ⟨d,hu,hf⟩:=(hT t e he).und w
        rw [hd] at hf
        simp only [TD.fits] at hf
        subst hf
        have heq:(Op.equal t (.bool a') (.bool b')).run P w = .ok (a' == b') w:=equal_step fun n=>(by simp only [Op.equalIn,Sem.run_bind,hu,Result.andThen_ok,Sem.run_pure])
        exact ⟨by simp [den,eqGuard,binOp,heq],fun _=>trivial⟩
      · split at h <;> simp only [Option.some.injEq,Prod.mk.injEq,reduceCtorEq] at h
        rename_i b hb
        obtain ⟨rfl,rfl⟩:=h
        obtain ⟨h1,h2,h3,h4⟩:=nilEq_run hT he ρ hb w
        exact ⟨by rw [h3]; simp [h1,h2,den],fun _=>trivial⟩
    · rename_i e he
      split at h
      · rename_i a' b' _ _ _
        split at h <;> simp only [Option.some.injEq,Prod.mk.injEq,reduceCtorEq] at h
        rename_i hd
        obtain ⟨rfl,rfl⟩:=h
        obtain ⟨d,hu,hf⟩:=(hT t e he).und w
        rw [hd] at hf
        simp only [TD.fits] at hf
        subst hf
        have heq:(Op.equal t (.bool a') (.bool b')).run P w = .ok (a' == b') w:=equal_step fun n=>(by simp only [Op.equalIn,Sem.run_bind,hu,Result.andThen_ok,Sem.run_pure])
        exact ⟨by simp [den,eqGuard,binOp,heq],fun _=>trivial⟩
      · split at h <;> simp only [Option.some.injEq,Prod.mk.injEq,reduceCtorEq] at h
        rename_i b hb
        obtain ⟨rfl,rfl⟩:=h
        obtain ⟨h1,h2,h3,h4⟩:=nilEq_run hT he ρ hb w
        exact ⟨by rw [h4]; simp [h1,h2,den],fun _=>trivial⟩
    · cases h
end Go.Sx
set_option linter.all false
namespace Go.Sx
open Go.RowKit
def takeC:Nat→List SV→Option (List SV × List SV)
 | b,[]=>if b = 0 then some ([],[]) else none
 | b,x :: r=>if b = 0 then some ([],x :: r) else if sz x≤b then (match takeC (b - sz x) r with
   | some (a,c)=>some (x :: a,c)
   | none=>none) else none
theorem takeC_spec:∀ {b:Nat} {l a c:List SV},takeC b l = some (a,c)→l = a++c∧szL a = b
 | b,[],a,c,h=>by
  simp only [takeC] at h
  split at h <;> simp at h
  obtain ⟨rfl,rfl⟩:=h
  exact ⟨rfl,by simp [szL]; omega⟩
 | b,x :: r,a,c,h=>by
  simp only [takeC] at h
  split at h
  ·simp at h; obtain ⟨rfl,rfl⟩:=h; exact ⟨rfl,by simp [szL]; omega⟩
  ·split at h
   ·split at h <;> simp at h
    rename_i a' c' hr
    obtain ⟨rfl,rfl⟩:=h
    obtain ⟨h1,h2⟩:=takeC_spec hr
    exact ⟨by rw [h1]; rfl,by simp only [szL]; omega⟩
   ·simp at h
def parts:SV→List SV
 | .agg l=>l
 | x=>[x]
theorem denC_parts (ρ:Env) (x:SV):denC ρ (parts x) = (den ρ x).cells.toList:=by
 cases x <;> simp [parts,denC,den,Value.cells]
theorem szL_parts (x:SV):szL (parts x) = sz x:=by cases x <;> simp [parts,szL,sz]
theorem okL_parts {n:Nat} {x:SV} (h:ok n x):okL n (parts x):=by
 cases x <;> first | exact ⟨h,trivial⟩ | exact h
theorem storL_parts {x:SV} (h:stor x):storL (parts x):=by
 cases x <;> first | exact ⟨h,trivial⟩ | exact h
theorem szL_append:∀ a b:List SV,szL (a++b) = szL a+szL b
 | [],b=>by simp [szL]
 | x :: a,b=>by simp [szL,szL_append a b]; omega
theorem okL_append {n:Nat}:∀ {a b:List SV},okL n (a++b) ↔ okL n a∧okL n b
 | [],b=>by simp [okL]
 | x :: a,b=>by simp [okL,okL_append (a:=a),and_assoc]
theorem storL_append:∀ {a b:List SV},storL (a++b) ↔ storL a∧storL b
 | [],b=>by simp [storL]
 | x :: a,b=>by simp [storL,storL_append (a:=a),and_assoc]
def asRow:SV→SV
 | .agg l=>.agg l
 | .fam n s f=>.fam n s f
 | x=>.agg [x]
def single:SV→Bool
 | .agg _ | .fam .. | .tup _=>false
 | _=>true
def rdF (e:Ent) (l:List SV):Option SV :=
 match e.row with
 | true=>match takeC e.size l with
  | some ([x],_)=>some (asRow x)
  | some (xs,_)=>some (.agg xs)
  | none=>none
 | false=>match l with
  | x :: _=>match single x with
   | true=>some x
   | false=>none
  | []=>none
theorem den_asRow (ρ:Env) (x:SV):den ρ (asRow x) = .agg (denC ρ [x]).toArray:=by
 cases x <;> simp [asRow,den,denC,Value.cells]
theorem ok_asRow {n:Nat} {x:SV} (h:ok n x):ok n (asRow x):=by
 cases x <;> first | exact h | exact ⟨h,trivial⟩
theorem den_single (ρ:Env) {x:SV} (h:single x = true) (hs:stor x):(den ρ x).cells.toList = [den ρ x]:=by
 cases x <;> simp [single] at h <;> simp [den,Value.cells]
 rename_i y
 simp only [stor] at hs
 cases y <;> simp_all [Value.oneCell']
theorem rangeAt_app {w:World} {b o:Nat} {xs ys:List Value}:w.rangeAt b o (xs++ys) ↔ w.rangeAt b o xs∧w.rangeAt b (o+xs.length) ys:=by
 constructor
 ·intro h
  refine ⟨fun j v hj=>h j v ?_,fun j v hj=>?_⟩
  ·have hlt:j < xs.length:=by
    rcases Nat.lt_or_ge j xs.length with h' | h'
    ·exact h'
    ·simp [List.getElem?_eq_none h'] at hj
   rw [List.getElem?_append_left hlt]; exact hj
  ·have:=h (xs.length+j) v (by rw [List.getElem?_append_right (by omega)]; simpa using hj)
   rwa [← Nat.add_assoc] at this
 ·rintro ⟨h1,h2⟩ j v hj
  rcases Nat.lt_or_ge j xs.length with h' | h'
  ·rw [List.getElem?_append_left h'] at hj; exact h1 j v hj
  ·rw [List.getElem?_append_right h'] at hj
   have:=h2 _ v hj
   rwa [show o+xs.length+(j - xs.length) = o+j by omega] at this
variable {P:Program}
theorem rdF_run {t:TypeId} {e:Ent} (he:e.Fits P t) {ρ:Env} {w:World} {b o n:Nat} {l:List SV} {v:SV} (hr:w.rangeAt b o (denC ρ l)) (hok:okL n l) (hst:storL l)
  (h:rdF e l = some v):(loadVar t ⟨b,o,none⟩).run P w = .ok (den ρ v) w∧ok n v∧stor v:=by
 unfold rdF at h
 have hag:=he.agg w
 have hsz:=he.siz w
 split at h
 ·rename_i hrow
  have hd:∃ d,P.underlying t = some d∧d.isRow = true:=by
   obtain ⟨d,hd,hf⟩:=he.desc
   refine ⟨d,hd,?_⟩
   unfold Ent.row at hrow
   split at hrow <;> rename_i hed <;> simp_all [TD.fits]
   obtain ⟨fs,rfl,_⟩:=hf
   rfl
  obtain ⟨d,hd,hdr⟩:=hd
  have key:∀ (xs c:List SV),takeC e.size l = some (xs,c)→(loadVar t ⟨b,o,none⟩).run P w = .ok (.agg (denC ρ xs).toArray) w∧okL n xs∧storL xs:=by
   intro xs c hx
   obtain ⟨rfl,hs⟩:=takeC_spec hx
   rw [okL_append] at hok
   rw [storL_append] at hst
   rw [denC_append,rangeAt_app] at hr
   refine ⟨run_loadVar_mid w b o t _ d hr.1 hd hdr ?_,hok.1,hst.1⟩
   obtain ⟨i,hi,his,_⟩:=he.info
   rw [denC_len ρ n xs hok.1,hs,hi]
   simp [his]
  split at h
  ·rename_i x c hx
   cases h
   obtain ⟨h1,h2,h3⟩:=key _ _ hx
   refine ⟨by rw [h1,den_asRow],ok_asRow h2.1,?_⟩
   have h31:stor x:=h3.1
   cases x <;> first | exact h31 | exact ⟨h31,trivial⟩
  ·rename_i xs c hx _
   cases h
   obtain ⟨h1,h2,h3⟩:=key _ _ (by assumption)
   exact ⟨h1,h2,h3⟩
  ·cases h
 ·rename_i hrow
  split at h
  ·rename_i x r
   split at h <;> cases h
   rename_i hs
   have hst1:stor v:=hst.1
   have h1:=den_single ρ hs hst1
   have hcell:w.cell? ⟨b,o,none⟩ = some (den ρ v):=by
    have:=hr 0 (den ρ v) (by simp [denC,h1])
    simpa using this
   refine ⟨?_,hok.1,hst1⟩
   unfold loadVar
   rw [Sem.run_bind,hag,hrow]
   simp [hcell]
  ·cases h
theorem cells_fam (ρ:Env) (n s:Nat) (f:Nat→SV):(den ρ (.fam n s f)).cells.toList = (List.range n).flatMap fun i=>(den ρ (f i)).cells.toList:=by
 simp only [den]
 rfl
def ldS (h:List Chunk) (e:Ent) (a:SV):Option (Prop × SV) :=
 match a with
 | .ptr nm b=>match lookH h nm with
  | .cells _ fs=>match takeC b fs with
   | some (_,rest)=>match rdF e rest with
    | some v=>some (True,v)
    | none=>none
   | none=>none
  | _=>none
 | .pix nm b i s j=>match lookH h nm with
  | .cells _ fs=>match takeC b fs with
   | some (_,.fam n s' f :: _)=>match takeC j (parts (f i)) with
    | some (_,rest)=>match rdF e rest with
     | some v=>some (s = s'∧i < n,v)
     | none=>none
    | none=>none
   | some (_,rest)=>match takeC (i * s+j) rest with
    | some (_,rest)=>match rdF e rest with
     | some v=>some (True,v)
     | none=>none
    | none=>none
   | none=>none
  | .row _ n s' f=>match b with
   | 0=>match takeC j (parts (f i)) with
    | some (_,rest)=>match rdF e rest with
     | some v=>some (s = s'∧i < n,v)
     | none=>none
    | none=>none
   | _=>none
  | _=>none
 | _=>none
def ldN:SV→List Nat
 | .ptr nm _ | .pix nm ..=>[nm]
 | _=>[]
theorem flatMap_range {α:Type} (g:Nat→List α) (s:Nat):∀ (n:Nat),(∀ i,i < n→(g i).length = s)→∀ i,i < n →
  ∃ a c,(List.range n).flatMap g = a++g i++c∧a.length = i * s
 | 0,_,i,hi=>by omega
 | n+1,h,i,hi=>by
  rw [List.range_succ,List.flatMap_append]
  rcases Nat.lt_or_ge i n with h' | h'
  ·obtain ⟨a,c,h1,h2⟩:=flatMap_range g s n (fun i hi=>h i (by omega)) i h'
   exact ⟨a,c++[n].flatMap g,by rw [h1]; simp,h2⟩
  ·obtain rfl:i = n:=by omega
   exact ⟨(List.range i).flatMap g,[],by simp,flatMap_len g s i (fun i hi=>h i (by omega))⟩
theorem ldS_run {t:TypeId} {e:Ent} (he:e.Fits P t) {ρ:Env} {w:World} {n:Nat} {h:List Chunk} {a v:SV} {p:Prop}
  (hh:∀ k ∈ ldN a,Holds ρ w k (lookH h k)) (hg:∀ k,(lookH h k).good n) (hl:ldS h e a = some (p,v)) (hp:p) :
  (Instr.loadAt t (den ρ a)).run P w = .ok (den ρ v) w∧ok n v:=by
 unfold ldS at hl
 split at hl
 ·rename_i nm b
  have h1:=hh nm (by simp [ldN])
  have h2:=hg nm
  split at hl
  ·rename_i wr fs hc
   rw [hc] at h1 h2
   split at hl
   ·rename_i a' rest ht
    split at hl <;> cases hl
    rename_i hr
    obtain ⟨rfl,hs⟩:=takeC_spec ht
    have hok:=okL_append.1 h2.1
    have hrg:=h1.2.1
    rw [denC_append,rangeAt_app,denC_len ρ n a' hok.1,hs] at hrg
    obtain ⟨q1,q2,_⟩:=rdF_run he hrg.2 hok.2 (storL_append.1 h2.2).2 hr
    exact ⟨by simpa [Instr.loadAt,Instr.sureAddr,den] using q1,q2⟩
   ·cases hl
  ·cases hl
 ·rename_i nm b i s j
  have h1:=hh nm (by simp [ldN])
  have h2:=hg nm
  split at hl
  ·rename_i wr fs hc
   rw [hc] at h1 h2
   split at hl
   ·rename_i a' m s' f c' ht
    split at hl
    ·rename_i a'' rest ht2
     split at hl <;> cases hl
     rename_i hr
     obtain ⟨rfl,hi⟩:=hp
     obtain ⟨rfl,hs⟩:=takeC_spec ht
     obtain ⟨ht3,hs2⟩:=takeC_spec ht2
     have hok:=okL_append.1 h2.1
     have hst:=(storL_append.1 h2.2).2
     have hrg:=h1.2.1
     rw [denC_append,rangeAt_app,denC_len ρ n a' hok.1,hs] at hrg
     have hfam:∀ i,i < m→sz (f i) = s∧ok n (f i):=hok.2.1
     have hfst:∀ i,i < m→stor (f i):=hst.1
     have hrg2:=hrg.2
     rw [denC,cells_fam,rangeAt_app] at hrg2
     obtain ⟨x1,x2,hx,hxl⟩:=flatMap_range (fun i=>(den ρ (f i)).cells.toList) s m (fun k hk=>(cells_len ρ n (f k) (hfam k hk).2).trans (hfam k hk).1) i hi
     have hrg3:=hrg2.1
     rw [hx,rangeAt_app,rangeAt_app,hxl] at hrg3
     have hrg4:=hrg3.1.2
     rw [← denC_parts,ht3,denC_append,rangeAt_app] at hrg4
     have hpo:=okL_parts (hfam i hi).2
     have hps:=storL_parts (hfst i hi)
     rw [ht3] at hpo hps
     rw [denC_len ρ n a'' (okL_append.1 hpo).1,hs2] at hrg4
     obtain ⟨q1,q2,_⟩:=rdF_run he hrg4.2 (okL_append.1 hpo).2 (storL_append.1 hps).2 hr
     exact ⟨by simpa [Instr.loadAt,Instr.sureAddr,den] using q1,q2⟩
    ·cases hl
   ·rename_i a' rest0 _ ht
    split at hl
    ·rename_i a'' rest ht2
     split at hl <;> cases hl
     rename_i hr
     obtain ⟨rfl,hs⟩:=takeC_spec ht
     obtain ⟨rfl,hs2⟩:=takeC_spec ht2
     have hok:=okL_append.1 h2.1
     have hok2:=okL_append.1 hok.2
     have hrg:=h1.2.1
     rw [denC_append,rangeAt_app,denC_len ρ n a' hok.1,hs,denC_append,rangeAt_app,denC_len ρ n a'' hok2.1,hs2] at hrg
     obtain ⟨q1,q2,_⟩:=rdF_run he hrg.2.2 hok2.2 (storL_append.1 (storL_append.1 h2.2).2).2 hr
     exact ⟨by simpa [Instr.loadAt,Instr.sureAddr,den,Nat.add_assoc] using q1,q2⟩
    ·cases hl
   ·cases hl
  ·rename_i wr m s' f hc
   rw [hc] at h1 h2
   split at hl
   ·split at hl
    ·rename_i a'' rest ht2
     split at hl <;> cases hl
     rename_i hr
     obtain ⟨rfl,hi⟩:=hp
     obtain ⟨ht3,hs2⟩:=takeC_spec ht2
     have hfam:∀ i,i < m→sz (f i) = s∧ok n (f i):=h2.1
     have hfst:∀ i,i < m→stor (f i):=h2.2
     have hrg3:=(Holds.some h1 (by omega)).2
     rw [cells_fam] at hrg3
     obtain ⟨x1,x2,hx,hxl⟩:=flatMap_range (fun i=>(den ρ (f i)).cells.toList) s m (fun k hk=>(cells_len ρ n (f k) (hfam k hk).2).trans (hfam k hk).1) i hi
     rw [hx,rangeAt_app,rangeAt_app,hxl] at hrg3
     have hrg4:=hrg3.1.2
     rw [← denC_parts,ht3,denC_append,rangeAt_app] at hrg4
     have hpo:=okL_parts (hfam i hi).2
     have hps:=storL_parts (hfst i hi)
     rw [ht3] at hpo hps
     rw [denC_len ρ n a'' (okL_append.1 hpo).1,hs2] at hrg4
     obtain ⟨q1,q2,_⟩:=rdF_run he hrg4.2 (okL_append.1 hpo).2 (storL_append.1 hps).2 hr
     exact ⟨by simpa [Instr.loadAt,Instr.sureAddr,den] using q1,q2⟩
    ·cases hl
   ·cases hl
  ·cases hl
 ·cases hl
end Go.Sx
set_option linter.all false
namespace Go.Sx
open Go.RowKit
def nthT:List (Nat × TypeId)→Nat→Option (Nat × TypeId)
 | [],_=>none
 | x :: _,0=>some x
 | _ :: l,n+1=>nthT l n
theorem nthT_eq:∀ (l:List (Nat × TypeId)) (n:Nat),nthT l n = l[n]?
 | [],n=>by simp [nthT]
 | x :: l,0=>rfl
 | x :: l,n+1=>by simpa [nthT] using nthT_eq l n
def fldA (tab:Tab) (s:TypeId) (x:SV) (f:Nat):Option (Prop × SV) :=
 match tab s with
 | some ⟨.struct l,_,_,_,_⟩=>match nthT l f with
  | some (off,ty)=>match tab ty with
   | some e=>match x with
    | .ptr nm b=>some (e.size ≠ 0,.ptr nm (b+off))
    | .pix nm b i s j=>some (e.size ≠ 0,.pix nm b i s (j+off))
    | _=>none
   | none=>none
  | none=>none
 | _=>none
def idxA (tab:Tab) (h:List Chunk) (t:TypeId) (x ix:SV):Option (Prop × SV) :=
 match ix with
 | .int _ i=>match tab t with
  | some ⟨.arr n el,_,_,_,_⟩=>match tab el with
   | some e=>match x with
    | .ptr nm b=>some (0≤i∧i < (n:Int),.pix nm b i.toNat e.size 0)
    | _=>none
   | none=>none
  | some ⟨.slice el,_,_,_,_⟩=>match tab el with
   | some e=>match x with
    | .sl nm b e0 s len _=>some (s = e.size∧0≤i∧i < (len:Int),.pix nm b (e0+i.toNat) s 0)
    | .osl nm _ e0 s m=>match lookH h nm with
     | .row _ n' s' _=>some (s = e.size∧0≤i∧i < (m:Int)∧e0+m≤n',.pix nm 0 (e0+i.toNat) s 0)
     | _=>none
    | .v (.slice (some a) len _)=>some (0≤i∧i < (len:Int),.v (.pointer (some (a.add (i.toNat * e.size)))))
    | _=>none
   | none=>none
  | _=>none
 | _=>none
def oslN:SV→List Nat
 | .osl nm ..=>[nm]
 | _=>[]
def byteAt (s:ByteArray) (j:Nat):Int:=((s.data.toList.getD j 0).toNat:Int)
def idxS (tab:Tab) (t:TypeId) (x ix:SV):Option (Prop × SV) :=
 match ix with
 | .int _ i=>match tab t with
  | some ⟨.str,_,_,_,_⟩=>match x with
   | .str s=>some (0≤i∧i < (s.size:Int),.int .u8 (byteAt s i.toNat))
   | _=>none
  | some ⟨.arr n el,_,_,_,_⟩=>match tab el with
   | some e=>match x with
    | .fam m s f=>match rdF e (parts (f i.toNat)) with
     | some v=>some (0≤i∧i < (n:Int)∧i < (m:Int)∧s = e.size,v)
     | none=>none
    | .agg l=>match takeC (i.toNat * e.size) l with
     | some (_,rest)=>match rdF e rest with
      | some v=>some (0≤i∧i < (n:Int),v)
      | none=>none
     | none=>none
    | _=>none
   | none=>none
  | _=>none
 | _=>none
def fldS (tab:Tab) (t:TypeId) (x:SV) (f:Nat):Option (Prop × SV) :=
 match tab t with
 | some ⟨.struct l,_,_,_,_⟩=>match nthT l f with
  | some (off,ty)=>match tab ty with
   | some e=>match x with
    | .agg fs=>match takeC off fs with
     | some (_,rest)=>match rdF e rest with
      | some v=>some (storL fs,v)
      | none=>none
     | none=>none
    | _=>none
   | none=>none
  | none=>none
 | _=>none
def bnd:Option SV→Nat→Option Int
 | none,d=>some d
 | some (.int _ i),_=>some i
 | _,_=>none
def slS (tab:Tab) (h:List Chunk) (t:TypeId) (x:SV) (lo hi:Option SV):Option (Prop × SV) :=
 match tab t with
 | some ⟨.str,_,_,_,_⟩=>match x with
  | .str s=>match bnd lo 0,bnd hi s.size with
   | some l,some h=>some (0≤l∧l≤h∧h≤(s.size:Int),.str (s.extract l.toNat h.toNat))
   | _,_=>none
  | _=>none
 | some ⟨.slice el,_,_,_,_⟩=>match tab el with
  | some e=>match x with
   | .sl nm b e0 s len cap=>match bnd lo 0,bnd hi len with
    | some l,some h=>some (s = e.size∧0≤l∧l≤h∧h≤(cap:Int),.sl nm b (if cap = l.toNat then e0 else e0+l.toNat) s (h.toNat - l.toNat) (cap - l.toNat))
    | _,_=>none
   | .osl nm d0 e0 s m=>match lookH h nm with
    | .row _ n' _ _=>match lo with
     | none=>match bnd hi m with
      | some h=>some (s = e.size∧0≤h∧((e0+h.toNat:Nat):Int)≤n',.osl nm d0 e0 s h.toNat)
      | none=>none
     | some l0=>match bnd (some l0) 0,bnd hi m with
      | some l,some h=>some (s = e.size∧0≤l∧l≤h∧((e0+h.toNat:Nat):Int)≤n',.osl nm (if l.toNat = 0 then d0 else e0) (e0+l.toNat) s (h.toNat - l.toNat))
      | _,_=>none
    | _=>none
   | .v (.slice a len cap)=>match bnd lo 0,bnd hi len with
    | some l,some h=>some (0≤l∧l≤h∧h≤(cap:Int),.v (.slice (if cap = l.toNat then a else a.map (·.add (l.toNat * e.size))) (h.toNat - l.toNat) (cap - l.toNat)))
    | _,_=>none
   | _=>none
  | none=>none
 | some ⟨.arr n el,_,_,_,_⟩=>match tab el with
  | some e=>match x with
   | .ptr nm b=>match bnd lo 0,bnd hi n with
    | some l,some h=>some (0≤l∧l≤h∧h≤(n:Int),.sl nm b (if n = l.toNat then 0 else l.toNat) e.size (h.toNat - l.toNat) (n - l.toNat))
    | _,_=>none
   | _=>none
  | none=>none
 | _=>none
def unS (op:UnOp) (x:SV):Option (Prop × SV) :=
 match op,x with
 | .neg,.int k n=>some (True,.int k (k.wrap (0 - n)))
 | .xor,.int k n=>some (True,.int k (bits .xor k (if k.signed then -1 else k.max) n))
 | .not,.bool b=>some (True,.bool !b)
 | _,_=>none
def convS (tab:Tab) (h:List Chunk) (s d:TypeId) (x:SV):Option (Prop × SV) :=
 match tab s,tab d with
 | some es,some ed=>match ed.d,x with
  | .int k',.int _ n=>some (True,.int k' (k'.wrap n))
  | .str,.str s=>some (True,.str s)
  | .str,.sl nm b e0 1 len _=>match es.d with
   | .slice el=>match tab el with
    | some ⟨.int .u8,_,_,_,_⟩=>match lookH h nm with
     | .cells _ fs=>match takeC b fs with
      | some (_,.fam n 1 f :: _)=>some (e0+len≤n∧∀ i,i < len→f (e0+i) = .int .u8 (valI (f (e0+i))),
        .str ⟨((List.range len).map fun i=>UInt8.ofNat (valI (f (e0+i))).toNat).toArray⟩)
      | _=>none
     | _=>none
    | _=>none
   | _=>none
  | .str,.osl nm _ e0 s len=>match es.d with
   | .slice el=>match tab el with
    | some ⟨.int .u8,_,_,_,_⟩=>match lookH h nm with
     | .row _ n 1 f=>some (s = 1∧e0+len≤n∧∀ i,i < len→f (e0+i) = .int .u8 (valI (f (e0+i))),
        .str ⟨((List.range len).map fun i=>UInt8.ofNat (valI (f (e0+i))).toNat).toArray⟩)
     | _=>none
    | _=>none
   | _=>none
  | .str,.v (.slice none _ _)=>match es.d with
   | .slice el=>match tab el with
    | some ⟨.int .u8,_,_,_,_⟩=>some (True,.str .empty)
    | _=>none
   | _=>none
  | _,_=>none
 | _,_=>none
def convN:SV→List Nat
 | .sl nm ..=>[nm]
 | .osl nm ..=>[nm]
 | _=>[]
def lenS (tab:Tab) (h:List Chunk) (t:TypeId) (x:SV):Option (Prop × SV) :=
 match tab t with
 | some ⟨.str,_,_,_,_⟩=>match x with
  | .str s=>some (True,.int .i64 s.size)
  | _=>none
 | some ⟨.slice _,_,_,_,_⟩=>match x with
  | .sl _ _ _ _ len _=>some (True,.int .i64 len)
  | .osl _ _ _ _ len=>some (True,.int .i64 len)
  | .v (.slice _ len _)=>some (True,.int .i64 len)
  | _=>none
 | some ⟨.arr n _,_,_,_,_⟩=>some (True,.int .i64 n)
 | some ⟨.map ..,_,_,_,_⟩=>match x with
  | .v (.map none)=>some (True,.int .i64 0)
  | .mp nm=>match lookH h nm with
   | .map n _ _ _ _=>some (True,.int .i64 n)
   | .rmap n _ _ _ _=>some (True,.int .i64 n)
   | _=>none
  | _=>none
 | _=>none
def lenN:SV→List Nat
 | .mp nm=>[nm]
 | _=>[]
variable {P:Program}
theorem fldA_run {tab:Tab} (hT:tab.Ok P) {s:TypeId} {x v:SV} {f:Nat} {p:Prop} (h:fldA tab s x f = some (p,v)) (hp:p) (ρ:Env) (w:World) :
  (Instr.fieldAt s (den ρ x) f).run P w = .ok (den ρ v) w∧∀ n,ok n x→ok n v:=by
 unfold fldA at h
 split at h
 ·rename_i l _ _ _ _ he
  split at h
  ·rename_i off ty hn
   split at h
   ·rename_i e hty
    obtain ⟨d,hu,hf⟩:=(hT _ _ he).und w
    obtain ⟨fs,rfl,hfs⟩:=hf
    rw [nthT_eq,← hfs,List.getElem?_map] at hn
    obtain ⟨fld,hfld,hoff⟩:=Option.map_eq_some_iff.1 hn
    simp only [Prod.mk.injEq] at hoff
    have hfa:fs[f]? = some fld:=by simpa using hfld
    have hsz:=(hT _ _ hty).siz w
    rw [← hoff.2] at hsz
    split at h <;> cases h
    ·refine ⟨?_,fun n hx=>hx⟩
     simp only [Instr.fieldAt,Sem.run_bind,hu,Result.andThen_ok,hfa,Instr.sureAddr,den,Sem.run_pure,fieldPlace,hsz]
     simp [hp,Addr.add_mid,hoff.1,Nat.add_assoc]
    ·refine ⟨?_,fun n hx=>hx⟩
     simp only [Instr.fieldAt,Sem.run_bind,hu,Result.andThen_ok,hfa,Instr.sureAddr,den,Sem.run_pure,fieldPlace,hsz]
     simp [hp,Addr.add_mid,hoff.1,Nat.add_assoc]
   ·cases h
  ·cases h
 ·cases h
theorem idxA_run {tab:Tab} (hT:tab.Ok P) {hp':List Chunk} {t:TypeId} {x ix v:SV} {p:Prop} (h:idxA tab hp' t x ix = some (p,v)) (hp:p) (ρ:Env) (w:World) (hH:∀ k ∈ oslN x,Holds ρ w k (lookH hp' k)) :
  (Instr.indexAt t (den ρ x) (den ρ ix)).run P w = .ok (den ρ v) w∧∀ n,ok n x→ok n v:=by
 unfold idxA at h
 split at h
 ·rename_i k i
  split at h
  ·rename_i n el _ _ _ _ he
   split at h
   ·rename_i e hel
    obtain ⟨d,hu,hf⟩:=(hT _ _ he).und w
    have hsz:=(hT _ _ hel).siz w
    simp only [TD.fits] at hf
    subst hf
    split at h <;> cases h
    refine ⟨?_,fun n hx=>hx⟩
    simp only [Instr.indexAt,Sem.run_bind,asIntOf,den,Sem.run_pure,Result.andThen_ok,hu,Instr.sureAddr]
    simp [hp.1,hp.2,hsz,Addr.add_mid]
   ·cases h
  ·rename_i el _ _ _ _ he
   split at h
   ·rename_i e hel
    obtain ⟨d,hu,hf⟩:=(hT _ _ he).und w
    have hsz:=(hT _ _ hel).siz w
    simp only [TD.fits] at hf
    subst hf
    split at h
    ·cases h
     obtain ⟨rfl,h0,h1⟩:=hp
     refine ⟨?_,fun n hx=>hx⟩
     simp only [Instr.indexAt,Sem.run_bind,asIntOf,den,Sem.run_pure,Result.andThen_ok,hu]
     simp [h0,h1,hsz,Addr.add_mid,Nat.add_mul,Nat.add_assoc]
    ·rename_i nm d0 e0 s m
     split at h <;> cases h
     rename_i wr n' s' f hc
     obtain ⟨rfl,h0,h1,h2⟩:=hp
     have h3:=hH nm (by simp [oslN])
     rw [hc] at h3
     have h4:n'≤(ρ nm).c:=h3.nle
     have h5:(ρ nm).c ≠ e0:=by omega
     have h6:=(h3.some (by omega)).1
     refine ⟨?_,fun n hx=>hx⟩
     simp only [Instr.indexAt,Sem.run_bind,asIntOf,den,Sem.run_pure,Result.andThen_ok,hu,h6,cond_false]
     simp [h0,h1,hsz,h5,Addr.add_mid,Nat.add_mul,Nat.add_assoc]
    ·cases h
     refine ⟨?_,fun n hx=>trivial⟩
     simp only [Instr.indexAt,Sem.run_bind,asIntOf,den,Sem.run_pure,Result.andThen_ok,hu]
     simp [hp.1,hp.2,hsz]
    ·cases h
   ·cases h
  ·cases h
 ·cases h
theorem part_run' {t:TypeId} {e:Ent} (he:e.Fits P t) {ρ:Env} {n:Nat} (pre:List Value) {rest:List SV} {v:SV} (hok:okL n rest) (hst:storL rest) (h:rdF e rest = some v) (more:List Value) (w:World) :
  (part t (pre++denC ρ rest++more).toArray pre.length).run P w = .ok (den ρ v) w∧ok n v:=by
 have hag:=he.agg w
 have hsz:=he.siz w
 unfold rdF at h
 unfold part
 split at h
 ·rename_i hrow
  have key:∀ (xs c:List SV),takeC e.size rest = some (xs,c)→(Array.extract (pre++denC ρ rest++more).toArray pre.length (pre.length+e.size)) = (denC ρ xs).toArray∧okL n xs:=by
   intro xs c hx
   obtain ⟨rfl,hs⟩:=takeC_spec hx
   have h2:=denC_len ρ n xs (okL_append.1 hok).1
   refine ⟨?_,(okL_append.1 hok).1⟩
   rw [List.extract_toArray,denC_append,List.extract_eq_drop_take']
   congr 1
   rw [← hs,← h2]
   simp [List.append_assoc,List.take_append]
  split at h
  ·rename_i x c hx
   cases h
   obtain ⟨h1,h2⟩:=key _ _ hx
   rw [Sem.run_bind,hag,hrow]
   simp only [Result.andThen_ok,if_true,Sem.run_bind,hsz,Sem.run_pure,h1,den_asRow]
   exact ⟨trivial,ok_asRow h2.1⟩
  ·rename_i xs c hx _
   cases h
   obtain ⟨h1,h2⟩:=key _ _ (by assumption)
   rw [Sem.run_bind,hag,hrow]
   simp only [Result.andThen_ok,if_true,Sem.run_bind,hsz,Sem.run_pure,h1,den]
   exact ⟨trivial,h2⟩
  ·cases h
 ·rename_i hrow
  split at h
  ·rename_i x r
   split at h <;> cases h
   rename_i hs
   have h1:=den_single ρ hs hst.1
   have h3:(pre++denC ρ (v :: r)++more)[pre.length]? = some (den ρ v):=by
    rw [List.append_assoc,List.getElem?_append_right (Nat.le_refl _)]
    simp [denC,h1]
   rw [Sem.run_bind,hag,hrow]
   simp only [Result.andThen_ok,Bool.false_eq_true,if_false]
   simp only [List.getElem?_toArray,h3,Sem.run_pure]
   exact ⟨trivial,hok.1⟩
  ·cases h
theorem part_run {t:TypeId} {e:Ent} (he:e.Fits P t) {ρ:Env} {n:Nat} {a rest:List SV} {v:SV} (hok:okL n (a++rest)) (hst:storL rest) (h:rdF e rest = some v) (more:List Value) (w:World) :
  (part t ((denC ρ a)++denC ρ rest++more).toArray (szL a)).run P w = .ok (den ρ v) w∧ok n v:=by
 have ho:=okL_append.1 hok
 rw [← denC_len ρ n a ho.1]
 exact part_run' he (denC ρ a) ho.2 hst h more w
theorem fldS_run {tab:Tab} (hT:tab.Ok P) {t:TypeId} {x v:SV} {f:Nat} {p:Prop} (h:fldS tab t x f = some (p,v)) (hp:p) (ρ:Env) {n:Nat} (hx:ok n x) (w:World) :
  (Instr.field t (den ρ x) f).run P w = .ok (den ρ v) w∧ok n v:=by
 unfold fldS at h
 split at h
 ·rename_i l _ _ _ _ he
  split at h
  ·rename_i off ty hn
   split at h
   ·rename_i e hty
    split at h
    ·rename_i fs
     split at h
     ·rename_i a rest ht
      split at h <;> cases h
      rename_i hr
      obtain ⟨d,hu,hf⟩:=(hT _ _ he).und w
      obtain ⟨fa,rfl,hfs⟩:=hf
      rw [nthT_eq,← hfs,List.getElem?_map] at hn
      obtain ⟨fld,hfld,hoff⟩:=Option.map_eq_some_iff.1 hn
      simp only [Prod.mk.injEq] at hoff
      have hfa:fa[f]? = some fld:=by simpa using hfld
      obtain ⟨rfl,hs⟩:=takeC_spec ht
      have hpr:=part_run (hT _ _ hty) (ρ:=ρ) (a:=a) hx (storL_append.1 hp).2 hr [] w
      rw [List.append_nil,← denC_append] at hpr
      refine ⟨?_,hpr.2⟩
      simp only [Instr.field,Sem.run_bind,hu,Result.andThen_ok,hfa,den,asAgg,Sem.run_pure,hoff.1,hoff.2,← hs]
      exact hpr.1
     ·cases h
    ·cases h
   ·cases h
  ·cases h
 ·cases h
theorem fam_part (ρ:Env) {n m s:Nat} {f:Nat→SV} (h:ok n (.fam m s f)) {i:Nat} (hi:i < m) :
  ∃ a c,(List.range m).flatMap (fun i=>(den ρ (f i)).cells.toList) = a++denC ρ (parts (f i))++c∧a.length = i * s:=by
 obtain ⟨a,c,h1,h2⟩:=flatMap_range (fun i=>(den ρ (f i)).cells.toList) s m (fun k hk=>(cells_len ρ n (f k) (h k hk).2).trans (h k hk).1) i hi
 exact ⟨a,c,by rw [h1,denC_parts],h2⟩
theorem idxS_run {tab:Tab} (hT:tab.Ok P) {t:TypeId} {x ix v:SV} {p:Prop} (h:idxS tab t x ix = some (p,v)) (hp:p) (ρ:Env) {n:Nat} (hx:ok n x) (hst:stor x) (w:World) :
  (Instr.index t (den ρ x) (den ρ ix)).run P w = .ok (den ρ v) w∧ok n v:=by
 unfold idxS at h
 split at h
 ·rename_i k i
  split at h
  ·rename_i _ _ _ _ he
   obtain ⟨d,hu,hf⟩:=(hT _ _ he).und w
   simp only [TD.fits] at hf
   subst hf
   split at h <;> cases h
   rename_i s
   refine ⟨?_,trivial⟩
   have hlt:i.toNat < s.size:=by omega
   simp only [Instr.index,Sem.run_bind,asIntOf,den,Sem.run_pure,Result.andThen_ok,hu]
   rw [if_pos hp.1,getElem?_pos s i.toNat hlt]
   simp only [Sem.run_pure,byteAt]
   have:s.data.toList.getD i.toNat 0 = s[i.toNat]:=by
    rw [List.getD_eq_getElem?_getD,List.getElem?_eq_getElem (by simpa using hlt)]
    rfl
   rw [this]
  ·rename_i m el _ _ _ _ he
   split at h
   ·rename_i e hel
    obtain ⟨d,hu,hf⟩:=(hT _ _ he).und w
    have hsz:=(hT _ _ hel).siz w
    simp only [TD.fits] at hf
    subst hf
    split at h
    ·rename_i m' s f
     split at h <;> cases h
     rename_i hr
     obtain ⟨h0,h1,h2,rfl⟩:=hp
     have hi:i.toNat < m':=by omega
     obtain ⟨a,c,hac,hal⟩:=fam_part ρ hx hi
     have hpr:=part_run' (hT _ _ hel) (ρ:=ρ) a (okL_parts (hx i.toNat hi).2) (storL_parts (hst i.toNat hi)) hr c w
     refine ⟨?_,hpr.2⟩
     simp only [Instr.index,Sem.run_bind,asIntOf,den,Sem.run_pure,Result.andThen_ok,hu]
     rw [if_pos ⟨h0,h1⟩]
     simp only [Sem.run_bind,hsz,Result.andThen_ok]
     rw [hac,← hal]
     exact hpr.1
    ·rename_i l
     split at h
     ·rename_i a rest ht
      split at h <;> cases h
      rename_i hr
      obtain ⟨rfl,hs⟩:=takeC_spec ht
      have hpr:=part_run (hT _ _ hel) (ρ:=ρ) (a:=a) hx (storL_append.1 hst).2 hr [] w
      rw [List.append_nil,← denC_append] at hpr
      refine ⟨?_,hpr.2⟩
      simp only [Instr.index,Sem.run_bind,asIntOf,den,Sem.run_pure,Result.andThen_ok,hu]
      rw [if_pos hp]
      simp only [Sem.run_bind,hsz,Result.andThen_ok,← hs]
      exact hpr.1
     ·cases h
    ·cases h
   ·cases h
  ·cases h
 ·cases h
theorem unS_run {op:UnOp} {x v:SV} {p:Prop} (h:unS op x = some (p,v)) (ρ:Env) (w:World) :
  (Op.unary op (den ρ x)).run P w = .ok (den ρ v) w∧∀ n,ok n v:=by
 unfold unS at h
 split at h <;> cases h <;> exact ⟨rfl,fun _=>trivial⟩
theorem lenS_run {tab:Tab} (hT:tab.Ok P) {h:List Chunk} {t ty:TypeId} {x v:SV} {p:Prop} (hh:lenS tab h t x = some (p,v)) (ρ:Env) (w:World) (hH:∀ k ∈ lenN x,Holds ρ w k (lookH h k)) :
  (Builtin.len_ #[t] ty #[den ρ x]).run P w = .ok (den ρ v) w∧∀ n,ok n v:=by
 unfold lenS at hh
 split at hh
 ·rename_i _ _ _ _ he
  obtain ⟨d,hu,hf⟩:=(hT _ _ he).und w
  simp only [TD.fits] at hf
  subst hf
  split at hh <;> cases hh
  exact ⟨by simp [Builtin.len_,hu,den,goInt],fun _=>trivial⟩
 ·rename_i el _ _ _ _ he
  obtain ⟨d,hu,hf⟩:=(hT _ _ he).und w
  simp only [TD.fits] at hf
  subst hf
  split at hh <;> cases hh <;> exact ⟨by simp [Builtin.len_,hu,den,goInt],fun _=>trivial⟩
 ·rename_i m el _ _ _ _ he
  obtain ⟨d,hu,hf⟩:=(hT _ _ he).und w
  simp only [TD.fits] at hf
  subst hf
  cases hh
  exact ⟨by simp [Builtin.len_,hu,den,goInt],fun _=>trivial⟩
 ·rename_i k' el _ _ _ _ he
  obtain ⟨d,hu,hf⟩:=(hT _ _ he).und w
  simp only [TD.fits] at hf
  subst hf
  split at hh
  ·cases hh
   exact ⟨by simp [Builtin.len_,hu,den,goInt],fun _=>trivial⟩
  ·rename_i nm
   split at hh <;> cases hh
   ·rename_i m key val born clock hc
    have h1:=hH nm (by simp [lenN])
    rw [hc] at h1
    have h2:w.heap[(ρ nm).b]? = some (mapObj ρ m key val born clock):=h1.2
    refine ⟨?_,fun _=>trivial⟩
    simp only [Builtin.len_,den]
    simp [hu,getObj,Sem.run,h2,mapObj,goInt]
   ·rename_i m key val born clock hc
    have h1:=hH nm (by simp [lenN])
    rw [hc] at h1
    have h2:w.heap[(ρ nm).b]? = some (mapObj ρ m key val born clock):=h1.2
    refine ⟨?_,fun _=>trivial⟩
    simp only [Builtin.len_,den]
    simp [hu,getObj,Sem.run,h2,mapObj,goInt]
  ·cases hh
 ·cases hh
theorem bound_run {k:IntKind} {i:Int} {y:Nat} {c:BoundsCode} (h:0≤i∧i≤(y:Int)) (w:World):(Instr.sliceBound (.int k i) y c).run P w = .ok i.toNat w:=by
 simp only [Instr.sliceBound,Sem.run_bind,asIntOf,Sem.run_pure,Result.andThen_ok]
 rw [if_pos h]
 rfl
theorem bnd_inv {x:Option SV} {d:Nat} {i:Int} (h:bnd x d = some i):(x = none∧i = d) ∨ ∃ k,x = some (.int k i):=by
 unfold bnd at h
 split at h
 ·cases h; exact .inl ⟨rfl,rfl⟩
 ·cases h; exact .inr ⟨_,rfl⟩
 ·cases h
theorem bounds_run {b:Bool} {len cap:Nat} {lo hi:Option SV} {l h:Int} (hl:bnd lo 0 = some l) (hh:bnd hi len = some h) (h0:0≤l) (h1:l≤h) (h2:h≤(cap:Int)) (hlc:hi = none→len≤cap) (ρ:Env) (w:World) :
  (Instr.sliceBounds b len cap (lo.map (den ρ)) (hi.map (den ρ)) none).run P w = .ok (l.toNat,h.toNat,cap) w:=by
 unfold Instr.sliceBounds
 rcases bnd_inv hl with ⟨rfl,rfl⟩ | ⟨k,rfl⟩ <;> rcases bnd_inv hh with ⟨rfl,rfl⟩ | ⟨k',rfl⟩ <;> simp only [Option.map_none,Option.map_some,Option.isSome_none,Bool.false_eq_true,if_false,den,Sem.run_bind,Sem.run_pure,Result.andThen_ok]
 ·simp
 ·rw [bound_run (by omega)]; simp
 ·rw [bound_run (by omega)]; simp
 ·rw [bound_run (by omega)]; simp only [Result.andThen_ok,Sem.run_bind]; rw [bound_run (by omega)]; simp
theorem slS_run {tab:Tab} (hT:tab.Ok P) {hc':List Chunk} {t:TypeId} {x v:SV} {lo hi:Option SV} {p:Prop} (h:slS tab hc' t x lo hi = some (p,v)) (hp:p) (ρ:Env) (w:World) (hH:∀ k ∈ oslN x,Holds ρ w k (lookH hc' k)) :
  (Instr.sliceAt t (den ρ x) (lo.map (den ρ)) (hi.map (den ρ)) none).run P w = .ok (den ρ v) w∧∀ n,ok n x→ok n v:=by
 unfold slS at h
 split at h
 ·rename_i _ _ _ _ he
  obtain ⟨d,hu,hf⟩:=(hT _ _ he).und w
  simp only [TD.fits] at hf
  subst hf
  split at h
  ·rename_i s
   split at h <;> cases h
   rename_i l h' hl hh
   obtain ⟨h0,h1,h2⟩:=hp
   refine ⟨?_,fun n _=>trivial⟩
   simp only [Instr.sliceAt,Sem.run_bind,hu,Result.andThen_ok,Instr.slice,den,Option.isSome_none,Bool.false_eq_true,if_false]
   simp only [Sem.run_bind,Sem.run_pure,Result.andThen_ok]
   rw [bounds_run hl hh h0 h1 h2 (fun _=>Nat.le_refl _) ρ w]
   rfl
  ·cases h
 ·rename_i el _ _ _ _ he
  split at h
  ·rename_i e hel
   obtain ⟨d,hu,hf⟩:=(hT _ _ he).und w
   have hsz:=(hT _ _ hel).siz w
   simp only [TD.fits] at hf
   subst hf
   split at h
   ·rename_i nm b e0 s len cap
    split at h <;> cases h
    rename_i l h' hl hh
    obtain ⟨rfl,h0,h1,h2⟩:=hp
    refine ⟨?_,fun n hx=>hx⟩
    simp only [Instr.sliceAt,Sem.run_bind,hu,Result.andThen_ok,Instr.slice,den]
    rw [bounds_run hl hh h0 h1 h2 (fun hn=>by subst hn; simp [bnd] at hh; omega) ρ w]
    simp only [Result.andThen_ok,Sem.run_bind,hsz,Sem.run_pure]
    split
    ·rfl
    ·simp [Addr.add_mid,Nat.add_mul,Nat.add_assoc]
   ·rename_i nm d0 e0 s m
    split at h
    ·rename_i wr n' s' f hc
     have h3:=hH nm (by simp [oslN])
     rw [hc] at h3
     have h4:n'≤(ρ nm).c:=h3.nle
     split at h
     ·split at h <;> cases h
      rename_i h' hh
      obtain ⟨rfl,h0,h1⟩:=hp
      refine ⟨?_,fun n hx=>hx⟩
      simp only [Instr.sliceAt,Sem.run_bind,hu,Result.andThen_ok,Instr.slice,den]
      rw [bounds_run (lo:=none) (l:=0) (cap:=(ρ nm).c - e0) rfl hh (by omega) h0 (by omega) (fun hn=>by subst hn; simp [bnd] at hh; omega) ρ w]
      simp only [Result.andThen_ok,Sem.run_bind,hsz,Sem.run_pure]
      cases hnl:(ρ nm).nil with
      | true =>
       simp only [Holds,hnl,if_true] at h3
       simp [h3.2.1]
      | false=>simp [Addr.add_mid]
     ·split at h <;> cases h
      rename_i l h' hl hh
      obtain ⟨rfl,h0,h1,h2⟩:=hp
      refine ⟨?_,fun n hx=>hx⟩
      simp only [Instr.sliceAt,Sem.run_bind,hu,Result.andThen_ok,Instr.slice,den]
      rw [bounds_run (cap:=(ρ nm).c - e0) hl hh h0 h1 (by omega) (fun hn=>by subst hn; simp [bnd] at hh; omega) ρ w]
      simp only [Result.andThen_ok,Sem.run_bind,hsz,Sem.run_pure]
      by_cases hcap:(ρ nm).c - e0 = l.toNat
      ·rw [if_pos hcap,if_pos (show (ρ nm).c = e0+l.toNat by omega)]
       by_cases hl0:l.toNat = 0
       ·rw [if_pos hl0,if_pos (show (ρ nm).c = e0 by omega),Nat.sub_sub]
       ·rw [if_neg hl0,if_neg (show ¬ (ρ nm).c = e0 by omega),Nat.sub_sub]
      ·rw [if_neg hcap,if_neg (show ¬ (ρ nm).c = e0+l.toNat by omega),if_neg (show ¬ (ρ nm).c = e0 by omega),Nat.sub_sub]
       cases hnl:(ρ nm).nil with
       | true =>
        simp only [Holds,hnl,if_true] at h3
        omega
       | false=>simp [Addr.add_mid,Nat.add_mul,Nat.add_assoc]
    ·cases h
   ·rename_i a len cap
    split at h <;> cases h
    rename_i l h' hl hh
    obtain ⟨h0,h1,h2⟩:=hp
    refine ⟨?_,fun n hx=>trivial⟩
    simp only [Instr.sliceAt,Sem.run_bind,hu,Result.andThen_ok,Instr.slice,den]
    rw [bounds_run hl hh h0 h1 h2 (fun hn=>by subst hn; simp [bnd] at hh; omega) ρ w]
    simp only [Result.andThen_ok,Sem.run_bind,hsz,Sem.run_pure]
   ·cases h
  ·cases h
 ·rename_i m el _ _ _ _ he
  split at h
  ·rename_i e hel
   obtain ⟨d,hu,hf⟩:=(hT _ _ he).und w
   have hsz:=(hT _ _ hel).siz w
   simp only [TD.fits] at hf
   subst hf
   split at h
   ·rename_i nm b
    split at h <;> cases h
    rename_i l h' hl hh
    obtain ⟨h0,h1,h2⟩:=hp
    refine ⟨?_,fun n hx=>hx⟩
    simp only [Instr.sliceAt,Sem.run_bind,hu,Result.andThen_ok,Instr.sureAddr,den,Sem.run_pure]
    rw [bounds_run hl hh h0 h1 h2 (fun _=>Nat.le_refl _) ρ w]
    simp only [Result.andThen_ok,Sem.run_bind,hsz,Sem.run_pure]
    split <;> simp [Addr.add_mid,Nat.add_assoc]
   ·cases h
  ·cases h
 ·cases h
end Go.Sx
set_option linter.all false
namespace Go.Sx
open Go.RowKit
def wrF (b:Nat) (new l:List SV):Option (List SV) :=
 match takeC b l with
 | some (a,rest)=>match takeC (szL new) rest with
  | some (_,post)=>some (a++(new++post))
  | none=>none
 | none=>none
theorem wrF_spec {b:Nat} {new l l':List SV} (h:wrF b new l = some l'):∃ a old post,l = a++(old++post)∧szL a = b∧szL old = szL new∧l' = a++(new++post):=by
 unfold wrF at h
 split at h
 ·rename_i a rest h1
  split at h <;> cases h
  rename_i old post h2
  obtain ⟨rfl,h3⟩:=takeC_spec h1
  obtain ⟨rfl,h4⟩:=takeC_spec h2
  exact ⟨a,old,post,rfl,h3,h4,rfl⟩
 ·cases h
def bldF (place:Nat→Option (Nat × Nat)):List SV→List (Nat × SV)→Option (List SV)
 | l,[]=>some l
 | l,(i,x) :: r=>match place i with
  | some (off,size)=>if sz x = size then (match wrF off (parts x) l with
    | some l'=>bldF place l' r
    | none=>none) else none
  | none=>none
def plT (tab:Tab) (l:List (Nat × TypeId)) (i:Nat):Option (Nat × Nat) :=
 match nthT l i with
 | some (off,ty)=>match tab ty with
  | some e=>some (off,e.size)
  | none=>none
 | none=>none
def bldS (tab:Tab) (t:TypeId) (ps:List (Nat × SV)):Option (Prop × SV) :=
 match tab t with
 | some ⟨.struct l,_,_,z,zl⟩=>match ps with
  | []=>some (True,asRow z)
  | p :: ps=>match bldF (plT tab l) zl (p :: ps) with
   | some l'=>some (True,.agg l')
   | none=>none
 | some ⟨.arr _ el,_,_,z,zl⟩=>match ps with
  | []=>some (True,asRow z)
  | p :: ps=>match tab el with
   | some e=>match bldF (fun i=>some (i * e.size,e.size)) zl (p :: ps) with
    | some l'=>some (True,.agg l')
    | none=>none
   | none=>none
 | _=>none
variable {P:Program}
theorem fill_fold (off:Nat):∀ (v:List Value) (k:Nat) (pre old post:List Value),pre.length = off+k→old.length = v.length →
  (v.zipIdx k).foldl (fun (cs:Array Value) (c,j)=>cs.setIfInBounds (off+j) c) (pre++(old++post)).toArray = (pre++(v++post)).toArray
 | [],k,pre,old,post,h1,h2=>by
  obtain rfl:old = []:=List.length_eq_zero_iff.1 (by simpa using h2)
  rfl
 | x :: v,k,pre,old,post,h1,h2=>by
  cases old with
  | nil=>simp at h2
  | cons y old =>
   simp only [List.zipIdx_cons,List.foldl_cons]
   have hs:(pre++(y :: old++post)).toArray.setIfInBounds (off+k) x = ((pre++[x])++(old++post)).toArray:=by
    rw [List.setIfInBounds_toArray,← h1,List.set_append_right _ _ (Nat.le_refl _)]
    simp
   rw [hs,fill_fold off v (k+1) (pre++[x]) old post (by simp; omega) (by simpa using h2)]
   simp
theorem bldF_run {place place':Nat→Option (Nat × Nat)} (hpl:∀ i x,place i = some x→place' i = some x) (ρ:Env) {n:Nat}:∀ (ps:List (Nat × SV)) (l l':List SV),bldF place l ps = some l'→okL n l→(∀ p ∈ ps,ok n p.2) →
  Instr.fill place' (denC ρ l).toArray (ps.map fun p=>(p.1,den ρ p.2)) = some (denC ρ l').toArray∧okL n l'
 | [],l,l',h,ho,_=>by cases h; exact ⟨rfl,ho⟩
 | (i,x) :: ps,l,l',h,ho,hx=>by
  simp only [bldF] at h
  split at h
  ·rename_i off size hp
   split at h
   ·rename_i hsz
    split at h
    ·rename_i l1 hw
     obtain ⟨a,old,post,rfl,ha,hold,rfl⟩:=wrF_spec hw
     rw [szL_parts] at hold
     have hxo:ok n x:=hx (i,x) (by simp)
     have h1:=okL_append.1 ho
     have h2:=okL_append.1 h1.2
     have ho':okL n (a++(parts x++post)):=okL_append.2 ⟨h1.1,okL_append.2 ⟨okL_parts hxo,h2.2⟩⟩
     obtain ⟨q1,q2⟩:=bldF_run hpl ρ ps _ _ h ho' (fun p hp=>hx p (by simp [hp]))
     refine ⟨?_,q2⟩
     rw [← q1]
     have la:=denC_len ρ n a h1.1
     have lo:=denC_len ρ n old h2.1
     have lx:=cells_len ρ n x hxo
     simp only [List.map_cons,Instr.fill,hpl _ _ hp]
     rw [if_neg]
     ·congr 1
      rw [denC_append,denC_append,denC_append,denC_append,denC_parts]
      have hf:=fill_fold off (den ρ x).cells.toList 0 (denC ρ a) (denC ρ old) (denC ρ post) (by omega) (by omega)
      rw [← Array.foldl_toList,Array.toList_zipIdx]
      exact hf
     ·rw [denC_append,denC_append]
      have e0:(den ρ x).cells.size = sz x:=by rw [← lx]; simp
      have e1:(denC ρ a++(denC ρ old++denC ρ post)).toArray.size = szL a+(szL old+(denC ρ post).length):=by simp [la,lo]
      rw [e1,e0,Bool.or_eq_true,decide_eq_true_eq,decide_eq_true_eq]
      omega
    ·cases h
   ·cases h
  ·cases h
theorem mapM_fields {P:Program} (w:World) (g:TypeId→Nat):∀ (fs:List Field),(∀ f ∈ fs,(sizeOf f.type).run P w = .ok (g f.type) w) →
  (fs.mapM fun f=>(do pure (f.offset,← sizeOf f.type):Sem (Nat × Nat))).run P w = .ok (fs.map fun f=>(f.offset,g f.type)) w
 | [],_=>by simp
 | f :: fs,h=>by
  simp only [List.mapM_cons,Sem.run_bind,h f (by simp),Result.andThen_ok,Sem.run_pure,mapM_fields w g fs (fun x hx=>h x (by simp [hx]))]
  rfl
theorem zero_run {t:TypeId} {e:Ent} (he:e.Fits P t) (ρ:Env) (w:World):(zeroValue t).run P w = .ok (den ρ e.zero) w:=by
 obtain ⟨i,hi,_,_,hz⟩:=he.info
 simp [zeroValue,typeInfo,hi,hz ρ]
theorem bldS_run {tab:Tab} (hT:tab.Ok P) {t:TypeId} {ps:List (Nat × SV)} {v:SV} {p:Prop} (h:bldS tab t ps = some (p,v)) (ρ:Env) {n:Nat} (hx:∀ p ∈ ps,ok n p.2) (w:World) :
  (Instr.build t (ps.map fun p=>(p.1,den ρ p.2)).toArray).run P w = .ok (den ρ v) w∧ok n v:=by
 unfold bldS at h
 split at h
 ·rename_i l sz' by' z zl he
  have hF:=hT _ _ he
  obtain ⟨d,hu,hf⟩:=hF.und w
  obtain ⟨fa,rfl,hfs⟩:=hf
  have hz:=zero_run hF ρ w
  have hg:∀ f ∈ fa.toList,(sizeOf f.type).run P w = .ok (((P.info? f.type).map (·.size)).getD 0) w:=by
   intro f hf
   have:=hF.fld l rfl (f.offset,f.type) (by rw [← hfs]; exact List.mem_map.2 ⟨f,hf,rfl⟩)
   obtain ⟨i,hi⟩:=Option.isSome_iff_exists.1 this
   simp only at hi
   simp [sizeOf,typeInfo,hi]
  have hm:=mapM_fields w (fun ty=>((P.info? ty).map (·.size)).getD 0) fa.toList hg
  have hm':(fa.mapM fun f=>(do pure (f.offset,← sizeOf f.type):Sem (Nat × Nat))).run P w = .ok (fa.toList.map fun f=>(f.offset,((P.info? f.type).map (·.size)).getD 0)).toArray w:=by
   rw [Array.mapM_eq_mapM_toList,Sem.run_map,hm]
   rfl
  have hpl:∀ i x,plT tab l i = some x→((fa.toList.map fun f=>(f.offset,((P.info? f.type).map (·.size)).getD 0)).toArray[i]?) = some x:=by
   intro i x hx
   unfold plT at hx
   rw [nthT_eq,← hfs] at hx
   split at hx
   ·rename_i off ty hn
    split at hx <;> cases hx
    rename_i e' hty
    rw [List.getElem?_map] at hn
    obtain ⟨f,hf1,hf2⟩:=Option.map_eq_some_iff.1 hn
    cases hf2
    obtain ⟨i',hi',hs',_⟩:=(hT _ _ hty).info
    simp only [List.getElem?_toArray,List.getElem?_map,hf1,Option.map_some,hi',Option.getD_some,hs']
   ·cases hx
  obtain ⟨z1,z2,z3⟩:=hF.zlok
  simp only at z1 z2 z3 hz
  split at h
  ·cases h
   have hzok:ok n z:=ok_mono (Nat.zero_le _) z hF.zok
   refine ⟨?_,ok_asRow hzok⟩
   simp only [Instr.build,Sem.run_bind,hz,Result.andThen_ok,hu,hm',List.map_nil,Instr.fill,den_asRow,denC]
   simp
  ·rename_i p0 ps0
   split at h <;> cases h
   rename_i l' hb
   obtain ⟨q1,q2⟩:=bldF_run hpl ρ (p0 :: ps0) _ _ hb (okL_mono (Nat.zero_le _) _ z1) hx
   refine ⟨?_,q2⟩
   simp only [Instr.build,Sem.run_bind,hz,Result.andThen_ok,hu,hm']
   rw [z3] at q1
   simp only [Array.toArray_toList] at q1
   simp only [q1,den]
   rfl
 ·rename_i m el sz' by' z zl he
  have hF:=hT _ _ he
  obtain ⟨d,hu,hf⟩:=hF.und w
  simp only [TD.fits] at hf
  subst hf
  have hz:=zero_run hF ρ w
  obtain ⟨z1,z2,z3⟩:=hF.zlok
  simp only at z1 z2 z3 hz
  obtain ⟨ie,hie⟩:=Option.isSome_iff_exists.1 (hF.eld m el rfl)
  have hse:(sizeOf el).run P w = .ok ie.size w:=by simp [sizeOf,typeInfo,hie]
  split at h
  ·cases h
   have hzok:ok n z:=ok_mono (Nat.zero_le _) z hF.zok
   refine ⟨?_,ok_asRow hzok⟩
   simp only [Instr.build,Sem.run_bind,hz,Result.andThen_ok,hu,hse,List.map_nil,Instr.fill,den_asRow,denC]
   simp
  ·rename_i p0 ps0
   split at h
   ·rename_i e hel
    obtain ⟨i',hi',hs',_⟩:=(hT _ _ hel).info
    have hsi:ie.size = e.size:=by
     rw [hie] at hi'
     cases hi'
     exact hs'
    split at h <;> cases h
    rename_i l' hb
    obtain ⟨q1,q2⟩:=bldF_run (place':=fun i=>some (i * e.size,e.size)) (fun _ _ hx=>hx) ρ (p0 :: ps0) _ _ hb (okL_mono (Nat.zero_le _) _ z1) hx
    refine ⟨?_,q2⟩
    simp only [Instr.build,Sem.run_bind,hz,Result.andThen_ok,hu,hse,hsi]
    rw [z3] at q1
    simp only [Array.toArray_toList] at q1
    simp only [q1,den]
    rfl
   ·cases h
 ·cases h
end Go.Sx
set_option linter.all false
namespace Go.Sx
open Go.RowKit
variable {P:Program}
theorem fam_at {ρ:Env} {w:World} {b o n m s:Nat} {f:Nat→SV} {post:List SV} (hr:w.rangeAt b o (denC ρ (.fam m s f :: post))) (hok:ok n (.fam m s f)) {i:Nat} (hi:i < m) :
  w.rangeAt b (o+i * s) (denC ρ (parts (f i))):=by
 rw [denC,cells_fam,rangeAt_app] at hr
 obtain ⟨a,c,h1,h2⟩:=fam_part ρ hok hi
 have h3:=hr.1
 rw [h1,rangeAt_app,rangeAt_app,h2] at h3
 exact h3.1.2
theorem push_fold:∀ (ns:List Int) (s:ByteArray),ns.foldl (fun r n=>r.push (UInt8.ofNat n.toNat)) s = ⟨s.data++(ns.map fun n=>UInt8.ofNat n.toNat).toArray⟩
 | [],s=>by simp
 | n :: ns,s=>by
  simp only [List.foldl_cons,push_fold ns]
  congr 1
  simp [ByteArray.push]
theorem convS_run {tab:Tab} (hT:tab.Ok P) {h:List Chunk} {s d:TypeId} {x v:SV} {p:Prop} (hc:convS tab h s d x = some (p,v)) (hp:p) (ρ:Env) {n:Nat} (w:World)
  (hH:∀ k ∈ convN x,Holds ρ w k (lookH h k)) (hg:∀ k,(lookH h k).good n) :
  (convert s d (den ρ x)).run P w = .ok (den ρ v) w∧ok n v:=by
 unfold convS at hc
 split at hc
 ·rename_i es ed hes hed
  obtain ⟨ds,hus,hfs⟩:=(hT _ _ hes).und w
  obtain ⟨dd,hud,hfd⟩:=(hT _ _ hed).und w
  split at hc
  ·rename_i k' k m hd
   rw [hd] at hfd
   simp only [TD.fits] at hfd
   subst hfd
   cases hc
   refine ⟨?_,trivial⟩
   simp only [convert,Sem.run_bind,hus,hud,Result.andThen_ok,den,Conv.intToInt]
   cases ds <;> rfl
  ·rename_i s' hd
   rw [hd] at hfd
   simp only [TD.fits] at hfd
   subst hfd
   cases hc
   refine ⟨?_,trivial⟩
   simp only [convert,Sem.run_bind,hus,hud,Result.andThen_ok,den]
   cases ds <;> rfl
  ·rename_i nm b e0 len cp hd
   split at hc
   ·rename_i el hel
    split at hc
    ·rename_i _ _ _ _ hu8
     split at hc
     ·rename_i wr fs hch
      split at hc
      ·rename_i a m f post ht
       cases hc
       obtain ⟨hle,hf⟩:=hp
       rw [hd] at hfd
       rw [hel] at hfs
       simp only [TD.fits] at hfd hfs
       subst hfd hfs
       obtain ⟨d1,hd1,hf1⟩:=(hT _ _ hes).desc
       obtain ⟨d2,hd2,hf2⟩:=(hT _ _ hed).desc
       obtain ⟨d3,hd3,hf3⟩:=(hT _ _ hu8).desc
       rw [hel] at hf1
       rw [hd] at hf2
       simp only [TD.fits] at hf1 hf2 hf3
       subst hf1 hf2 hf3
       refine ⟨?_,trivial⟩
       have h1:=hH nm (by simp [convN])
       have h2:=hg nm
       rw [hch] at h1 h2
       obtain ⟨rfl,hs⟩:=takeC_spec ht
       have hok:=okL_append.1 h2.1
       have hrg:=h1.2.1
       rw [denC_append,rangeAt_app,denC_len ρ n a hok.1,hs] at hrg
       have hcell:∀ j,j < len→w.cell? ⟨(ρ nm).b,(ρ nm).o+b+e0 * 1+j,none⟩ = some (.int .u8 (valI (f (e0+j)))):=by
        intro j hj
        have:=fam_at hrg.2 hok.2.1 (i:=e0+j) (by omega) 0 (.int .u8 (valI (f (e0+j)))) (by rw [hf j hj]; simp [parts,denC,den,Value.cells,valI])
        rw [← this]
        congr 2
        omega
       have hload:(loadCells ⟨(ρ nm).b,(ρ nm).o+b+e0 * 1,none⟩ len).run P w = .ok (((List.range len).map fun i=>valI (f (e0+i))).map (Value.int .u8)).toArray w:=by
        have:=run_loadCells_list (P:=P) w ⟨(ρ nm).b,(ρ nm).o+b+e0 * 1,none⟩ (((List.range len).map fun i=>valI (f (e0+i))).map (Value.int .u8)) (by
         intro j v hv
         rw [Addr.add_mid]
         simp only [List.getElem?_map,Option.map_map,List.getElem?_range] at hv
         obtain ⟨k,hk,rfl⟩:=Option.map_eq_some_iff.1 hv
         have hkj:j < len∧k = j:=by
          by_cases hjl:j < len
          ·simp [hjl] at hk; exact ⟨hjl,by omega⟩
          ·simp [hjl] at hk
         obtain ⟨hjl,rfl⟩:=hkj
         exact hcell k hjl)
        simpa using this
       simp only [den]
       rw [run_convert_bytes_string w s d el _ _ _ hd1 hd3 hd2,run_bytesToString w _ _ _ _ hload,push_fold]
       rw [show ByteArray.empty.data = #[] from rfl]
       simp [Function.comp_def]
      ·cases hc
     ·cases hc
    ·cases hc
   ·cases hc
  ·rename_i nm d0 e0 s0 len hd
   split at hc
   ·rename_i el hel
    split at hc
    ·rename_i _ _ _ _ hu8
     split at hc
     ·rename_i wr m f hch
      cases hc
      obtain ⟨rfl,hle,hf⟩:=hp
      rw [hd] at hfd
      rw [hel] at hfs
      simp only [TD.fits] at hfd hfs
      subst hfd hfs
      obtain ⟨d1,hd1,hf1⟩:=(hT _ _ hes).desc
      obtain ⟨d2,hd2,hf2⟩:=(hT _ _ hed).desc
      obtain ⟨d3,hd3,hf3⟩:=(hT _ _ hu8).desc
      rw [hel] at hf1
      rw [hd] at hf2
      simp only [TD.fits] at hf1 hf2 hf3
      subst hf1 hf2 hf3
      refine ⟨?_,trivial⟩
      have h1:=hH nm (by simp [convN])
      have h2:=hg nm
      rw [hch] at h1 h2
      have h4:m≤(ρ nm).c:=h1.nle
      cases hnil:(ρ nm).nil with
      | true =>
       have h5:m = 0:=by
        have:=h1
        simp only [Holds] at this
        rw [if_pos hnil] at this
        exact this.1
       have h6:len = 0:=by omega
       subst h6
       simp only [den,hnil,cond_true]
       rw [run_convert_bytes_string w s d el _ _ _ hd1 hd3 hd2]
       cases (ρ nm).a <;> rfl
      | false =>
      have h7:w.rangeAt (ρ nm).b (ρ nm).o (den ρ (.fam m 1 f)).cells.toList:=by
       have:=h1
       simp only [Holds] at this
       rw [if_neg (by simp [hnil])] at this
       exact this.1
      have hrg:w.rangeAt (ρ nm).b (ρ nm).o (denC ρ (.fam m 1 f :: [])):=by
       simp only [denC,List.append_nil]
       exact h7
      have hcell:∀ j,j < len→w.cell? ⟨(ρ nm).b,(ρ nm).o+(if (ρ nm).c = e0 then d0 * 1 else e0 * 1)+j,none⟩ = some (.int .u8 (valI (f (e0+j)))):=by
       intro j hj
       have:=fam_at hrg h2.1 (i:=e0+j) (by omega) 0 (.int .u8 (valI (f (e0+j)))) (by rw [hf j hj]; simp [parts,denC,den,Value.cells,valI])
       rw [← this,if_neg (by omega)]
       congr 2
       omega
      have hload:(loadCells ⟨(ρ nm).b,(ρ nm).o+(if (ρ nm).c = e0 then d0 * 1 else e0 * 1),none⟩ len).run P w = .ok (((List.range len).map fun i=>valI (f (e0+i))).map (Value.int .u8)).toArray w:=by
       have:=run_loadCells_list (P:=P) w ⟨(ρ nm).b,(ρ nm).o+(if (ρ nm).c = e0 then d0 * 1 else e0 * 1),none⟩ (((List.range len).map fun i=>valI (f (e0+i))).map (Value.int .u8)) (by
        intro j v hv
        rw [Addr.add_mid]
        simp only [List.getElem?_map,Option.map_map,List.getElem?_range] at hv
        obtain ⟨k,hk,rfl⟩:=Option.map_eq_some_iff.1 hv
        have hkj:j < len∧k = j:=by
         by_cases hjl:j < len
         ·simp [hjl] at hk; exact ⟨hjl,by omega⟩
         ·simp [hjl] at hk
        obtain ⟨hjl,rfl⟩:=hkj
        exact hcell k hjl)
       simpa using this
      simp only [den,hnil,cond_false]
      rw [run_convert_bytes_string w s d el _ _ _ hd1 hd3 hd2,run_bytesToString w _ _ _ _ hload,push_fold]
      rw [show ByteArray.empty.data = #[] from rfl]
      simp [Function.comp_def]
     ·cases hc
    ·cases hc
   ·cases hc
  ·rename_i l0 c0 hd
   split at hc
   ·rename_i el hel
    split at hc
    ·rename_i _ _ _ _ hu8
     cases hc
     rw [hd] at hfd
     rw [hel] at hfs
     simp only [TD.fits] at hfd hfs
     subst hfd hfs
     obtain ⟨d1,hd1,hf1⟩:=(hT _ _ hes).desc
     obtain ⟨d2,hd2,hf2⟩:=(hT _ _ hed).desc
     obtain ⟨d3,hd3,hf3⟩:=(hT _ _ hu8).desc
     rw [hel] at hf1
     rw [hd] at hf2
     simp only [TD.fits] at hf1 hf2 hf3
     subst hf1 hf2 hf3
     refine ⟨?_,trivial⟩
     simp only [den]
     rw [run_convert_bytes_string w s d el _ _ _ hd1 hd3 hd2]
     rfl
    ·cases hc
   ·cases hc
  ·cases hc
 ·cases hc
def minS:SV→SV→Option (Prop × SV)
 | .int k x,.int _ y=>some (True,.int k (if y < x then y else x))
 | _,_=>none
def maxS:SV→SV→Option (Prop × SV)
 | .int k x,.int _ y=>some (True,.int k (if y > x then y else x))
 | _,_=>none
def eqF (tab:Tab) (ty:TypeId) (x y:SV):Option (Prop × Bool) :=
 match tab ty with
 | some e=>match e.d with
  | .int k=>match x,y with
   | .int k1 a,.int k2 b=>some (k1 = k2,a == b)
   | _,_=>none
  | .bool=>match x,y with
   | .bool a,.bool b=>some (True,a == b)
   | _,_=>none
  | .str=>match x,y with
   | .str a,.str b=>some (True,a.toList == b.toList)
   | _,_=>none
  | .arr _ _=>match x,y with
   | .fam n s f,.fam n' s' g=>arrS tab ty n s n' s' f g
   | _,_=>none
  | _=>none
 | none=>none
def eqL (tab:Tab):List (Nat × TypeId)→Nat→List SV→List SV→Option (Prop × Bool)
 | [],_,_,_=>some (True,true)
 | (o,ty) :: l,off,x :: xs,y :: ys=>match tab ty with
  | some e=>match rdF e (x :: xs),rdF e (y :: ys),eqL tab l (off+e.size) xs ys with
   | some x',some y',some (q,c)=>match eqF tab ty x' y' with
    | some (p,b)=>some ((o = off∧sz x = e.size∧sz y = e.size∧p)∧q,b && c)
    | none=>none
   | _,_,_=>none
  | none=>none
 | _,_,_,_=>none
def structS (tab:Tab) (t:TypeId) (xs ys:List SV):Option (Prop × Bool) :=
 match tab t with
 | some e=>match e.d with
  | .struct l=>match eqL tab l 0 xs ys with
   | some (p,b)=>some (p∧storL xs∧storL ys,b)
   | none=>none
  | _=>none
 | none=>none
theorem eqF_run {tab:Tab} (hT:tab.Ok P) {ty:TypeId} {x y:SV} {p:Prop} {b:Bool} (h:eqF tab ty x y = some (p,b)) (hp:p) (ρ:Env) (w:World) (d:Nat) :
  (Op.equalIn (d+2) ty (den ρ x) (den ρ y)).run P w = .ok b w:=by
 unfold eqF at h
 split at h
 ·rename_i e he
  obtain ⟨dd,hu,hf⟩:=(hT ty e he).desc
  split at h
  ·rename_i k hd
   rw [hd] at hf
   simp only [TD.fits] at hf
   subst hf
   split at h
   ·cases h
    subst hp
    exact run_equalIn_int w (d+1) ty _ _ _ _ hu
   ·cases h
  ·rename_i hd
   rw [hd] at hf
   simp only [TD.fits] at hf
   subst hf
   split at h
   ·cases h
    exact run_equalIn_bool w (d+1) ty _ _ hu
   ·cases h
  ·rename_i hd
   rw [hd] at hf
   simp only [TD.fits] at hf
   subst hf
   split at h
   ·cases h
    exact run_equalIn_string w (d+1) ty _ _ hu
   ·cases h
  ·split at h
   ·exact arrS_in hT h hp ρ w d
   ·cases h
  ·cases h
 ·cases h
theorem eqL_run {tab:Tab} (hT:tab.Ok P) (ρ:Env) {n:Nat} (d:Nat):∀ (fs:List Field) (pre pre' xs ys:List SV) (off:Nat) {p:Prop} {b:Bool} (_:eqL tab (fs.map fun f=>(f.offset,f.type)) off xs ys = some (p,b)) (_:p)
  (_ : ∀ f ∈ fs, f.name ≠ "_") (_ : okL n (pre ++ xs)) (_ : okL n (pre' ++ ys)) (_ : storL xs) (_ : storL ys) (_ : szL pre = off) (_ : szL pre' = off) (w : World),
  (Op.eqFields (d+2) (denC ρ (pre++xs)).toArray (denC ρ (pre'++ys)).toArray fs).run P w = .ok b w
 | [],_,_,_,_,_,_,_,h,_,_,_,_,_,_,_,_,w=>by
  cases h
  simp [Op.eqFields]
 | f :: fs,pre,pre',[],ys,off,_,_,h,_,_,_,_,_,_,_,_,w=>by simp [eqL] at h
 | f :: fs,pre,pre',x :: xs,[],off,_,_,h,_,_,_,_,_,_,_,_,w=>by simp [eqL] at h
 | f :: fs,pre,pre',x :: xs,y :: ys,off,_,_,h,hp,hn,hx,hy,hsx,hsy,h1,h2,w=>by
  simp only [List.map_cons,eqL] at h
  split at h
  ·rename_i e he
   split at h
   ·rename_i x' y' q c hrx hry hq
    split at h
    ·rename_i p1 b1 hF
     cases h
     obtain ⟨⟨ho,hzx,hzy,hp1⟩,hq1⟩:=hp
     have ex:=part_run (hT _ _ he) (ρ:=ρ) (a:=pre) hx hsx hrx [] w
     have ey:=part_run (hT _ _ he) (ρ:=ρ) (a:=pre') hy hsy hry [] w
     rw [List.append_nil,← denC_append] at ex ey
     have eF:=eqF_run hT hF hp1 ρ w d
     have ih:=eqL_run hT ρ d fs (pre++[x]) (pre'++[y]) xs ys (off+e.size) hq hq1 (fun g hg=>hn g (List.mem_cons_of_mem _ hg)) (by simpa using hx) (by simpa using hy) hsx.2 hsy.2
      (by rw [szL_append]; simp [szL,h1,hzx]) (by rw [szL_append]; simp [szL,h2,hzy]) w
     simp only [List.append_assoc,List.singleton_append] at ih
     have hne : f.name ≠ "_" := hn f (List.mem_cons_self ..)
     rw [h1] at ex
     rw [h2] at ey
     simp only [Op.eqFields,hne,ne_eq,not_false_eq_true,if_true,ho,Sem.run_bind,ex.1,ey.1,eF,Result.andThen_ok]
     cases b1
     ·simp
     ·simpa using ih
    ·cases h
   ·cases h
  ·cases h
theorem structS_run {tab:Tab} (hT:tab.Ok P) {t:TypeId} {xs ys:List SV} {p:Prop} {b:Bool} (h:structS tab t xs ys = some (p,b)) (hp:p) (ρ:Env) {n:Nat} (hx:okL n xs) (hy:okL n ys) (w:World) :
  (Op.equal t (den ρ (.agg xs)) (den ρ (.agg ys))).run P w = .ok b w∧∀ op a c,(eqGuard op t a c (den ρ (.agg xs)) (den ρ (.agg ys))).run P w = .ok () w:=by
 unfold structS at h
 split at h
 ·rename_i e he
  split at h
  ·rename_i l hd
   split at h
   ·rename_i p1 b1 hL
    cases h
    obtain ⟨hp1,hsx,hsy⟩:=hp
    have hF:=hT t e he
    obtain ⟨dd,hu,hf⟩:=hF.desc
    rw [hd] at hf
    obtain ⟨fs,rfl,rfl⟩:=hf
    obtain ⟨hn,hst,hg⟩:=hF.eqs _ hd
    have hfo:P.fieldsOf t = fs:=by simp [Program.fieldsOf,hu]
    have hr:=eqL_run hT ρ 9997 fs.toList [] [] xs ys 0 hL hp1 (hn fs hu) hx hy hsx hsy rfl rfl w
    refine ⟨?_,fun op a c=>run_eqGuard_agg w op t a c _ _ hg⟩
    show (Op.equalIn 10000 t (.agg (denC ρ xs).toArray) (.agg (denC ρ ys).toArray)).run P w = _
    rw [run_equalIn_struct w 9999 t _ _ (by rw [hfo]; exact hu) hst,hfo]
    exact hr
   ·cases h
  ·cases h
 ·cases h
def binS2 (tab:Tab) (op:BinOp) (t:TypeId) (x y:SV):Option (Prop × SV) :=
 match x,y with
 | .agg xs,.agg ys=>match op with
  | .eql=>match structS tab t xs ys with
   | some (p,b)=>some (p,.bool b)
   | none=>none
  | .neq=>match structS tab t xs ys with
   | some (p,b)=>some (p,.bool !b)
   | none=>none
  | _=>none
 | x,y=>binS tab op t x y
theorem binS2_run {tab:Tab} (hT:tab.Ok P) {op:BinOp} {t:TypeId} {x y v:SV} {p:Prop} (h:binS2 tab op t x y = some (p,v)) (hp:p) (ρ:Env) {m:Nat} (hx:ok m x) (hy:ok m y) (a c:Operand) (w:World) :
  (do eqGuard op t a c (den ρ x) (den ρ y); binOp op t (den ρ x) (den ρ y):Sem Value).run P w = .ok (den ρ v) w∧∀ n,ok n v:=by
 unfold binS2 at h
 split at h
 ·split at h
  ·split at h <;> cases h
   rename_i b hS
   obtain ⟨h1,h2⟩:=structS_run hT hS hp ρ hx hy w
   refine ⟨?_,fun _=>trivial⟩
   rw [Sem.run_bind,h2,Result.andThen_ok]
   show (do pure (.bool (← Op.equal t _ _)):Sem Value).run P w = _
   rw [Sem.run_bind,h1,Result.andThen_ok]
   rfl
  ·split at h <;> cases h
   rename_i b hS
   obtain ⟨h1,h2⟩:=structS_run hT hS hp ρ hx hy w
   refine ⟨?_,fun _=>trivial⟩
   rw [Sem.run_bind,h2,Result.andThen_ok]
   show (do pure (.bool (!(← Op.equal t _ _))):Sem Value).run P w = _
   rw [Sem.run_bind,h1,Result.andThen_ok]
   rfl
  ·cases h
 ·exact binS_run hT h hp ρ a c w
def keyE (tab:Tab) (kt:TypeId) (x y:SV):Option (Prop × Bool) :=
 match x,y with
 | .agg xs,.agg ys=>structS tab kt xs ys
 | x,y=>eqF tab kt x y
def flatE (tab:Tab) (ty:TypeId) (x:SV):Prop :=
 match tab ty with
 | some e=>match e.d with
  | .int _ | .bool | .str=>True
  | .arr n el=>match tab el with
   | some e'=>match e'.d with
    | .int _=>match x with
     | .fam m s f=>m = n∧s = 1∧e'.size = 1
     | _=>False
    | _=>False
   | none=>False
  | _=>False
 | none=>False
def flatL (tab:Tab):List (Nat × TypeId)→Nat→List SV→Prop
 | [],_,_=>True
 | (o,ty) :: l,off,x :: xs=>match tab ty with
  | some e=>match rdF e (x :: xs) with
   | some x'=>(o = off∧sz x = e.size∧flatE tab ty x')∧flatL tab l (off+e.size) xs
   | none=>False
  | none=>False
 | _,_,_=>False
def keyS (tab:Tab) (kt:TypeId) (x:SV):Prop :=
 match tab kt with
 | some e=>match e.d with
  | .int _ | .bool | .str=>True
  | .struct l=>match x with
   | .agg xs=>flatL tab l 0 xs∧storL xs
   | _=>False
  | _=>False
 | none=>False
def keysS (tab:Tab) (kt:TypeId) (k:SV) (n:Nat) (key:Nat→SV):Prop:=∀ i,i < n→∃ p b,keyE tab kt k (key i) = some (p,b)∧p
def mfindF (tab:Tab) (kt:TypeId) (k:SV) (key:Nat→SV):Nat→Nat→Option Nat
 | 0,_=>none
 | m+1,i=>match keyE tab kt k (key i) with
  | some (_,true)=>some i
  | _=>mfindF tab kt k key m (i+1)
def mfind (tab:Tab) (kt:TypeId) (k:SV) (n:Nat) (key:Nat→SV):Option Nat:=mfindF tab kt k key n 0
theorem run_forIn_ok {α:Type} (f:α→PUnit→Sem (ForInStep PUnit)) (w:World):∀ (l:List α),(∀ a ∈ l,(f a ⟨⟩).run P w = .ok (.yield ⟨⟩) w)→(forIn l PUnit.unit f).run P w = .ok ⟨⟩ w
 | [],_=>by simp
 | a :: l,h=>by
  rw [List.forIn_cons,Sem.run_bind,h a (List.mem_cons_self ..),Result.andThen_ok]
  exact run_forIn_ok f w l fun b hb=>h b (List.mem_cons_of_mem _ hb)
theorem run_forIn_ok' {α:Type} (f:α→PUnit→Sem (ForInStep PUnit)) (w:World) (l:List α) (h:∀ a ∈ l,(f a ⟨⟩).run P w = .ok (.yield ⟨⟩) w):((do forIn l PUnit.unit f; pure ()):Sem PUnit).run P w = .ok ⟨⟩ w:=by
 rw [Sem.run_bind,run_forIn_ok f w l h]
 rfl
theorem check_flat {t:TypeId} {d:TypeDesc} (h:P.underlying t = some d) (hd:(∃ k,d = .int k) ∨ d = .bool ∨ d = .string) (e:Bool) (n:Nat) (v:Value) (w:World):(Instr.checkKey e (n+1) t v).run P w = .ok () w:=by
 unfold Instr.checkKey
 rw [Sem.run_bind,run_underlying h w,Result.andThen_ok]
 rcases hd with ⟨k,rfl⟩ | rfl | rfl <;> rfl
theorem flatE_run {tab:Tab} (hT:tab.Ok P) {ty:TypeId} {x:SV} (h:flatE tab ty x) (ρ:Env) {m:Nat} (hok:ok m x) (b:Bool) (n:Nat) (w:World):(Instr.checkKey b (n+2) ty (den ρ x)).run P w = .ok () w:=by
 unfold flatE at h
 split at h
 ·rename_i e he
  obtain ⟨dd,hu,hf⟩:=(hT ty e he).desc
  split at h
  ·rename_i k hd
   rw [hd] at hf
   exact check_flat hu (.inl ⟨_,hf⟩) b _ _ w
  ·rename_i hd
   rw [hd] at hf
   exact check_flat hu (.inr (.inl hf)) b _ _ w
  ·rename_i hd
   rw [hd] at hf
   exact check_flat hu (.inr (.inr hf)) b _ _ w
  ·rename_i len el hd
   rw [hd] at hf
   simp only [TD.fits] at hf
   subst hf
   split at h
   ·rename_i e' he'
    obtain ⟨d',hu',hf'⟩:=(hT el e' he').desc
    split at h
    ·rename_i k hd'
     rw [hd'] at hf'
     split at h
     ·rename_i m' s f
      obtain ⟨rfl,rfl,hsz⟩:=h
      have hlen:=cells_len ρ m _ hok
      rw [cells_fam] at hlen
      simp only [sz,Nat.mul_one] at hlen
      unfold Instr.checkKey
      rw [Sem.run_bind,run_underlying hu w,Result.andThen_ok]
      simp only [den]
      rw [Std.Legacy.Range.forIn_eq_forIn_range']
      refine run_forIn_ok' _ w _ fun i hi=>?_
      have hi':i < m':=by
       simp [Std.Legacy.Range.size,List.mem_range'] at hi
       omega
      have hag:(isAgg el).run P w = .ok false w:=by
       rw [(hT _ _ he').agg w]
       simp [Ent.row,hd']
      have hget:∃ v,((List.range m').flatMap fun i=>(den ρ (f i)).cells.toList).toArray[i * 1]? = some v:=by
       rw [List.getElem?_toArray,Nat.mul_one]
       exact ⟨_,List.getElem?_eq_getElem (by rw [hlen]; exact hi')⟩
      obtain ⟨v,hv⟩:=hget
      simp only [Sem.run_bind,(hT _ _ he').siz w,hsz,Result.andThen_ok,part,hag,Bool.false_eq_true,if_false,hv,Sem.run_pure]
      rw [check_flat hu' (.inl ⟨_,hf'⟩) b _ _ w]
      rfl
     ·exact h.elim
    ·exact h.elim
   ·exact h.elim
  ·exact h.elim
 ·exact h.elim
theorem flatL_run {tab:Tab} (hT:tab.Ok P) (ρ:Env) {n:Nat} (b:Bool) (d:Nat):∀ (fs:List Field) (pre xs:List SV) (off:Nat) (_:flatL tab (fs.map fun f=>(f.offset,f.type)) off xs) (_:okL n (pre++xs)) (_:storL xs) (_:szL pre = off) (w:World),
  (forIn fs PUnit.unit fun f _ => (if f.name ≠ "_" then (do
   Instr.checkKey b (d+2) f.type (← part f.type (denC ρ (pre++xs)).toArray f.offset)
   pure (ForInStep.yield PUnit.unit)) else pure (ForInStep.yield PUnit.unit):Sem (ForInStep PUnit))).run P w = .ok ⟨⟩ w
 | [],_,_,_,_,_,_,_,w=>by simp
 | f :: fs,pre,[],off,h,_,_,_,w=>by simp [flatL] at h
 | f :: fs,pre,x :: xs,off,h,hx,hsx,h1,w=>by
  simp only [List.map_cons,flatL] at h
  split at h
  ·rename_i e he
   split at h
   ·rename_i x' hrx
    obtain ⟨⟨ho,hzx,hfl⟩,hq⟩:=h
    have ex:=part_run (hT _ _ he) (ρ:=ρ) (a:=pre) hx hsx hrx [] w
    rw [List.append_nil,← denC_append] at ex
    have ih:=flatL_run hT ρ b d fs (pre++[x]) xs (off+e.size) hq (by simpa using hx) hsx.2 (by rw [szL_append]; simp [szL,h1,hzx]) w
    simp only [List.append_assoc,List.singleton_append] at ih
    rw [h1] at ex
    rw [List.forIn_cons]
    by_cases hne : f.name ≠ "_"
    ·simp only [hne,ne_eq,not_false_eq_true,if_true,ho,Sem.run_bind,ex.1,Result.andThen_ok,flatE_run hT hfl ρ ex.2 b d w,Sem.run_pure]
     simpa using ih
    ·simp only [hne,if_false,Sem.run_bind,Result.andThen_ok,Sem.run_pure]
     simpa using ih
   ·exact h.elim
  ·exact h.elim
theorem keyS_run {tab:Tab} (hT:tab.Ok P) {kt:TypeId} {x:SV} (h:keyS tab kt x) (ρ:Env) {m:Nat} (hok:ok m x) (b:Bool) (w:World):(Instr.checkKey b 10000 kt (den ρ x)).run P w = .ok () w:=by
 unfold keyS at h
 split at h
 ·rename_i e he
  obtain ⟨dd,hu,hf⟩:=(hT kt e he).desc
  split at h
  ·rename_i k hd
   rw [hd] at hf
   exact check_flat hu (.inl ⟨_,hf⟩) b _ _ w
  ·rename_i hd
   rw [hd] at hf
   exact check_flat hu (.inr (.inl hf)) b _ _ w
  ·rename_i hd
   rw [hd] at hf
   exact check_flat hu (.inr (.inr hf)) b _ _ w
  ·rename_i l hd
   rw [hd] at hf
   obtain ⟨fs,rfl,rfl⟩:=hf
   split at h
   ·rename_i xs
    have hr:=flatL_run hT ρ (n:=m) b 9997 fs.toList [] xs 0 h.1 (by simpa [ok] using hok) h.2 rfl w
    show (Instr.checkKey b (9999+1) kt (den ρ (.agg xs))).run P w = _
    unfold Instr.checkKey
    rw [Sem.run_bind,run_underlying hu w,Result.andThen_ok]
    simp only [den]
    rw [← Array.forIn_toList,Sem.run_bind]
    simp only [List.nil_append] at hr
    rw [hr]
    rfl
   ·exact h.elim
  ·exact h.elim
 ·exact h.elim
theorem keyE_run {tab:Tab} (hT:tab.Ok P) {kt:TypeId} {x y:SV} {p:Prop} {b:Bool} (h:keyE tab kt x y = some (p,b)) (hp:p) (ρ:Env) {n:Nat} (hx:ok n x) (hy:ok n y) (w:World) :
  (Op.equal kt (den ρ x) (den ρ y)).run P w = .ok b w:=by
 unfold keyE at h
 split at h
 ·exact (structS_run hT h hp ρ hx hy w).1
 ·exact eqF_run hT h hp ρ w 9998
theorem same_run {tab:Tab} (hT:tab.Ok P) {kt:TypeId} {d:TypeDesc} (hu:P.underlying kt = some d) {x y:SV} {p:Prop} {b c:Bool} (h:keyE tab kt x y = some (p,b)) (hp:p) (ρ:Env) (hs:Instr.sameNow d (den ρ x) (den ρ y) = some c):c = b:=by
 unfold keyE at h
 split at h
 ·simp [den,Instr.sameNow] at hs
 ·unfold eqF at h
  split at h
  ·rename_i e he
   obtain ⟨dd,hu',hf⟩:=(hT kt e he).desc
   rw [hu] at hu'
   cases hu'
   split at h
   ·rename_i k hd
    rw [hd] at hf
    simp only [TD.fits] at hf
    subst hf
    split at h
    ·cases h
     subst hp
     simp [den,Instr.sameNow] at hs
     exact hs.symm
    ·cases h
   ·rename_i hd
    rw [hd] at hf
    simp only [TD.fits] at hf
    subst hf
    split at h
    ·cases h
     simp [den,Instr.sameNow] at hs
     exact hs.symm
    ·cases h
   ·rename_i hd
    rw [hd] at hf
    simp only [TD.fits] at hf
    subst hf
    split at h
    ·rename_i a b'
     cases h
     simp only [den,Instr.sameNow,Option.some.injEq] at hs
     rw [← hs]
     exact beq_toListBytes _ _
    ·cases h
   ·split at h
    ·simp [den,Instr.sameNow] at hs
    ·cases h
   ·cases h
  ·cases h
def ents (ρ:Env) (key val:Nat→SV) (born:Nat→Nat) (n i:Nat):List MapEntry:=(List.range' i n).map fun i=>{ key:=den ρ (key i),val:=den ρ (val i),born:=born i }
theorem ents_succ (ρ:Env) (key val:Nat→SV) (born:Nat→Nat) (n i:Nat):ents ρ key val born (n+1) i = { key:=den ρ (key i),val:=den ρ (val i),born:=born i } :: ents ρ key val born n (i+1):=by
 simp [ents,List.range'_succ]
theorem findNow_run {tab:Tab} (hT:tab.Ok P) {kt:TypeId} {d:TypeDesc} (hu:P.underlying kt = some d) {k:SV} {key val:Nat→SV} {born:Nat→Nat} (ρ:Env):∀ (m i:Nat) (_:∀ j,i≤j→j < i+m→∃ p b,keyE tab kt k (key j) = some (p,b)∧p) {r:Option (Nat × Value)}
  (_:Instr.findNow d (den ρ k) (ents ρ key val born m i) i = some r),r = (mfindF tab kt k key m i).map fun j=>(j,den ρ (val j))
 | 0,i,_,r,h=>by
  simp [ents,Instr.findNow] at h
  simp [mfindF,← h]
 | m+1,i,hk,r,h=>by
  obtain ⟨p,b,hE,hp⟩:=hk i (Nat.le_refl _) (by omega)
  rw [ents_succ] at h
  simp only [Instr.findNow] at h
  simp only [mfindF,hE]
  split at h
  ·rename_i hs
   have:=same_run hT hu hE hp ρ hs
   subst this
   simp at h
   simp [← h]
  ·rename_i hs
   have:=same_run hT hu hE hp ρ hs
   subst this
   exact findNow_run hT hu ρ m (i+1) (fun j h1 h2=>hk j (by omega) (by omega)) h
  ·cases h
theorem findAsk_run {tab:Tab} (hT:tab.Ok P) {kt:TypeId} {k:SV} {key val:Nat→SV} {born:Nat→Nat} (ρ:Env) {n:Nat} (hok:ok n k) (w:World):∀ (m i:Nat) (_:∀ j,i≤j→j < i+m→(∃ p b,keyE tab kt k (key j) = some (p,b)∧p)∧ok n (key j)),
  (Instr.findAsking kt (den ρ k) (ents ρ key val born m i) i).run P w = .ok ((mfindF tab kt k key m i).map fun j=>(j,den ρ (val j))) w
 | 0,i,_=>by simp [ents,Instr.findAsking,mfindF]
 | m+1,i,hk=>by
  obtain ⟨⟨p,b,hE,hp⟩,hy⟩:=hk i (Nat.le_refl _) (by omega)
  rw [ents_succ]
  simp only [Instr.findAsking,mfindF,hE,Sem.run_bind,keyE_run hT hE hp ρ hok hy w,Result.andThen_ok]
  cases b
  ·exact findAsk_run hT ρ hok w m (i+1) fun j h1 h2=>hk j (by omega) (by omega)
  ·simp
theorem findKey_run {tab:Tab} (hT:tab.Ok P) {kt:TypeId} {e:Ent} (he:tab kt = some e) {k:SV} {key val:Nat→SV} {born:Nat→Nat} (ρ:Env) {n:Nat} (hok:ok n k) {m:Nat} (hk:keysS tab kt k m key) (hy:∀ i,i < m→ok n (key i)) (w:World) :
  (Instr.findKey kt (den ρ k) (ents ρ key val born m 0)).run P w = .ok ((mfind tab kt k m key).map fun j=>(j,den ρ (val j))) w:=by
 obtain ⟨d,hu,hf⟩:=(hT kt e he).desc
 unfold Instr.findKey
 rw [Sem.run_bind,run_underlying hu w,Result.andThen_ok]
 split
 ·rename_i r hr
  rw [findNow_run hT hu ρ m 0 (fun j _ h2=>hk j (by omega)) hr]
  rfl
 ·exact findAsk_run hT ρ hok w m 0 fun j _ h2=>⟨hk j (by omega),hy j (by omega)⟩
def lookS (tab:Tab) (h:List Chunk) (ty:TypeId) (x k:SV) (cok:Bool):Option (Prop × SV) :=
 match tab ty with
 | some e0=>match e0.d with
  | .map kt et=>match tab kt,tab et with
   | some _,some e=>match x with
    | .v (.map none)=>some (keyS tab kt k,match cok with | true=>.tup [e.zero,.bool false] | false=>e.zero)
    | .mp nm=>match lookH h nm with
     | .map n key val _ _=>some (keyS tab kt k∧keysS tab kt k n key,match mfind tab kt k n key with
      | some i=>(match cok with | true=>.tup [val i,.bool true] | false=>val i)
      | none=>match cok with | true=>.tup [e.zero,.bool false] | false=>e.zero)
     | .rmap n key val _ _=>some (keyS tab kt k∧keysS tab kt k n key,match mfind tab kt k n key with
      | some i=>(match cok with | true=>.tup [val i,.bool true] | false=>val i)
      | none=>match cok with | true=>.tup [e.zero,.bool false] | false=>e.zero)
     | _=>none
    | _=>none
   | _,_=>none
  | _=>none
 | none=>none
theorem mfind_lt {tab:Tab} {kt:TypeId} {k:SV} {key:Nat→SV}:∀ (m i:Nat) {j:Nat},mfindF tab kt k key m i = some j→i≤j∧j < i+m
 | 0,i,j,h=>by simp [mfindF] at h
 | m+1,i,j,h=>by
  simp only [mfindF] at h
  split at h
  ·cases h; omega
  ·have:=mfind_lt m (i+1) h
   omega
theorem mapObj_list (ρ:Env) (n:Nat) (key val:Nat→SV) (born:Nat→Nat) (clock:Nat):mapObj ρ n key val born clock = .map (ents ρ key val born n 0).toArray clock:=by
 unfold mapObj ents
 rw [List.range_eq_range']
theorem lookS_run {tab:Tab} (hT:tab.Ok P) {h:List Chunk} {ty:TypeId} {x k v:SV} {cok:Bool} {p:Prop} (hl:lookS tab h ty x k cok = some (p,v)) (hp:p) (ρ:Env) {n:Nat} (hok:ok n k) (w:World)
  (hH:∀ j ∈ lenN x,Holds ρ w j (lookH h j)) (hg:∀ j,(lookH h j).good n):(Instr.lookup ty (den ρ x) (den ρ k) cok).run P w = .ok (den ρ v) w∧ok n v:=by
 unfold lookS at hl
 split at hl
 ·rename_i e0 he0
  split at hl
  ·rename_i kt et hd
   split at hl
   ·rename_i ek e hek he
    obtain ⟨dd,hu,hf⟩:=(hT ty e0 he0).desc
    rw [hd] at hf
    simp only [TD.fits] at hf
    subst hf
    have hz:=zero_run (hT _ _ he) ρ w
    have hzo:=ok_mono (Nat.zero_le n) _ (hT _ _ he).zok
    unfold Instr.lookup
    split at hl
    ·cases hl
     simp only [den,Sem.run_bind,run_underlying hu w,Result.andThen_ok,Sem.run_pure]
     have h0:=findKey_run (key:=fun _=>.tup []) (val:=fun _=>.tup []) (born:=fun _=>0) (m:=0) hT hek ρ hok (fun i hi=>absurd hi (Nat.not_lt_zero _)) (fun i hi=>absurd hi (Nat.not_lt_zero _)) w
     simp only [ents,List.range'_zero,List.map_nil] at h0
     rw [keyS_run hT hp ρ hok _ w,Result.andThen_ok,h0]
     simp only [mfind,mfindF,Option.map_none,Result.andThen_ok,Sem.run_bind,hz,Sem.run_pure]
     cases cok
     ·exact ⟨rfl,hzo⟩
     ·exact ⟨by simp [den,denL],by simp only [ok,okL,and_true]; exact hzo⟩
    ·rename_i nm
     split at hl
     ·rename_i m key val born clock hc
      cases hl
      obtain ⟨hp1,hp2⟩:=hp
      have h1:=hH nm (by simp [lenN])
      have h2:=hg nm
      rw [hc] at h1 h2
      simp only [Holds,mapObj_list] at h1
      have h0:=findKey_run (key:=key) (val:=val) (born:=born) (m:=m) hT hek ρ hok hp2 (fun i hi=>(h2 i hi).1) w
      simp only [den,Sem.run_bind,run_underlying hu w,Result.andThen_ok,Sem.run_pure]
      have hgo:(getObj (ρ nm).b).run P w = .ok (.map (ents ρ key val born m 0).toArray clock) w:=by simp [getObj,Sem.run,h1.2]
      rw [hgo]
      simp only [Result.andThen_ok,Sem.run_bind,Sem.run_pure]
      rw [keyS_run hT hp1 ρ hok _ w,Result.andThen_ok]
      rw [h0]
      cases hm:mfind tab kt k m key with
      | none =>
       simp only [Option.map_none,Result.andThen_ok,Sem.run_bind,hz,Sem.run_pure]
       cases cok
       ·exact ⟨rfl,hzo⟩
       ·exact ⟨by simp [den,denL],by simp only [ok,okL,and_true]; exact hzo⟩
      | some i =>
       have hi:i < m:=by
        have:=mfind_lt m 0 hm
        omega
       simp only [Option.map_some,Result.andThen_ok,Sem.run_bind,Sem.run_pure]
       cases cok
       ·exact ⟨rfl,(h2 i hi).2⟩
       ·exact ⟨by simp [den,denL],by simp only [ok,okL,and_true]; exact (h2 i hi).2⟩
     ·rename_i m key val born clock hc
      cases hl
      obtain ⟨hp1,hp2⟩:=hp
      have h1:=hH nm (by simp [lenN])
      have h2:=hg nm
      rw [hc] at h1 h2
      simp only [Holds,mapObj_list] at h1
      have h0:=findKey_run (key:=key) (val:=val) (born:=born) (m:=m) hT hek ρ hok hp2 (fun i hi=>(h2 i hi).1) w
      simp only [den,Sem.run_bind,run_underlying hu w,Result.andThen_ok,Sem.run_pure]
      have hgo:(getObj (ρ nm).b).run P w = .ok (.map (ents ρ key val born m 0).toArray clock) w:=by simp [getObj,Sem.run,h1.2]
      rw [hgo]
      simp only [Result.andThen_ok,Sem.run_bind,Sem.run_pure]
      rw [keyS_run hT hp1 ρ hok _ w,Result.andThen_ok]
      rw [h0]
      cases hm:mfind tab kt k m key with
      | none =>
       simp only [Option.map_none,Result.andThen_ok,Sem.run_bind,hz,Sem.run_pure]
       cases cok
       ·exact ⟨rfl,hzo⟩
       ·exact ⟨by simp [den,denL],by simp only [ok,okL,and_true]; exact hzo⟩
      | some i =>
       have hi:i < m:=by
        have:=mfind_lt m 0 hm
        omega
       simp only [Option.map_some,Result.andThen_ok,Sem.run_bind,Sem.run_pure]
       cases cok
       ·exact ⟨rfl,(h2 i hi).2⟩
       ·exact ⟨by simp [den,denL],by simp only [ok,okL,and_true]; exact (h2 i hi).2⟩
     ·cases hl
    ·cases hl
   ·cases hl
  ·cases hl
 ·cases hl
def binH (tab:Tab) (h:List Chunk) (op:BinOp) (t:TypeId) (x y:SV):Option (Prop × SV) :=
 match x with
 | .osl nm _ e _ m=>match tab t with
  | some ⟨.slice _,_,_,_,_⟩=>match y with
   | .v (.slice none _ _)=>match lookH h nm with
    | .row _ n' _ _=>match op with
     | .eql=>some (0 < m∧e+m≤n',.bool false)
     | .neq=>some (0 < m∧e+m≤n',.bool true)
     | _=>none
    | _=>none
   | _=>none
  | _=>none
 | x=>binS2 tab op t x y
theorem binH_run {tab:Tab} (hT:tab.Ok P) {h:List Chunk} {op:BinOp} {t:TypeId} {x y v:SV} {p:Prop} (hb:binH tab h op t x y = some (p,v)) (hp:p) (ρ:Env) {m:Nat} (hx:ok m x) (hy:ok m y) (a c:Operand) (w:World)
  (hH:∀ k ∈ oslN x,Holds ρ w k (lookH h k)):(do eqGuard op t a c (den ρ x) (den ρ y); binOp op t (den ρ x) (den ρ y):Sem Value).run P w = .ok (den ρ v) w∧∀ n,ok n v:=by
 unfold binH at hb
 split at hb
 ·rename_i nm d e s mm
  split at hb
  ·rename_i el _ _ _ _ htab
   split at hb
   ·rename_i l1 c1
    split at hb
    ·rename_i wr n' s' f hc
     have h1:=hH nm (by simp [oslN])
     rw [hc] at h1
     have key:0 < mm∧e+mm≤n'→∃ ad cp,den ρ (.osl nm d e s mm) = den ρ (.v (.slice (some ad) mm cp)):=fun hq=>by
      have h2:=(Holds.some h1 (by omega)).1
      exact ⟨_,_,by simp only [den,h2,cond_false]; rfl⟩
     split at hb
     ·cases hb
      obtain ⟨ad,cp,hk⟩:=key hp
      rw [hk]
      have hq:binS2 tab .eql t (.v (.slice (some ad) mm cp)) (.v (.slice none l1 c1)) = some (True,.bool false):=by simp [binS2,binS,htab,nilEq,nilS]
      exact binS2_run hT hq trivial ρ (m:=m) trivial trivial a c w
     ·cases hb
      obtain ⟨ad,cp,hk⟩:=key hp
      rw [hk]
      have hq:binS2 tab .neq t (.v (.slice (some ad) mm cp)) (.v (.slice none l1 c1)) = some (True,.bool true):=by simp [binS2,binS,htab,nilEq,nilS]
      exact binS2_run hT hq trivial ρ (m:=m) trivial trivial a c w
     ·cases hb
    ·cases hb
   ·cases hb
  ·cases hb
 ·exact binS2_run hT hb hp ρ hx hy a c w
def qv (tab:Tab) (t:Slots) (h:List Chunk):Op→Option (Prop × SV)
 | .move x=>some (True,ev t x)
 | .assign x=>some (True,ev t x)
 | .pick c a b=>match ev t c with
  | .bool p=>match ev t a,ev t b with
   | .bool x,.bool y=>some (True,.bool (bif p then x else y))
   | x,.tup []=>some (p = true,x)
   | .tup [],y=>some (p = false,y)
   | _,_=>none
  | _=>none
 | .nilCheck x=>match ev t x with
  | .ptr nm b=>some (True,.ptr nm b)
  | .pix nm b i s j=>some (True,.pix nm b i s j)
  | .v (.pointer (some a))=>some (True,.v (.pointer (some a)))
  | .fn (.func f) a c=>some (True,.fn (.func f) a c)
  | .fn (.yield f) a c=>some (True,.fn (.yield f) a c)
  | _=>none
 | .binOp op ty x y _=>binH tab h op ty (ev t x) (ev t y)
 | .unOp op _ x=>unS op (ev t x)
 | .convert s d x=>convS tab h s d (ev t x)
 | .fieldAddr s x f=>fldA tab s (ev t x) f
 | .field s x f=>fldS tab s (ev t x) f
 | .indexAddr ty x i=>idxA tab h ty (ev t x) (ev t i)
 | .index ty x i=>match idxS tab ty (ev t x) (ev t i) with
  | some (p,v)=>some (p∧stor (ev t x),v)
  | none=>none
 | .slice ty x lo hi none=>slS tab h ty (ev t x) (lo.map (ev t)) (hi.map (ev t))
 | .load ty a=>match tab ty with
  | some e=>ldS h e (ev t a)
  | none=>none
 | .build ty ps=>bldS tab ty (ps.toList.map fun p=>(p.1,ev t p.2))
 | .makeFunc f a c=>some (True,.fn f (a.toList.map (ev t)) (c.toList.map (ev t)))
 | .extract x i=>match ev t x with
  | .tup l=>some (i < l.length,look l i)
  | _=>none
 | .call ⟨.builtin .len,⟨[x]⟩,⟨[ty]⟩⟩=>lenS tab h ty (ev t x)
 | .call ⟨.builtin .min,⟨[x,y]⟩,_⟩=>minS (ev t x) (ev t y)
 | .call ⟨.builtin .max,⟨[x,y]⟩,_⟩=>maxS (ev t x) (ev t y)
 | .lookup ty x k ok=>lookS tab h ty (ev t x) (ev t k) ok
 | _=>none
def qn (t:Slots):Op→List Nat
 | .convert _ _ x=>convN (ev t x)
 | .binOp _ _ x _ _=>oslN (ev t x)
 | .load _ a=>ldN (ev t a)
 | .indexAddr _ x _=>oslN (ev t x)
 | .slice _ x ..=>oslN (ev t x)
 | .call ⟨.builtin .len,⟨[x]⟩,_⟩=>lenN (ev t x)
 | .lookup _ x _ _=>lenN (ev t x)
 | _=>[]
theorem okL_map_ev {n:Nat} {t:Slots} (h:okS n t) (l:List Operand):okL n (l.map (ev t)):=by
 induction l with
 | nil=>trivial
 | cons x l ih=>exact ⟨ok_ev t x h,ih⟩
theorem denL_map_ev (ρ:Env) (st:St) {m:Nat} (h:okS m st.t):∀ l:List Operand,denL ρ (l.map (ev st.t)) = l.map (act ρ st).eval
 | []=>rfl
 | x :: l=>by simp only [List.map_cons,denL,denL_map_ev ρ st h l,act_eval ρ st h]
theorem qv_run {tab:Tab} (hT:tab.Ok P) {st:St} {o:Oper} {v:SV} {p:Prop} (h:qv tab st.t st.h o.op = some (p,v)) (hp:p) (ρ:Env) {n:Nat} (hok:okS n st.t) (w:World)
  (hH:∀ k ∈ qn st.t o.op,Holds ρ w k (lookH st.h k)) (hg:∀ k,(lookH st.h k).good n) :
  (execOp (act ρ st).eval o).run P w = .ok (.value (den ρ v)) w∧ok n v:=by
 have hev:=fun x=>act_eval ρ st hok x
 have hoe:=fun x=>ok_ev st.t x hok
 obtain ⟨dst,op,type,pos,after,guard⟩:=o
 simp only at h hH
 unfold qv at h
 unfold execOp
 simp only
 split at h <;> simp only [hev]
 ·cases h; exact ⟨rfl,hoe _⟩
 ·cases h; exact ⟨rfl,hoe _⟩
 ·split at h
  ·rename_i c a b _ q hq
   rw [hq]
   split at h <;> cases h <;> simp only [den,asBool,Sem.run_bind,Sem.run_pure,Result.andThen_ok]
   ·rename_i h1 h2
    rw [h1,h2]
    refine ⟨?_,trivial⟩
    cases q <;> rfl
   ·subst hp
    exact ⟨rfl,hoe _⟩
   ·subst hp
    exact ⟨rfl,hoe _⟩
  ·cases h
 ·split at h <;> cases h <;> rename_i h1 <;> rw [h1] <;> refine ⟨rfl,?_⟩ <;> rw [← h1] <;> exact hoe _
 ·obtain ⟨q1,q2⟩:=binH_run hT h hp ρ (hoe _) (hoe _) _ _ w (by simpa [qn] using hH)
  simp only [Sem.run_bind] at q1 ⊢
  exact ⟨by rw [q1]; rfl,q2 n⟩
 ·obtain ⟨q1,q2⟩:=unS_run (P:=P) h ρ w
  exact ⟨by simp only [Sem.run_bind,q1]; rfl,q2 n⟩
 ·obtain ⟨q1,q2⟩:=convS_run hT h hp ρ w (by simpa [qn] using hH) hg
  exact ⟨by simp only [Sem.run_bind,q1]; rfl,q2⟩
 ·obtain ⟨q1,q2⟩:=fldA_run hT h hp ρ w
  exact ⟨by simp only [Sem.run_bind,q1]; rfl,q2 n (hoe _)⟩
 ·obtain ⟨q1,q2⟩:=fldS_run hT h hp ρ (hoe _) w
  exact ⟨by simp only [Sem.run_bind,q1]; rfl,q2⟩
 ·obtain ⟨q1,q2⟩:=idxA_run hT h hp ρ w (by simpa [qn] using hH)
  exact ⟨by simp only [Sem.run_bind,q1]; rfl,q2 n (hoe _)⟩
 ·split at h <;> cases h
  rename_i hx
  obtain ⟨q1,q2⟩:=idxS_run hT hx hp.1 ρ (hoe _) hp.2 w
  exact ⟨by simp only [Sem.run_bind,q1]; rfl,q2⟩
 ·rename_i ty x lo hi
  obtain ⟨q1,q2⟩:=slS_run hT h hp ρ w (by simpa [qn] using hH)
  refine ⟨?_,q2 n (hoe _)⟩
  have e1:Option.map (act ρ st).eval lo = Option.map (den ρ) (Option.map (ev st.t) lo):=by cases lo <;> simp [hev]
  have e2:Option.map (act ρ st).eval hi = Option.map (den ρ) (Option.map (ev st.t) hi):=by cases hi <;> simp [hev]
  rw [e1,e2]
  simp only [Sem.run_bind,Option.map_none,q1]
  rfl
 ·split at h
  ·rename_i e he
   obtain ⟨q1,q2⟩:=ldS_run (hT _ _ he) (ρ:=ρ) (w:=w) (n:=n) (by simpa [qn] using hH) hg h hp
   exact ⟨by simp only [Sem.run_bind,q1]; rfl,q2⟩
  ·cases h
 ·rename_i ty ps
  obtain ⟨q1,q2⟩:=bldS_run hT h ρ (n:=n) (by
   intro q hq
   simp only [List.mem_map] at hq
   obtain ⟨y,_,rfl⟩:=hq
   exact hoe _) w
  refine ⟨?_,q2⟩
  have e1:ps.map (fun x=>(x.1,(act ρ st).eval x.2)) = (List.map (fun p=>(p.1,den ρ p.2)) (List.map (fun p=>(p.1,ev st.t p.2)) ps.toList)).toArray:=by
   apply Array.ext'
   simp [hev]
  have e2:ps.map (fun x=>(x.1,den ρ (ev st.t x.2))) = (List.map (fun p=>(p.1,den ρ p.2)) (List.map (fun p=>(p.1,ev st.t p.2)) ps.toList)).toArray:=by
   apply Array.ext'
   simp
  first
   | (rw [e1]; simp only [Sem.run_bind,q1]; rfl)
   | (simp only [Sem.run_bind]; rw [e2,q1]; rfl)
 ·rename_i f a c
  cases h
  refine ⟨?_,okL_map_ev hok _,okL_map_ev hok _⟩
  simp only [Instr.makeFunc,Sem.run_bind,Sem.run_pure,Result.andThen_ok,den,denL_map_ev ρ st hok]
  have e1:∀ a:Array Operand,a.map (fun x=>den ρ (ev st.t x)) = (a.toList.map (act ρ st).eval).toArray:=by
   intro a
   apply Array.ext'
   simp [hev]
  have e2:∀ a:Array Operand,a.map ((act ρ st).eval) = (a.toList.map (act ρ st).eval).toArray:=by
   intro a
   apply Array.ext'
   simp
  first
   | (rw [e2,e2])
   | (rw [e1,e1])
 ·split at h <;> cases h
  rename_i l hl
  rw [hl]
  have hlo:okL n l:=by have:=hoe (by assumption:Operand); rw [hl] at this; exact this
  refine ⟨?_,ok_look l _ hlo⟩
  simp only [Sem.run_bind,Instr.extract,den]
  have hk:∀ k,k < l.length→(denL ρ l).toArray[k]? = some (den ρ (look l k)):=by
   intro k hk
   have h1:=den_look ρ l k
   simp only [List.getElem?_toArray]
   rw [List.getElem?_eq_getElem (by rw [denL_length]; exact hk)] at h1 ⊢
   simpa using h1
  rw [hk _ hp]
  rfl
 ·rename_i x ty
  obtain ⟨q1,q2⟩:=lenS_run hT h ρ (ty:=type) w (by simpa [qn] using hH)
  refine ⟨?_,q2 n⟩
  simp only [Sem.run_bind,resolve,Sem.run_pure,Result.andThen_ok,invoke,builtin]
  have:Array.map (act ρ st).eval #[x] = #[den ρ (ev st.t x)]:=by simp [hev]
  rw [this,q1]
  rfl
 ·rename_i x y _
  unfold minS at h
  split at h <;> cases h
  rename_i h1 h2
  refine ⟨?_,trivial⟩
  simp only [Sem.run_bind,resolve,Sem.run_pure,Result.andThen_ok,invoke,builtin]
  have:Array.map (act ρ st).eval #[x,y] = #[den ρ (ev st.t x),den ρ (ev st.t y)]:=by simp [hev]
  rw [this,h1,h2]
  simp [Builtin.min_,den,Builtin.min2]
 ·rename_i x y _
  unfold maxS at h
  split at h <;> cases h
  rename_i h1 h2
  refine ⟨?_,trivial⟩
  simp only [Sem.run_bind,resolve,Sem.run_pure,Result.andThen_ok,invoke,builtin]
  have:Array.map (act ρ st).eval #[x,y] = #[den ρ (ev st.t x),den ρ (ev st.t y)]:=by simp [hev]
  rw [this,h1,h2]
  simp [Builtin.max_,den,Builtin.max2]
 ·obtain ⟨q1,q2⟩:=lookS_run hT h hp ρ (hoe _) w (by simpa [qn] using hH) hg
  exact ⟨by simp only [Sem.run_bind,q1]; rfl,q2⟩
 ·cases h
end Go.Sx
set_option linter.all false
namespace Go.Sx
open Go.RowKit
variable {P:Program}
theorem rangeAt_block {w w':World} {b o:Nat} {cs:List Value} (h:w'.heap[b]? = w.heap[b]?) (hr:w.rangeAt b o cs):w'.rangeAt b o cs:=fun j v hj=>by
 rw [World.cell?_of_block (w:=w) (w':=w') h]; exact hr j v hj
theorem there_block {w w':World} {b o n:Nat} (h:w'.heap[b]? = w.heap[b]?) (hr:w.there b o n):w'.there b o n:=fun j hj=>by
 rw [World.cell?_of_block (w:=w) (w':=w') h,World.frozen?_of_block (w:=w) (w':=w') h]; exact hr j hj
theorem holds_block {ρ:Env} {w w':World} {k:Nat} {c:Chunk} (h:(ρ k).nil = false→w'.heap[(ρ k).b]? = w.heap[(ρ k).b]?) (hh:Holds ρ w k c):Holds ρ w' k c:=by
 cases c with
 | none=>trivial
 | cells wr fs=>exact ⟨hh.1,rangeAt_block (h hh.1) hh.2.1,fun hw=>there_block (h hh.1) (hh.2.2 hw)⟩
 | row wr n s f =>
  simp only [Holds] at hh ⊢
  split
  ·rename_i hn; rw [if_pos hn] at hh; exact hh
  ·rename_i hn
   rw [if_neg hn] at hh
   have hn':(ρ k).nil = false:=by simpa using hn
   exact ⟨rangeAt_block (h hn') hh.1,hh.2.1,fun hw=>there_block (h hn') (hh.2.2 hw)⟩
 | map n key val born clock=>exact ⟨hh.1,(h hh.1).trans hh.2⟩
 | rmap n key val born clock=>exact ⟨hh.1,(h hh.1).trans hh.2⟩
 | iter m since seen st=>exact ⟨hh.1,hh.2.1,(h hh.1).trans hh.2.2⟩
theorem good_mono {n m:Nat} (h:n≤m) {c:Chunk} (hc:c.good n):c.good m:=by
 cases c with
 | none=>trivial
 | cells wr fs=>exact ⟨okL_mono h _ hc.1,hc.2⟩
 | row wr n s f=>exact ⟨ok_mono h _ hc.1,hc.2⟩
 | map k key val born clock=>exact fun i hi=>⟨ok_mono h _ (hc i hi).1,ok_mono h _ (hc i hi).2⟩
 | rmap k key val born clock=>exact fun i hi=>⟨ok_mono h _ (hc i hi).1,ok_mono h _ (hc i hi).2⟩
 | iter m since seen st=>exact ok_mono h m hc
theorem mapObj_agree {n:Nat} {ρ ρ':Env} (ha:Agree n ρ ρ') {m:Nat} {key val:Nat→SV} {born:Nat→Nat} {clock:Nat} (hc:Chunk.good n (.map m key val born clock)) :
  mapObj ρ' m key val born clock = mapObj ρ m key val born clock:=by
 unfold mapObj
 congr 2
 apply List.map_congr_left
 intro i hi
 rw [List.mem_range] at hi
 rw [den_agree ha _ (hc i hi).1,den_agree ha _ (hc i hi).2]
theorem holds_agree {n:Nat} {ρ ρ':Env} (ha:Agree n ρ ρ') {w:World} {k:Nat} (hk:k < n) {c:Chunk} (hc:c.good n) (hh:Holds ρ w k c):Holds ρ' w k c:=by
 cases c with
 | none=>trivial
 | cells wr fs =>
  have:=denC_agree ha fs hc.1
  simp only [Holds,ha k hk,this]
  exact hh
 | row wr n s f =>
  have:=den_agree ha (.fam n s f) hc.1
  simp only [Holds,ha k hk,this]
  exact hh
 | map m key val born clock =>
  simp only [Holds,ha k hk,mapObj_agree ha hc]
  exact hh
 | rmap m key val born clock =>
  simp only [Holds,ha k hk,mapObj_agree ha (show Chunk.good n (.map m key val born clock) from hc)]
  exact hh
 | iter m since seen st =>
  simp only [Holds,ha k hk,den_agree ha m hc]
  exact hh
theorem get_lt {α:Type} {l:List α} {k:Nat} {x:α} (h:l[k]? = some x):k < l.length:=by
 rcases Nat.lt_or_ge k l.length with h' | h'
 ·exact h'
 ·simp [List.getElem?_eq_none h'] at h
theorem Models.step {C:Ctx} {ρ ρ':Env} {H H':List Chunk} {w w':World} {Y:Nat→Prop} (hM:Models C ρ H w) (hk:Keep Y w w')
  (hY:∀ b,Y b→∃ k c,H[k]? = some c∧RealW ρ k c∧(ρ k).b = b) (ha:Agree H.length ρ ρ') (hlen:H.length≤H'.length)
  (h':∀ k c',H'[k]? = some c'→(H[k]? = some c'∧(Real ρ k c'→¬ Y (ρ k).b)) ∨
   (c'.good H'.length∧Holds ρ' w' k c'∧(Real ρ' k c'→(ρ' k).b < w'.heap.size)∧(RealW ρ' k c'→w.heap.size≤(ρ' k).b ∨ ∃ k0 c0,H[k0]? = some c0∧RealW ρ k0 c0∧(ρ k0).b = (ρ' k).b)))
  (hs:∀ k k' c c',H'[k]? = some c→H'[k']? = some c'→k ≠ k'→RealW ρ' k c→Real ρ' k' c'→(ρ' k).b ≠ (ρ' k').b):Models C ρ' H' w' where
 keep:=hM.keep.step hk fun b hb=>by
  obtain ⟨k,c,h1,h2,rfl⟩:=hY b hb
  exact hM.wr k c h1 h2
 agree:=fun k hk0=>(ha k (Nat.lt_of_lt_of_le hk0 hM.len)).trans (hM.agree k hk0)
 len:=Nat.le_trans hM.len hlen
 holds:=fun k c hc=>by
  rcases h' k c hc with ⟨h1,h2⟩ | h1
  ·have hkl:=get_lt h1
   have hold:=hM.holds k c h1
   by_cases hl:c.live = true
   ·exact holds_agree ha hkl (hM.okc k c h1) (holds_block (fun hn=>hk.block (ρ k).b (hM.size k c h1 ⟨hl,hn⟩) (h2 ⟨hl,hn⟩)) hold)
   ·cases c <;> simp [Chunk.live] at hl
    trivial
  ·exact h1.2.1
 okc:=fun k c hc=>by
  rcases h' k c hc with ⟨h1,_⟩ | h1
  ·exact good_mono hlen (hM.okc k c h1)
  ·exact h1.1
 size:=fun k c hc hl=>by
  rcases h' k c hc with ⟨h1,_⟩ | h1
  ·have e:=ha k (get_lt h1)
   rw [e]; exact Nat.lt_of_lt_of_le (hM.size k c h1 ⟨hl.1,by rw [← e]; exact hl.2⟩) hk.size
  ·exact h1.2.2.1 hl
 wr:=fun k c hc hw=>by
  rcases h' k c hc with ⟨h1,_⟩ | h1
  ·have e:=ha k (get_lt h1)
   rw [e]; exact hM.wr k c h1 ⟨hw.1,by rw [← e]; exact hw.2⟩
  ·rcases h1.2.2.2 hw with h2 | ⟨k0,c0,h2,h3,h4⟩
   ·exact .inr (Nat.le_trans hM.keep.size h2)
   ·rw [← h4]; exact hM.wr k0 c0 h2 h3
 sep:=hs
def upd (ρ:Env) (n:Nat) (p:Place):Env:=fun k=>if k = n then p else ρ k
theorem agree_upd (ρ:Env) (n:Nat) (p:Place):Agree n ρ (upd ρ n p):=fun k hk=>by
 unfold upd; rw [if_neg (by omega)]
theorem upd_self (ρ:Env) (n:Nat) (p:Place):upd ρ n p n = p:=by simp [upd]
theorem keep_alloc (w:World) (o:Obj):Keep (fun _=>False) w (w.alloc o) :=
 ⟨rfl,rfl,rfl,by simp,fun b hb _=>Below.heap_alloc w o b hb⟩
theorem append_get {α:Type} {l:List α} {x y:α} {k:Nat} (h:(l++[x])[k]? = some y):l[k]? = some y ∨ (k = l.length∧y = x):=by
 rcases Nat.lt_or_ge k l.length with h' | h'
 ·rw [List.getElem?_append_left h'] at h; exact .inl h
 ·rw [List.getElem?_append_right h'] at h
  cases hk:k - l.length with
  | zero=>rw [hk] at h; simp at h; exact .inr ⟨by omega,h.symm⟩
  | succ m=>rw [hk] at h; simp at h
theorem live_of_wr {c:Chunk} (h:c.wr = true):c.live = true:=by cases c <;> simp_all [Chunk.wr,Chunk.live]
theorem RealW.real {ρ:Env} {k:Nat} {c:Chunk} (h:RealW ρ k c):Real ρ k c:=⟨live_of_wr h.1,h.2⟩
theorem real_agree {n:Nat} {ρ ρ':Env} (ha:Agree n ρ ρ') {k:Nat} (hk:k < n) {c:Chunk} (h:Real ρ' k c):Real ρ k c:=⟨h.1,by rw [← ha k hk]; exact h.2⟩
theorem realW_agree {n:Nat} {ρ ρ':Env} (ha:Agree n ρ ρ') {k:Nat} (hk:k < n) {c:Chunk} (h:RealW ρ' k c):RealW ρ k c:=⟨h.1,by rw [← ha k hk]; exact h.2⟩
theorem Models.alloc {C:Ctx} {ρ:Env} {H:List Chunk} {w w':World} (hM:Models C ρ H w) (hk:Keep (fun _=>False) w w') {c:Chunk} {p:Place}
  (hp:p.nil = false→p.b = w.heap.size∧p.b < w'.heap.size) (hg:c.good (H.length+1)) (hh:Holds (upd ρ H.length p) w' H.length c) :
  Models C (upd ρ H.length p) (H++[c]) w':=by
 have ha:=agree_upd ρ H.length p
 refine hM.step hk (fun _ h=>h.elim) ha (by simp) ?_ ?_
 ·intro k c' hc
  rcases append_get hc with h1 | ⟨rfl,rfl⟩
  ·exact .inl ⟨h1,fun _ h=>h⟩
  ·refine .inr ⟨by simpa using hg,hh,fun hr=>?_,fun hr=>.inl ?_⟩
   ·have:=hr.2; rw [upd_self] at this ⊢; exact (hp this).2
   ·have:=hr.2; rw [upd_self] at this ⊢; exact Nat.le_of_eq (hp this).1.symm
 ·intro k k' c1 c2 h1 h2 hne hw hl
  rcases append_get h1 with q1 | ⟨rfl,rfl⟩ <;> rcases append_get h2 with q2 | ⟨rfl,rfl⟩
  ·rw [ha k (get_lt q1),ha k' (get_lt q2)]; exact hM.sep k k' c1 c2 q1 q2 hne (realW_agree ha (get_lt q1) hw) (real_agree ha (get_lt q2) hl)
  ·have hn:=hl.2
   rw [upd_self] at hn
   rw [ha k (get_lt q1),upd_self]
   have:=hM.size k c1 q1 (realW_agree ha (get_lt q1) hw).real
   have:=(hp hn).1
   omega
  ·have hn:=hw.2
   rw [upd_self] at hn
   rw [ha k' (get_lt q2),upd_self]
   have:=hM.size k' c2 q2 (real_agree ha (get_lt q2) hl)
   have:=(hp hn).1
   omega
  ·exact absurd rfl hne
theorem Models.write {C:Ctx} {ρ:Env} {H:List Chunk} {w w':World} (hM:Models C ρ H w) {k:Nat} {c c':Chunk} (hc:H[k]? = some c) (hw:RealW ρ k c) (hk:Keep (fun b=>b = (ρ k).b) w w')
  (hg:c'.good H.length) (hh:Holds ρ w' k c'):Models C ρ (putH H k c') w':=by
 have hlen:=putH_length H k c'
 have hget:∀ j y,(putH H k c')[j]? = some y→(j ≠ k∧H[j]? = some y) ∨ (j = k∧y = c'):=by
  intro j y hj
  rw [putH_get] at hj
  by_cases hjk:j = k
  ·subst hjk; simp [hc] at hj; exact .inr ⟨rfl,hj.symm⟩
  ·rw [if_neg hjk] at hj; exact .inl ⟨hjk,hj⟩
 refine hM.step hk ?_ (fun _ _=>rfl) (by omega) ?_ ?_
 ·intro b hb; exact ⟨k,c,hc,hw,hb.symm⟩
 ·intro j y hj
  rcases hget j y hj with ⟨h1,h2⟩ | ⟨rfl,rfl⟩
  ·exact .inl ⟨h2,fun hl he=>(hM.sep k j c y hc h2 (Ne.symm h1) hw hl) he.symm⟩
  ·exact .inr ⟨by rw [hlen]; exact hg,hh,fun _=>Nat.lt_of_lt_of_le (hM.size j c hc hw.real) hk.size,fun _=>.inr ⟨j,c,hc,hw,rfl⟩⟩
 ·intro j j' y y' h1 h2 hne hyw hyl
  rcases hget j y h1 with ⟨a1,a2⟩ | ⟨rfl,rfl⟩ <;> rcases hget j' y' h2 with ⟨b1,b2⟩ | ⟨rfl,rfl⟩
  ·exact hM.sep j j' y y' a2 b2 hne hyw hyl
  ·exact hM.sep j j' y c a2 hc hne hyw hw.real
  ·exact hM.sep j j' c y' hc b2 hne hw hyl
  ·exact absurd rfl hne
theorem Models.move {C:Ctx} {ρ:Env} {H:List Chunk} {w w':World} (hM:Models C ρ H w) {k:Nat} {c c':Chunk} (hc:H[k]? = some c) (hw:RealW ρ k c) (hk:Keep (fun b=>b = (ρ k).b) w w') {p:Place} (hp:p.b = (ρ k).b)
  (hg:c'.good (H.length+1)) (hh:Holds (upd ρ H.length p) w' H.length c'):Models C (upd ρ H.length p) (putH H k .none++[c']) w':=by
 have hlen:=putH_length H k .none
 have ha:=agree_upd ρ H.length p
 have hsz:(ρ k).b < w'.heap.size:=Nat.lt_of_lt_of_le (hM.size k c hc hw.real) hk.size
 have hget:∀ (j:Nat) (y:Chunk),(putH H k .none)[j]? = some y→(j ≠ k∧H[j]? = some y) ∨ (j = k∧y = Chunk.none):=by
  intro j y hj
  rw [putH_get] at hj
  by_cases hjk:j = k
  ·subst hjk; simp [hc] at hj; exact .inr ⟨rfl,hj.symm⟩
  ·rw [if_neg hjk] at hj; exact .inl ⟨hjk,hj⟩
 refine hM.step hk ?_ ha (by simp [hlen]) ?_ ?_
 ·intro b hb; exact ⟨k,c,hc,hw,hb.symm⟩
 ·intro j y hj
  rcases append_get hj with h2 | ⟨rfl,rfl⟩
  ·rcases hget j y h2 with ⟨a1,a2⟩ | ⟨rfl,rfl⟩
   ·exact .inl ⟨a2,fun hl he=>(hM.sep k j c y hc a2 (Ne.symm a1) hw hl) he.symm⟩
   ·exact .inr ⟨trivial,trivial,fun h=>by simp [Real,Chunk.live] at h,fun h=>by simp [RealW,Chunk.wr] at h⟩
  ·rw [hlen]
   refine .inr ⟨by simpa [hlen] using hg,hh,fun _=>by rw [upd_self,hp]; exact hsz,fun _=>.inr ⟨k,c,hc,hw,by rw [upd_self,hp]⟩⟩
 ·intro j j' y y' h1 h2 hne hyw hyl
  rcases append_get h1 with q1 | ⟨rfl,rfl⟩ <;> rcases append_get h2 with q2 | ⟨rfl,rfl⟩
  ·rcases hget j y q1 with ⟨a1,a2⟩ | ⟨rfl,rfl⟩ <;> rcases hget j' y' q2 with ⟨b1,b2⟩ | ⟨rfl,rfl⟩
   ·rw [ha j (get_lt a2),ha j' (get_lt b2)]; exact hM.sep j j' y y' a2 b2 hne (realW_agree ha (get_lt a2) hyw) (real_agree ha (get_lt b2) hyl)
   ·simp [Real,Chunk.live] at hyl
   ·simp [RealW,Chunk.wr] at hyw
   ·exact absurd rfl hne
  ·rw [hlen,upd_self,hp]
   rcases hget j y q1 with ⟨a1,a2⟩ | ⟨rfl,rfl⟩
   ·rw [ha j (get_lt a2)]
    exact hM.sep j k y c a2 hc a1 (realW_agree ha (get_lt a2) hyw) hw.real
   ·simp [RealW,Chunk.wr] at hyw
  ·rw [hlen,upd_self,hp]
   rcases hget j' y' q2 with ⟨b1,b2⟩ | ⟨rfl,rfl⟩
   ·rw [ha j' (get_lt b2)]
    exact hM.sep k j' c y' hc b2 (Ne.symm b1) hw (real_agree ha (get_lt b2) hyl)
   ·simp [Real,Chunk.live] at hyl
  ·exact absurd rfl hne
theorem Models.same {C:Ctx} {ρ:Env} {H:List Chunk} {w w':World} (hM:Models C ρ H w) (hk:Keep (fun _=>False) w w'):Models C ρ H w' :=
 hM.step hk (fun _ h=>h.elim) (fun _ _=>rfl) (Nat.le_refl _) (fun k c hc=>.inl ⟨hc,fun _ h=>h⟩) hM.sep
theorem Models.forget {C:Ctx} {ρ:Env} {H:List Chunk} {w:World} (hM:Models C ρ H w) (k:Nat):Models C ρ (putH H k .none) w:=by
 have hlen:=putH_length H k .none
 have hget:∀ (j:Nat) (y:Chunk),(putH H k .none)[j]? = some y→H[j]? = some y ∨ y = Chunk.none:=by
  intro j y hj
  rw [putH_get] at hj
  by_cases hjk:j = k
  ·rw [if_pos hjk] at hj
   cases hH:H[j]? with
   | none=>simp [hH] at hj
   | some z=>simp [hH] at hj; exact .inr hj.symm
  ·rw [if_neg hjk] at hj; exact .inl hj
 refine hM.step (Keep.refl (fun _=>False) w) (fun _ h=>h.elim) (fun _ _=>rfl) (by omega) ?_ ?_
 ·intro j y hj
  rcases hget j y hj with h1 | rfl
  ·exact .inl ⟨h1,fun _ h=>h⟩
  ·exact .inr ⟨trivial,trivial,fun h=>by simp [Real,Chunk.live] at h,fun h=>by simp [RealW,Chunk.wr] at h⟩
 ·intro j j' y y' h1 h2 hne hyw hyl
  rcases hget j y h1 with a | rfl <;> rcases hget j' y' h2 with b | rfl
  ·exact hM.sep j j' y y' a b hne hyw hyl
  ·simp [Real,Chunk.live] at hyl
  ·simp [RealW,Chunk.wr] at hyw
  ·simp [RealW,Chunk.wr] at hyw
theorem heap_setCells (b:Nat):∀ (vs:List Value) (o:Nat) (w:World) (k:Nat),k ≠ b→(w.setCells b o vs).heap[k]? = w.heap[k]?
 | [],_,_,_,_=>rfl
 | v :: r,o,w,k,h=>by
  rw [World.setCells,heap_setCells b r (o+1) _ k h]
  exact Below.heap_setCell w ⟨b,o,none⟩ v k h
theorem size_setCells (b:Nat):∀ (vs:List Value) (o:Nat) (w:World),(w.setCells b o vs).heap.size = w.heap.size
 | [],_,_=>rfl
 | v :: r,o,w=>by rw [World.setCells,size_setCells b r (o+1)]; simp
theorem rest_setCells (b:Nat):∀ (vs:List Value) (o:Nat) (w:World),(w.setCells b o vs).os = w.os∧(w.setCells b o vs).tape = w.tape∧(w.setCells b o vs).output = w.output
 | [],_,_=>⟨rfl,rfl,rfl⟩
 | v :: r,o,w=>by rw [World.setCells]; obtain ⟨h1,h2,h3⟩:=rest_setCells b r (o+1) (w.setCell ⟨b,o,none⟩ v); exact ⟨h1,h2,h3⟩
theorem keep_setCells (w:World) (b o:Nat) (vs:List Value):Keep (fun k=>k = b) w (w.setCells b o vs):=by
 obtain ⟨h1,h2,h3⟩:=rest_setCells b vs o w
 exact ⟨h1,h2,h3,by rw [size_setCells]; exact Nat.le_refl _,fun k _ hk=>heap_setCells b vs o w k hk⟩
end Go.Sx
set_option linter.all false
namespace Go.Sx
open Go.RowKit
variable {P:Program}
def srcS (h:List Chunk) (s:Nat):SV→Option (Prop × Nat × (Nat→SV))
 | .osl nm _ e s' m=>match lookH h nm with
  | .row _ n' s'' f=>some (s' = s∧s'' = s∧e+m≤n',m,fun i=>f (e+i))
  | _=>none
 | .sl nm b e s' m _=>match lookH h nm with
  | .cells _ fs=>match takeC b fs with
   | some (_,.fam n' s'' f :: _)=>some (s' = s∧s'' = s∧e+m≤n',m,fun i=>f (e+i))
   | _=>none
  | _=>none
 | .str bs=>some (s = 1,bs.size,fun i=>.int .u8 (byteAt bs i))
 | .v (.slice _ m _)=>some (m = 0,0,fun _=>.tup [])
 | _=>none
def cellsOf (ρ:Env) (m:Nat) (g:Nat→SV):List Value:=(List.range m).flatMap fun i=>(den ρ (g i)).cells.toList
theorem cellsOf_len {ρ:Env} {n m s:Nat} {g:Nat→SV} (h:∀ i,i < m→sz (g i) = s∧ok n (g i)):(cellsOf ρ m g).length = m * s :=
 flatMap_len _ s m fun i hi=>(cells_len ρ n (g i) (h i hi).2).trans (h i hi).1
theorem flatMap_range_split {α:Type} (F:Nat→List α) (e:Nat):∀ m,(List.range (e+m)).flatMap F = (List.range e).flatMap F++(List.range m).flatMap fun i=>F (e+i)
 | 0=>by simp
 | m+1=>by
  rw [← Nat.add_assoc,List.range_succ,List.flatMap_append,flatMap_range_split F e m,List.range_succ,List.flatMap_append]
  simp
theorem cellsOf_part {ρ:Env} {n m e k s:Nat} {f:Nat→SV} (h:∀ i,i < n→sz (f i) = s∧ok k (f i)) (hle:e+m≤n) :
  ∃ a c,cellsOf ρ n f = a++cellsOf ρ m (fun i=>f (e+i))++c∧a.length = e * s:=by
 obtain ⟨r,rfl⟩:∃ r,n = (e+m)+r:=⟨n - (e+m),by omega⟩
 refine ⟨cellsOf ρ e f,(List.range r).flatMap fun i=>(den ρ (f (e+m+i))).cells.toList,?_,cellsOf_len (fun i hi=>h i (by omega))⟩
 unfold cellsOf
 rw [flatMap_range_split _ (e+m) r,flatMap_range_split _ e m]
theorem load_list (w w':World) (hw:w'.heap = w.heap) (b o:Nat) (cs:List Value) (h:w.rangeAt b o cs):∀ j v,cs[j]? = some v→w'.cell? ((⟨b,o,none⟩:Addr).add j) = some v:=fun j v hj=>by
 rw [Addr.add_mid]
 have:=h j v hj
 simpa [World.cell?,hw] using this
theorem str_cells (ρ:Env) (bs:ByteArray):(((bs.extract 0 bs.size).data.map fun b=>Value.int .u8 b.toNat)).toList = cellsOf ρ bs.size fun i=>.int .u8 (byteAt bs i):=by
 have h1:bs.extract 0 bs.size = bs:=by simp
 rw [h1]
 unfold cellsOf
 simp only [den,Value.cells,List.flatMap_singleton']
 apply List.ext_getElem?
 intro i
 simp only [Array.toList_map,List.getElem?_map]
 have:∀ l:List UInt8,(l.map fun b=>Value.int .u8 (b.toNat:Int))[i]? = ((List.range l.length).map fun j=>Value.int .u8 ((l.getD j 0).toNat:Int))[i]?:=by
  intro l
  simp only [List.getElem?_map]
  by_cases hi:i < l.length
  ·simp [hi,List.getD_eq_getElem?_getD]
  ·simp [hi]
 have h2:=this bs.data.toList
 simp only [List.getElem?_map] at h2
 rw [h2]
 simp only [byteAt]
 have h3:(List.range bs.size).flatMap (fun i=>#[Value.int .u8 ((bs.data.toList.getD i 0).toNat:Int)].toList) = (List.range bs.size).map fun j=>Value.int .u8 ((bs.data.toList.getD j 0).toNat:Int):=by
  induction (List.range bs.size) with
  | nil=>rfl
  | cons x l ih=>rw [List.flatMap_cons,ih]; rfl
 rw [h3,List.getElem?_map]
 rfl
theorem src_run {h:List Chunk} {s:Nat} {x:SV} {p:Prop} {m:Nat} {g:Nat→SV} (hs:srcS h s x = some (p,m,g)) (hp:p) {ρ:Env} {n:Nat} {w:World}
  (hH:∀ k,Holds ρ w k (lookH h k)) (hg:∀ k,(lookH h k).good n) :
  (Builtin.lenOf (den ρ x) = pure m)∧(∀ w',w'.heap = w.heap→(Builtin.firstCells s m (den ρ x)).run P w' = .ok (cellsOf ρ m g).toArray w')∧(∀ i,i < m→sz (g i) = s∧ok n (g i))∧∀ i,i < m→stor (g i):=by
 unfold srcS at hs
 split at hs
 ·rename_i nm d0 e s' m'
  split at hs <;> cases hs
  rename_i wr n' s'' f hc
  obtain ⟨hs1,hs2,hle⟩:=hp
  subst hs1 hs2
  have h1:=hH nm
  have h2:=hg nm
  rw [hc] at h1 h2
  have hfam:∀ i,i < n'→sz (f i) = s''∧ok n (f i):=h2.1
  have hst:∀ i,i < n'→stor (f i):=h2.2
  refine ⟨rfl,?_,fun i hi=>hfam (e+i) (by omega),fun i hi=>hst (e+i) (by omega)⟩
  intro w' hw
  simp only [den]
  rcases Nat.eq_zero_or_pos m with rfl | hm
  ·cases (ρ nm).nil <;> cases (ρ nm).a <;> simp [Builtin.firstCells,cellsOf,loadCells,loadCellsFrom]
  ·obtain ⟨hn,hr⟩:=h1.some (by omega)
   have hcap:=h1.nle
   rw [cells_fam] at hr
   obtain ⟨a,c,hac,hal⟩:=cellsOf_part (ρ:=ρ) (e:=e) (m:=m) hfam hle
   unfold cellsOf at hac
   rw [hac,rangeAt_app,rangeAt_app,hal] at hr
   simp only [hn,cond_false]
   rw [if_neg (by omega)]
   exact run_firstCells_some (P:=P) w' s'' m _ _ _ _ (cellsOf_len (fun i hi=>hfam (e+i) (by omega))) (load_list w w' hw _ _ _ hr.1.2)
 ·rename_i nm b e s' m' cp
  split at hs
  ·rename_i wr fs hc
   split at hs <;> cases hs
   rename_i a0 n' s'' f post ht
   obtain ⟨hs1,hs2,hle⟩:=hp
   subst hs1 hs2
   have h1:=hH nm
   have h2:=hg nm
   rw [hc] at h1 h2
   obtain ⟨rfl,hs0⟩:=takeC_spec ht
   have hok:=okL_append.1 h2.1
   have hfam:∀ i,i < n'→sz (f i) = s''∧ok n (f i):=hok.2.1
   have hst:∀ i,i < n'→stor (f i):=(storL_append.1 h2.2).2.1
   refine ⟨rfl,?_,fun i hi=>hfam (e+i) (by omega),fun i hi=>hst (e+i) (by omega)⟩
   intro w' hw
   simp only [den]
   have hr:=h1.2.1
   rw [denC_append,rangeAt_app,denC_len ρ n a0 hok.1,hs0] at hr
   have hr2:=hr.2
   rw [denC,cells_fam,rangeAt_app] at hr2
   obtain ⟨a,c,hac,hal⟩:=cellsOf_part (ρ:=ρ) (e:=e) (m:=m) hfam hle
   have hr3:=hr2.1
   unfold cellsOf at hac
   rw [hac,rangeAt_app,rangeAt_app,hal] at hr3
   exact run_firstCells_some (P:=P) w' s'' m _ _ _ _ (cellsOf_len (fun i hi=>hfam (e+i) (by omega))) (load_list w w' hw _ _ _ hr3.1.2)
  ·cases hs
 ·rename_i bs
  cases hs
  subst hp
  refine ⟨rfl,?_,fun i _=>⟨rfl,trivial⟩,fun i _=>trivial⟩
  intro w' _
  simp only [den,Builtin.firstCells,Sem.run_pure]
  congr 1
  apply Array.ext'
  exact str_cells ρ bs
 ·cases hs
  subst hp
  refine ⟨rfl,?_,fun i hi=>absurd hi (Nat.not_lt_zero _),fun i hi=>absurd hi (Nat.not_lt_zero _)⟩
  intro w' _
  rename_i a0 _ _
  cases a0 <;> simp [den,Builtin.firstCells,cellsOf,loadCells,loadCellsFrom]
 ·cases hs
theorem keep_drew_alloc (w:World) (o:Obj):Keep (fun _=>False) w (w.drew.alloc o) :=
 ⟨rfl,rfl,rfl,by simp,fun b hb _=>Below.heap_alloc w.drew o b hb⟩
theorem choose_cap (w:World) (need old:Nat) (e:TypeId):(choose (.appendCap need old e)).run P w = .ok (grownCap w need old e) w.drew:=by
 simp only [choose,Sem.run,Question.forced]
 rfl
theorem askRoom_run (n:Nat) (w:World):(askRoom n).run P w = .ok () w:=by
 unfold askRoom
 split <;> rfl
theorem app_grow {dT xT ty el:TypeId} {e:Ent} (hd:P.underlying dT = some (.slice el)) (hx:∃ d,P.underlying xT = some d∧∀ k,d ≠ .int k) (he:e.Fits P el)
  (a:Option Addr) (n c m:Nat) (x:Value) (olds news:List Value) (w:World) (hlen:Builtin.lenOf x = pure m)
  (hnew:∀ w',w'.heap = w.heap→(Builtin.firstCells e.size m x).run P w' = .ok news.toArray w')
  (hold:∀ w',w'.heap = w.heap→(Builtin.firstCells e.size n (.slice a n c)).run P w' = .ok olds.toArray w')
  (hg:c < n+m) (h63:((n+m:Nat):Int)≤9223372036854775807) (hb:(n+m) * e.bytes≤140737488355328) (ρ:Env) :
  (Builtin.append_ #[dT,xT] ty #[.slice a n c,x]).run P w =
   .ok (.slice (some ⟨w.heap.size,0,none⟩) (n+m) (grownCap w (n+m) c el))
    (w.drew.alloc (.cells (olds.toArray++news.toArray++Builtin.zeroCells (den ρ e.zero).cells (grownCap w (n+m) c el - (n+m))) el)):=by
 obtain ⟨i,hi,his,hib,hiz⟩:=he.info
 obtain ⟨d,hxd,hdk⟩:=hx
 have hn:¬ (n+m≤c):=by omega
 have h63':¬ (((n+m:Nat):Int) > IntKind.i64.max):=by
  have:IntKind.i64.max = 9223372036854775807:=by decide
  omega
 have hfit:¬ (Builtin.nextslicecap (n+m) c * i.bytes > 2 ^ 48):=by
  have:=growslice_fits (bytes:=e.bytes) hg hb
  rw [hib]
  omega
 have hz:(match d with | .int _=>true | _=>false) = false:=by
  cases d <;> first | rfl | exact absurd rfl (hdk _)
 have hU:=fun w'=>run_underlying (P:=P) hd w'
 have hX:=fun w'=>run_underlying (P:=P) hxd w'
 have hS:=he.siz
 have hI:∀ w',(typeInfo el).run P w' = .ok i w':=fun w'=>by simp [typeInfo,hi]
 have hZ:=zero_run he ρ
 have hC:=choose_cap (P:=P) w (n+m) c el
 unfold Builtin.append_
 simp only [List.getElem?_toArray,List.getElem?_cons_zero,List.getElem?_cons_succ,Sem.run_bind,hU,hX,hS,Result.andThen_ok,Sem.run_pure]
 simp only [Bool.false_eq_true,if_false,Bool.not_false,if_true,Sem.run_bind,Sem.run_pure,Result.andThen_ok,hlen,if_neg hn,Sem.run_ite,false_or,hI]
 rw [if_neg (by intro hh; exact h63' hh.1)]
 simp only [Sem.run_bind,hI,Result.andThen_ok,if_neg hfit,Sem.run_ite,hC,Sem.run_pure,askRoom_run,hold w.drew rfl,hnew w.drew rfl,hZ,newRow,newObj,Sem.run]
 rfl
theorem app_room {dT xT ty el:TypeId} {e:Ent} (hd:P.underlying dT = some (.slice el)) (hx:∃ d,P.underlying xT = some d∧∀ k,d ≠ .int k) (he:e.Fits P el)
  (b o:Nat) (n c m:Nat) (x:Value) (news:List Value) (w:World) (hlen:Builtin.lenOf x = pure m)
  (hnew:∀ w',w'.heap = w.heap→(Builtin.firstCells e.size m x).run P w' = .ok news.toArray w') (hnl:news.length = m * e.size) (h1:∀ v ∈ news,v.oneCell' = true)
  (ht:w.there b o (c * e.size)) (hg:n+m≤c) :
  (Builtin.append_ #[dT,xT] ty #[.slice (some ⟨b,o,none⟩) n c,x]).run P w = .ok (.slice (some ⟨b,o,none⟩) (n+m) c) (w.setCells b (o+n * e.size) news):=by
 obtain ⟨d,hxd,hdk⟩:=hx
 have hU:=fun w'=>run_underlying (P:=P) hd w'
 have hX:=fun w'=>run_underlying (P:=P) hxd w'
 have hS:=he.siz
 have hz:(match d with | .int _=>true | _=>false) = false:=by
  cases d <;> first | rfl | exact absurd rfl (hdk _)
 have hle:n * e.size+news.length≤c * e.size:=by rw [hnl,← Nat.add_mul]; exact Nat.mul_le_mul_right _ hg
 have hst:=run_storeCells_cells (P:=P) b (o+n * e.size) news 0 w (fun j hj=>by
   have:=(ht (n * e.size+j) (by omega)).1
   rwa [← Nat.add_assoc] at this) (fun j hj=>by
   have:=(ht (n * e.size+j) (by omega)).2
   rwa [← Nat.add_assoc] at this) h1
 unfold Builtin.append_
 simp only [List.getElem?_toArray,List.getElem?_cons_zero,List.getElem?_cons_succ,Sem.run_bind,hU,hX,hS,Result.andThen_ok,Sem.run_pure]
 simp only [Bool.false_eq_true,if_false,Bool.not_false,if_true,Sem.run_bind,Sem.run_pure,Result.andThen_ok,hlen,if_pos hg,Sem.run_ite,hnew w rfl,Addr.add_mid,hst]
 rfl
theorem app_none {dT xT ty el:TypeId} {e:Ent} (hd:P.underlying dT = some (.slice el)) (hx:∃ d,P.underlying xT = some d∧∀ k,d ≠ .int k) (he:e.Fits P el)
  (x:Value) (w:World) (hlen:Builtin.lenOf x = pure 0)
  (hnew:∀ w',w'.heap = w.heap→(Builtin.firstCells e.size 0 x).run P w' = .ok #[] w') :
  (Builtin.append_ #[dT,xT] ty #[.slice none 0 0,x]).run P w = .ok (.slice none 0 0) w:=by
 obtain ⟨d,hxd,hdk⟩:=hx
 have hU:=fun w'=>run_underlying (P:=P) hd w'
 have hX:=fun w'=>run_underlying (P:=P) hxd w'
 have hS:=he.siz
 have hz:(match d with | .int _=>true | _=>false) = false:=by
  cases d <;> first | rfl | exact absurd rfl (hdk _)
 unfold Builtin.append_
 simp only [List.getElem?_toArray,List.getElem?_cons_zero,List.getElem?_cons_succ,Sem.run_bind,hU,hX,hS,Result.andThen_ok,Sem.run_pure]
 simp only [Bool.false_eq_true,if_false,Bool.not_false,if_true,Sem.run_bind,Sem.run_pure,Result.andThen_ok,hlen,Sem.run_ite,hnew w rfl,Nat.add_zero,Nat.le_refl]
def notInt (tab:Tab) (t:TypeId):Bool:=match tab t with
 | some ⟨.slice _,_,_,_,_⟩=>true
 | some ⟨.str,_,_,_,_⟩=>true
 | _=>false
theorem notInt_spec {tab:Tab} (hT:tab.Ok P) {t:TypeId} (h:notInt tab t = true):∃ d,P.underlying t = some d∧∀ k,d ≠ .int k:=by
 unfold notInt at h
 split at h
 ·rename_i he
  obtain ⟨d,h1,h2⟩:=(hT _ _ he).desc
  exact ⟨d,h1,fun k hk=>by simp only [TD.fits] at h2; subst h2; cases hk⟩
 ·rename_i he
  obtain ⟨d,h1,h2⟩:=(hT _ _ he).desc
  exact ⟨d,h1,fun k hk=>by simp only [TD.fits] at h2; subst h2; cases hk⟩
 ·cases h
def appS (tab:Tab) (h:List Chunk) (dT xT:TypeId) (d x:SV) (K:SV→List Chunk→Prop):Prop :=
 match tab dT with
 | some ⟨.slice el,_,_,_,_⟩=>match tab el with
  | some e=>match srcS h e.size x with
   | some (p,m,g)=>match d with
    | .osl nm 0 0 s n=>match lookH h nm with
     | .row true n' s' f=>(p∧notInt tab xT = true∧s = e.size∧s' = e.size∧n = n'∧(n+m) * e.bytes≤140737488355328∧((n+m:Nat):Int)≤9223372036854775807) ∧
       K (.osl h.length 0 0 e.size (n+m)) (putH h nm .none++[.row true (n+m) e.size fun i=>if i < n then f i else g (i - n)])
     | _=>False
    | .v (.slice none 0 0)=>(p∧notInt tab xT = true∧m * e.bytes≤140737488355328∧(m:Int)≤9223372036854775807)∧K (.osl h.length 0 0 e.size m) (h++[.row true m e.size g])
    | _=>False
   | none=>False
  | none=>False
 | _=>False
def Goes (P:Program) (C:Ctx) (h:List Chunk) (ρ:Env) (w:World) (r:Result Value) (K:SV→List Chunk→Prop):Prop :=
 ∃ w' ρ' sv h',r = .ok (den ρ' sv) w'∧K sv h'∧Models C ρ' h' w'∧Agree h.length ρ ρ'∧ok h'.length sv∧h.length≤h'.length
theorem look_holds {C:Ctx} {ρ:Env} {H:List Chunk} {w:World} (hM:Models C ρ H w) (k:Nat):Holds ρ w k (lookH H k):=by
 cases hc:lookH H k with
 | none=>trivial
 | cells wr fs=>rw [← hc]; exact hM.holds k _ (lookH_some rfl (by rw [hc]; simp))
 | row wr n s f=>rw [← hc]; exact hM.holds k _ (lookH_some rfl (by rw [hc]; simp))
 | map a b c d e=>rw [← hc]; exact hM.holds k _ (lookH_some rfl (by rw [hc]; simp))
 | rmap a b c d e=>rw [← hc]; exact hM.holds k _ (lookH_some rfl (by rw [hc]; simp))
 | iter a b c d=>rw [← hc]; exact hM.holds k _ (lookH_some rfl (by rw [hc]; simp))
theorem look_good {C:Ctx} {ρ:Env} {H:List Chunk} {w:World} (hM:Models C ρ H w) (k:Nat):(lookH H k).good H.length:=by
 cases hc:lookH H k with
 | none=>trivial
 | cells wr fs=>rw [← hc]; exact hM.okc k _ (lookH_some rfl (by rw [hc]; simp))
 | row wr n s f=>rw [← hc]; exact hM.okc k _ (lookH_some rfl (by rw [hc]; simp))
 | map a b c d e=>rw [← hc]; exact hM.okc k _ (lookH_some rfl (by rw [hc]; simp))
 | rmap a b c d e=>rw [← hc]; exact hM.okc k _ (lookH_some rfl (by rw [hc]; simp))
 | iter a b c d=>rw [← hc]; exact hM.okc k _ (lookH_some rfl (by rw [hc]; simp))
theorem cellsOf_add {ρ:Env} {n m:Nat} {f g:Nat→SV}:cellsOf ρ (n+m) (fun i=>if i < n then f i else g (i - n)) = cellsOf ρ n f++cellsOf ρ m g:=by
 unfold cellsOf
 rw [flatMap_range_split _ n m]
 congr 1
 ·exact flatMap_congr' _ _ n fun i hi=>by simp only [if_pos hi]
 ·exact flatMap_congr' _ _ m fun i hi=>by simp only [if_neg (show ¬ n+i < n by omega),Nat.add_sub_cancel_left]
theorem cellsOf_agree {n:Nat} {ρ ρ':Env} (ha:Agree n ρ ρ') {m s:Nat} {g:Nat→SV} (h:∀ i,i < m→sz (g i) = s∧ok n (g i)):cellsOf ρ' m g = cellsOf ρ m g :=
 flatMap_congr' _ _ m fun i hi=>by rw [den_agree ha _ (h i hi).2]
theorem cellsOf_one {ρ:Env} {m:Nat} {g:Nat→SV} (h:∀ i,i < m→stor (g i)):∀ v ∈ cellsOf ρ m g,v.oneCell' = true:=by
 intro v hv
 unfold cellsOf at hv
 rw [List.mem_flatMap] at hv
 obtain ⟨i,hi,hv⟩:=hv
 rw [List.mem_range] at hi
 exact stor_one ρ (g i) (h i hi) v hv
theorem there_alloc (w:World) (cs:Array Value) (T:TypeId) (n:Nat) (h:n≤cs.size):(w.alloc (.cells cs T)).there w.heap.size 0 n:=fun j hj=>by
 rw [Nat.zero_add]
 refine ⟨?_,by simp⟩
 rw [World.cell?_alloc_new]
 simp; omega
theorem rangeAt_alloc (w:World) (cs:List Value) (more:List Value) (T:TypeId):(w.alloc (.cells (cs++more).toArray T)).rangeAt w.heap.size 0 cs:=fun j v hj=>by
 rw [Nat.zero_add,World.cell?_alloc_new]
 have hlt:=get_lt hj
 simp only [List.getElem?_toArray]
 rw [List.getElem?_append_left hlt]
 exact hj
theorem appS_run {tab:Tab} (hT:tab.Ok P) {C:Ctx} {h:List Chunk} {dT xT ty:TypeId} {d x:SV} {K:SV→List Chunk→Prop} (ha:appS tab h dT xT d x K) {ρ:Env} {w:World} (hM:Models C ρ h w) :
  Goes P C h ρ w ((Builtin.append_ #[dT,xT] ty #[den ρ d,den ρ x]).run P w) K:=by
 unfold appS at ha
 split at ha
 ·rename_i el _ _ _ _ hdt
  split at ha
  ·rename_i e hel
   split at ha
   ·rename_i p m g hsrc
    obtain ⟨dd,hdd,hfd⟩:=(hT _ _ hdt).desc
    simp only [TD.fits] at hfd
    subst hfd
    have he:=hT _ _ hel
    have hgrow:∀ (a:Option Addr) (n c:Nat) (f:Nat→SV),p→notInt tab xT = true→(n+m) * e.bytes≤140737488355328→((n+m:Nat):Int)≤9223372036854775807→c < n+m →
      (∀ i,i < n→sz (f i) = e.size∧ok h.length (f i))→(∀ i,i < n→stor (f i))→(∀ w',w'.heap = w.heap→(Builtin.firstCells e.size n (.slice a n c)).run P w' = .ok (cellsOf ρ n f).toArray w') →
      ∀ H0,H0.length = h.length→Models C ρ H0 w→K (.osl h.length 0 0 e.size (n+m)) (H0++[.row true (n+m) e.size fun i=>if i < n then f i else g (i - n)]) →
      Goes P C h ρ w ((Builtin.append_ #[dT,xT] ty #[.slice a n c,den ρ x]).run P w) K:=by
     intro a n c f hp hxt hb h63 hlt hfam hst hold H0 hH0 hM0 hK
     obtain ⟨s1,s2,s3,s4⟩:=src_run (P:=P) hsrc hp (look_holds hM) (look_good hM)
     have hr:=app_grow (P:=P) (ty:=ty) hdd (notInt_spec hT hxt) he a n c m (den ρ x) (cellsOf ρ n f) (cellsOf ρ m g) w s1 s2 hold hlt h63 hb ρ
     have hge:=grownCap_ge w (n+m) c el
     have hnew:∀ i,i < n+m→sz ((fun i=>if i < n then f i else g (i - n)) i) = e.size∧ok (h.length+1) ((fun i=>if i < n then f i else g (i - n)) i):=by
      intro i hi
      by_cases hin:i < n
      ·simp only [if_pos hin]; exact ⟨(hfam i hin).1,ok_mono (by omega) _ (hfam i hin).2⟩
      ·simp only [if_neg hin]; exact ⟨(s3 (i - n) (by omega)).1,ok_mono (by omega) _ (s3 (i - n) (by omega)).2⟩
     have hnst:∀ i,i < n+m→stor ((fun i=>if i < n then f i else g (i - n)) i):=by
      intro i hi
      by_cases hin:i < n
      ·simp only [if_pos hin]; exact hst i hin
      ·simp only [if_neg hin]; exact s4 (i - n) (by omega)
     have hag:=agree_upd ρ h.length ⟨w.heap.size,0,grownCap w (n+m) c el,false,none⟩
     have hcells:cellsOf (upd ρ h.length ⟨w.heap.size,0,grownCap w (n+m) c el,false,none⟩) (n+m) (fun i=>if i < n then f i else g (i - n)) = cellsOf ρ n f++cellsOf ρ m g:=by
      rw [cellsOf_add,cellsOf_agree hag hfam,cellsOf_agree hag s3]
     have hzl:(den ρ e.zero).cells.toList.length = e.size:=(cells_len ρ 0 e.zero he.zok).trans he.zsz
     have hM':=hM0.alloc (w':=w.drew.alloc (.cells ((cellsOf ρ n f).toArray++(cellsOf ρ m g).toArray++Builtin.zeroCells (den ρ e.zero).cells (grownCap w (n+m) c el - (n+m))) el))
      (keep_drew_alloc w _) (c:=.row true (n+m) e.size fun i=>if i < n then f i else g (i - n)) (p:=⟨w.heap.size,0,grownCap w (n+m) c el,false,none⟩) (fun _=>⟨rfl,by simp⟩)
      (by rw [hH0]; exact ⟨hnew,hnst⟩)
      (by
       rw [hH0]
       simp only [Holds,upd_self,Bool.false_eq_true,if_false]
       refine ⟨?_,hge,fun _=>?_⟩
       ·rw [cells_fam]
        show (w.drew.alloc _).rangeAt w.drew.heap.size 0 (cellsOf _ _ _)
        rw [hcells]
        have:=rangeAt_alloc w.drew (cellsOf ρ n f++cellsOf ρ m g) (Builtin.zeroCells (den ρ e.zero).cells (grownCap w (n+m) c el - (n+m))).toList el
        have e1:(cellsOf ρ n f++cellsOf ρ m g++(Builtin.zeroCells (den ρ e.zero).cells (grownCap w (n+m) c el - (n+m))).toList).toArray = (cellsOf ρ n f).toArray++(cellsOf ρ m g).toArray++Builtin.zeroCells (den ρ e.zero).cells (grownCap w (n+m) c el - (n+m)):=by
         apply Array.ext'; simp
        rw [e1] at this
        exact this
       ·refine there_alloc w.drew _ el _ ?_
        have l1:=cellsOf_len (ρ:=ρ) hfam
        have l2:=cellsOf_len (ρ:=ρ) s3
        have l3:(den ρ e.zero).cells.size = e.size:=by rw [← hzl]; simp
        simp only [Array.size_append,List.size_toArray,size_zeroCells,l1,l2,l3,← Nat.add_mul]
        refine Nat.mul_le_mul_right _ ?_
        omega)
     refine ⟨_,_,_,_,?_,hK,by rw [hH0] at hM'; exact hM',hag,?_,by simp [hH0]⟩
     ·rw [hr]
      simp [den,upd_self]
     ·simp [ok,hH0]
    have hnone:∀ (f:Nat→SV),p→notInt tab xT = true→m = 0→∀ H0,H0.length = h.length→Models C ρ H0 w→K (.osl h.length 0 0 e.size 0) (H0++[.row true 0 e.size f]) →
      Goes P C h ρ w ((Builtin.append_ #[dT,xT] ty #[.slice none 0 0,den ρ x]).run P w) K:=by
     intro f hp hxt hm0 H0 hH0 hM0 hK
     obtain ⟨s1,s2,s3,s4⟩:=src_run (P:=P) hsrc hp (look_holds hM) (look_good hM)
     subst hm0
     have hr:=app_none (P:=P) (ty:=ty) hdd (notInt_spec hT hxt) he (den ρ x) w s1 (fun w' hw=>by rw [s2 w' hw]; rfl)
     have hM':=hM0.alloc (w':=w) (Keep.refl _ _) (c:=.row true 0 e.size f) (p:=⟨0,0,0,true,none⟩) (fun hh=>by simp at hh)
      (by exact ⟨fun i hi=>absurd hi (Nat.not_lt_zero _),fun i hi=>absurd hi (Nat.not_lt_zero _)⟩) (by simp [Holds,upd_self])
     refine ⟨_,_,_,_,?_,hK,by rw [hH0] at hM'; exact hM',agree_upd _ _ _,?_,by simp [hH0]⟩
     ·rw [hr]
      simp [den,upd_self]
     ·simp [ok,hH0]
    split at ha
    ·rename_i nm s n
     split at ha
     ·rename_i n' s' f hc
      obtain ⟨⟨hp,hxt,hs1,hs2,hn,hb,h63⟩,hK⟩:=ha
      subst hs1 hs2 hn
      have hHn:=look_holds hM nm
      have hGn:=look_good hM nm
      rw [hc] at hHn hGn
      have hget:h[nm]? = some (.row true n e.size f):=lookH_some hc (by simp)
      have hfam:∀ i,i < n→sz (f i) = e.size∧ok h.length (f i):=hGn.1
      have hst:∀ i,i < n→stor (f i):=hGn.2
      have hM0:=hM.forget nm
      have hl0:=putH_length h nm .none
      cases hnil:(ρ nm).nil with
      | true =>
       simp only [Holds,hnil,if_true] at hHn
       obtain ⟨rfl,hc0,ha0⟩:=hHn
       have hden:den ρ (.osl nm 0 0 e.size 0) = .slice none 0 0:=by simp [den,hnil,hc0,ha0]
       rw [hden]
       by_cases hm:m = 0
       ·subst hm
        exact hnone _ hp hxt rfl _ hl0 hM0 hK
       ·exact hgrow none 0 0 f hp hxt hb h63 (by omega) hfam hst (fun w' _=>by simp [Builtin.firstCells,cellsOf]) _ hl0 hM0 hK
      | false =>
       have hcap:=hHn.nle
       simp only [Holds,hnil,Bool.false_eq_true,if_false] at hHn
       have hden:den ρ (.osl nm 0 0 e.size n) = .slice (some ⟨(ρ nm).b,(ρ nm).o,none⟩) n (ρ nm).c:=by
        simp only [den,hnil,cond_false,Nat.zero_mul,ite_self,Nat.add_zero,Nat.sub_zero]
       rw [hden]
       have hra:=hHn.1
       rw [cells_fam] at hra
       by_cases hroom:n+m≤(ρ nm).c
       ·obtain ⟨s1,s2,s3,s4⟩:=src_run (P:=P) hsrc hp (look_holds hM) (look_good hM)
        have l1:=cellsOf_len (ρ:=ρ) hfam
        have l2:=cellsOf_len (ρ:=ρ) s3
        have ht:=hHn.2.2 trivial
        have hr:=app_room (P:=P) (ty:=ty) hdd (notInt_spec hT hxt) he (ρ nm).b (ρ nm).o n (ρ nm).c m (den ρ x) (cellsOf ρ m g) w s1 s2 l2 (cellsOf_one s4) ht hroom
        have hag:=agree_upd ρ h.length (ρ nm)
        have hnew:∀ i,i < n+m→sz ((fun i=>if i < n then f i else g (i - n)) i) = e.size∧ok (h.length+1) ((fun i=>if i < n then f i else g (i - n)) i):=by
         intro i hi
         by_cases hin:i < n
         ·simp only [if_pos hin]; exact ⟨(hfam i hin).1,ok_mono (by omega) _ (hfam i hin).2⟩
         ·simp only [if_neg hin]; exact ⟨(s3 (i - n) (by omega)).1,ok_mono (by omega) _ (s3 (i - n) (by omega)).2⟩
        have hnst:∀ i,i < n+m→stor ((fun i=>if i < n then f i else g (i - n)) i):=by
         intro i hi
         by_cases hin:i < n
         ·simp only [if_pos hin]; exact hst i hin
         ·simp only [if_neg hin]; exact s4 (i - n) (by omega)
        have hle:n * e.size+(cellsOf ρ m g).length≤(ρ nm).c * e.size:=by rw [l2,← Nat.add_mul]; exact Nat.mul_le_mul_right _ hroom
        have hM':=hM.move (w':=w.setCells (ρ nm).b ((ρ nm).o+n * e.size) (cellsOf ρ m g)) hget ⟨rfl,hnil⟩ (keep_setCells w _ _ _) (p:=ρ nm) rfl
         (c':=.row true (n+m) e.size fun i=>if i < n then f i else g (i - n)) ⟨hnew,hnst⟩ (by
          simp only [Holds,upd_self,hnil,Bool.false_eq_true,if_false]
          refine ⟨?_,hroom,fun _=>World.there_setCells ht _ _ _⟩
          rw [cells_fam]
          show World.rangeAt _ _ _ (cellsOf _ _ _)
          rw [cellsOf_add,cellsOf_agree hag hfam,cellsOf_agree hag s3,rangeAt_app,l1]
          refine ⟨World.rangeAt_setCells_apart hra _ _ _ (.inr (.inl ?_)),World.rangeAt_setCells_same _ _ _ _ ?_⟩
          ·show (ρ nm).o+(cellsOf ρ n f).length≤_
           rw [l1]; exact Nat.le_refl _
          ·intro j hj
           have:=ht (n * e.size+j) (by omega)
           rwa [← Nat.add_assoc] at this)
        refine ⟨_,_,_,_,?_,hK,hM',hag,?_,by simp [hl0]⟩
        ·rw [hr]
         simp [den,upd_self,hnil]
        ·simp [ok,hl0]
       ·exact hgrow _ n (ρ nm).c f hp hxt hb h63 (by omega) hfam hst (fun w' hw=>run_firstCells_some (P:=P) w' e.size n _ _ _ _ (cellsOf_len hfam) (load_list w w' hw _ _ _ hra)) _ hl0 hM0 hK
     ·exact ha.elim
    ·obtain ⟨⟨hp,hxt,hb,h63⟩,hK⟩:=ha
     have hden:den ρ (.v (.slice none 0 0)) = .slice none 0 0:=rfl
     rw [hden]
     by_cases hm:m = 0
     ·subst hm
      exact hnone g hp hxt rfl h rfl hM hK
     ·have:=hgrow none 0 0 (fun _=>.tup []) hp hxt (by simpa using hb) (by simpa using h63) (by omega) (fun i hi=>absurd hi (Nat.not_lt_zero _)) (fun i hi=>absurd hi (Nat.not_lt_zero _))
       (fun w' _=>by simp [Builtin.firstCells,cellsOf]) h rfl hM
      simp only [Nat.zero_add,Nat.not_lt_zero,if_false,Nat.sub_zero] at this
      exact this hK
    ·exact ha.elim
   ·exact ha.elim
  ·exact ha.elim
 ·exact ha.elim
end Go.Sx
set_option linter.all false
namespace Go.Sx
open Go.RowKit
variable {P:Program}
theorem rangeAt_splice {w:World} {b o:Nat} {A B D E:List Value} (hr:w.rangeAt b o (A++(B++E))) (ht:w.there b o (A++(B++E)).length) (hl:D.length = B.length) :
  (w.setCells b (o+A.length) D).rangeAt b o (A++(D++E))∧(w.setCells b (o+A.length) D).there b o (A++(D++E)).length:=by
 rw [rangeAt_app,rangeAt_app] at hr
 have hlen:(A++(D++E)).length = (A++(B++E)).length:=by simp [hl]
 refine ⟨?_,by rw [hlen]; exact World.there_setCells ht _ _ _⟩
 rw [rangeAt_app,rangeAt_app]
 refine ⟨World.rangeAt_setCells_apart hr.1 _ _ _ (.inr (.inl (Nat.le_refl _))),World.rangeAt_setCells_same _ _ _ _ ?_,?_⟩
 ·intro j hj
  have:=ht (A.length+j) (by simp; omega)
  rwa [← Nat.add_assoc] at this
 ·have h2:=hr.2.2
  rw [← hl] at h2
  exact World.rangeAt_setCells_apart h2 _ _ _ (.inr (.inr (Nat.le_refl _)))
theorem store_run {ty:TypeId} {e:Ent} (he:e.Fits P ty) (w:World) (b o:Nat) (v:Value) (hs:v.cells.size = e.size) (ht:w.there b o v.cells.size) (h1:∀ u ∈ v.cells.toList,u.oneCell' = true) :
  (Instr.storeAt ty (.pointer (some ⟨b,o,none⟩)) v).run P w = .ok () (w.setCells b o v.cells.toList):=by
 have:=run_storeCells_cells (P:=P) b o v.cells.toList 0 w (fun j hj=>by simpa using (ht j (by simpa using hj)).1) (fun j hj=>by simpa using (ht j (by simpa using hj)).2) h1
 simp only [Nat.add_zero] at this
 have hS:=he.siz w
 simp only [Instr.storeAt,Instr.sureAddr,storeVar,Sem.run_bind,Sem.run_pure,Result.andThen_ok,hS]
 rw [if_neg (by rw [hs]; simp)]
 exact this
theorem there_mono {w:World} {b o n m:Nat} (h:w.there b o n) {k:Nat} (hk:k+m≤n):w.there b (o+k) m:=fun j hj=>by
 have:=h (k+j) (by omega)
 rwa [← Nat.add_assoc] at this
theorem flatMap_range_upd {α:Type} (F G:Nat→List α) (i s:Nat) (hne:∀ k,k ≠ i→G k = F k):∀ n,(∀ k,k < n→(F k).length = s)→i < n →
  ∃ a c,(List.range n).flatMap F = a++(F i++c)∧(List.range n).flatMap G = a++(G i++c)∧a.length = i * s:=by
 intro n hF hi
 obtain ⟨r,rfl⟩:∃ r,n = i+(1+r):=⟨n - i - 1,by omega⟩
 refine ⟨(List.range i).flatMap F,(List.range r).flatMap fun k=>F (i+(1+k)),?_,?_,flatMap_len _ s i fun k hk=>hF k (by omega)⟩
 ·rw [flatMap_range_split F i,flatMap_range_split (fun k=>F (i+k)) 1]
  simp
 ·rw [flatMap_range_split G i,flatMap_range_split (fun k=>G (i+k)) 1]
  have e1:(List.range i).flatMap G = (List.range i).flatMap F:=flatMap_congr' _ _ i fun k hk=>hne k (by omega)
  have e2:((List.range r).flatMap fun k=>G (i+(1+k))) = (List.range r).flatMap fun k=>F (i+(1+k)):=flatMap_congr' _ _ r fun k _=>hne _ (by omega)
  rw [e1,e2]
  simp
def stS (tab:Tab) (h:List Chunk) (ty:TypeId) (a x:SV) (K:List Chunk→Prop):Prop :=
 match tab ty with
 | some e=>match a with
  | .ptr nm b=>match lookH h nm with
   | .cells true fs=>match wrF b (parts x) fs with
    | some fs'=>(sz x = e.size∧stor x)∧K (putH h nm (.cells true fs'))
    | none=>False
   | _=>False
  | .pix nm b i s j=>match lookH h nm with
   | .row true n s' f=>(b = 0∧j = 0∧s = s'∧sz x = s∧i < n∧sz x = e.size∧stor x)∧K (putH h nm (.row true n s' fun k=>if k = i then x else f k))
   | .cells true fs=>match takeC b fs with
    | some (a,.fam n s' f :: post)=>(j = 0∧s = s'∧sz x = s∧i < n∧sz x = e.size∧stor x)∧K (putH h nm (.cells true (a++.fam n s' (fun k=>if k = i then x else f k) :: post)))
    | some _=>match wrF (b+i * s+j) (parts x) fs with
     | some fs'=>(sz x = e.size∧stor x)∧K (putH h nm (.cells true fs'))
     | none=>False
    | none=>False
   | _=>False
  | _=>False
 | none=>False
theorem wr_fields {C:Ctx} {ρ:Env} {h:List Chunk} {w:World} (hM:Models C ρ h w) {nm b:Nat} {fs fs':List SV} {x:SV} (hc:lookH h nm = .cells true fs) (hw:wrF b (parts x) fs = some fs') (hx:ok h.length x) (hst:stor x) :
  (w.there (ρ nm).b ((ρ nm).o+b) (den ρ x).cells.size)∧Models C ρ (putH h nm (.cells true fs')) (w.setCells (ρ nm).b ((ρ nm).o+b) (den ρ x).cells.toList):=by
 obtain ⟨a,old,post,rfl,ha,ho,rfl⟩:=wrF_spec hw
 rw [szL_parts] at ho
 have hH:=look_holds hM nm
 have hG:=look_good hM nm
 rw [hc] at hH hG
 have hok:=okL_append.1 hG.1
 have hok2:=okL_append.1 hok.2
 have hs1:=storL_append.1 hG.2
 have hs2:=storL_append.1 hs1.2
 have la:=denC_len ρ _ a hok.1
 have lo:=denC_len ρ _ old hok2.1
 have lx:=cells_len ρ _ x hx
 have lx':(den ρ x).cells.size = sz x:=by rw [← lx]; simp
 have ht:=hH.2.2 rfl
 have hr:=hH.2.1
 rw [denC_append,denC_append] at hr ht
 have hsp:=rangeAt_splice (D:=(den ρ x).cells.toList) hr ht (by omega)
 rw [la,ha] at hsp
 refine ⟨?_,?_⟩
 ·refine there_mono ht (k:=b) ?_
  simp only [List.length_append]
  omega
 ·refine hM.write (lookH_some hc (by simp)) ⟨rfl,hH.1⟩ (keep_setCells w _ _ _) ?_ ?_
  ·exact ⟨okL_append.2 ⟨hok.1,okL_append.2 ⟨okL_parts hx,hok2.2⟩⟩,storL_append.2 ⟨hs1.1,storL_append.2 ⟨storL_parts hst,hs2.2⟩⟩⟩
  ·refine ⟨hH.1,?_,fun _=>?_⟩
   ·rw [denC_append,denC_append,denC_parts]; exact hsp.1
   ·rw [denC_append,denC_append,denC_parts]; exact hsp.2
theorem stS_run {tab:Tab} (hT:tab.Ok P) {C:Ctx} {h:List Chunk} {ty:TypeId} {a x:SV} {K:List Chunk→Prop} (hs:stS tab h ty a x K) {ρ:Env} {w:World} (hM:Models C ρ h w) (hx:ok h.length x) :
  ∃ w' h',(Instr.storeAt ty (den ρ a) (den ρ x)).run P w = .ok () w'∧K h'∧Models C ρ h' w'∧h'.length = h.length:=by
 unfold stS at hs
 have lx:=cells_len ρ _ x hx
 have lx':(den ρ x).cells.size = sz x:=by rw [← lx]; simp
 split at hs
 ·rename_i e he
  have hF:=hT _ _ he
  split at hs
  ·rename_i nm b
   split at hs
   ·rename_i fs hc
    split at hs
    ·rename_i fs' hw
     obtain ⟨⟨h1,h2⟩,hK⟩:=hs
     obtain ⟨q1,q2⟩:=wr_fields hM hc hw hx h2
     exact ⟨_,_,store_run hF w _ _ _ (by omega) q1 (stor_one ρ x h2),hK,q2,putH_length _ _ _⟩
    ·exact hs.elim
   ·exact hs.elim
  ·rename_i nm b i s j
   split at hs
   ·rename_i n s' f hc
    obtain ⟨⟨rfl,rfl,rfl,h1,hi,h2,h3⟩,hK⟩:=hs
    have hH:=look_holds hM nm
    have hG:=look_good hM nm
    rw [hc] at hH hG
    have hnil:=(hH.some (by omega)).1
    have hcap:=hH.nle
    simp only [Holds,hnil,Bool.false_eq_true,if_false] at hH
    have hfam:∀ k,k < n→sz (f k) = s∧ok h.length (f k):=hG.1
    have hfst:∀ k,k < n→stor (f k):=hG.2
    have ht:=hH.2.2 trivial
    have hr:=hH.1
    rw [cells_fam] at hr
    obtain ⟨A,E,e1,e2,hA⟩:=flatMap_range_upd (fun k=>(den ρ (f k)).cells.toList) (fun k=>(den ρ ((fun k=>if k = i then x else f k) k)).cells.toList) i s
     (fun k hk=>by simp only [if_neg hk]) n (fun k hk=>(cells_len ρ _ (f k) (hfam k hk).2).trans (hfam k hk).1) hi
    simp only [if_true] at e2
    have hlen:(A++((den ρ (f i)).cells.toList++E)).length = n * s:=by rw [← e1]; exact flatMap_len _ s n fun k hk=>(cells_len ρ _ (f k) (hfam k hk).2).trans (hfam k hk).1
    have hns:n * s≤(ρ nm).c * s:=Nat.mul_le_mul_right _ hcap
    have ht':w.there (ρ nm).b (ρ nm).o (A++((den ρ (f i)).cells.toList++E)).length:=by rw [hlen]; exact fun k hk=>ht k (by omega)
    rw [e1] at hr
    have lf:=(cells_len ρ _ (f i) (hfam i hi).2).trans (hfam i hi).1
    have hsp:=rangeAt_splice (D:=(den ρ x).cells.toList) hr ht' (by omega)
    rw [hA] at hsp
    have hth:w.there (ρ nm).b ((ρ nm).o+i * s) (den ρ x).cells.size:=there_mono ht' (by simp only [List.length_append]; omega)
    refine ⟨w.setCells (ρ nm).b ((ρ nm).o+i * s) (den ρ x).cells.toList,_,?_,hK,?_,putH_length _ _ _⟩
    ·have:=store_run hF w (ρ nm).b ((ρ nm).o+i * s) (den ρ x) (by omega) hth (stor_one ρ x h3)
     simpa [den] using this
    ·refine hM.write (lookH_some hc (by simp)) ⟨rfl,hnil⟩ (keep_setCells w _ _ _) ?_ ?_
     ·refine ⟨fun k hk=>?_,fun k hk=>?_⟩
      ·by_cases hki:k = i
       ·simp only [hki,if_true]; exact ⟨h1,hx⟩
       ·simp only [if_neg hki]; exact hfam k hk
      ·by_cases hki:k = i
       ·simp only [hki,if_true]; exact h3
       ·simp only [if_neg hki]; exact hfst k hk
     ·simp only [Holds,hnil,Bool.false_eq_true,if_false]
      refine ⟨?_,hcap,fun _=>World.there_setCells ht _ _ _⟩
      rw [cells_fam,e2]
      exact hsp.1
   ·rename_i fs hc
    split at hs
    ·rename_i a0 n s' f post htk
     obtain ⟨⟨rfl,rfl,h1,hi,h2,h3⟩,hK⟩:=hs
     have hH:=look_holds hM nm
     have hG:=look_good hM nm
     rw [hc] at hH hG
     obtain ⟨rfl,hb⟩:=takeC_spec htk
     have hok:=okL_append.1 hG.1
     have hs1:=storL_append.1 hG.2
     have hfam:∀ k,k < n→sz (f k) = s∧ok h.length (f k):=hok.2.1
     have hfst:∀ k,k < n→stor (f k):=hs1.2.1
     have la:=denC_len ρ _ a0 hok.1
     obtain ⟨A,E,e1,e2,hA⟩:=flatMap_range_upd (fun k=>(den ρ (f k)).cells.toList) (fun k=>(den ρ ((fun k=>if k = i then x else f k) k)).cells.toList) i s
      (fun k hk=>by simp only [if_neg hk]) n (fun k hk=>(cells_len ρ _ (f k) (hfam k hk).2).trans (hfam k hk).1) hi
     simp only [if_true] at e2
     have ht:=hH.2.2 rfl
     have hr:=hH.2.1
     have hold:denC ρ (a0++.fam n s f :: post) = (denC ρ a0++A)++((den ρ (f i)).cells.toList++(E++denC ρ post)):=by
      rw [denC_append,denC,cells_fam,e1]; simp
     have hnew:denC ρ (a0++.fam n s (fun k=>if k = i then x else f k) :: post) = (denC ρ a0++A)++((den ρ x).cells.toList++(E++denC ρ post)):=by
      rw [denC_append,denC,cells_fam,e2]; simp
     rw [hold] at hr ht
     have lf:=(cells_len ρ _ (f i) (hfam i hi).2).trans (hfam i hi).1
     have hsp:=rangeAt_splice (D:=(den ρ x).cells.toList) hr ht (by omega)
     rw [List.length_append,la,hb,hA] at hsp
     have hth:w.there (ρ nm).b ((ρ nm).o+(b+i * s)) (den ρ x).cells.size:=there_mono ht (by simp only [List.length_append]; omega)
     refine ⟨w.setCells (ρ nm).b ((ρ nm).o+(b+i * s)) (den ρ x).cells.toList,_,?_,hK,?_,putH_length _ _ _⟩
     ·have:=store_run hF w (ρ nm).b ((ρ nm).o+(b+i * s)) (den ρ x) (by omega) hth (stor_one ρ x h3)
      simpa [den,Nat.add_assoc] using this
     ·refine hM.write (lookH_some hc (by simp)) ⟨rfl,hH.1⟩ (keep_setCells w _ _ _) ?_ ?_
      ·refine ⟨okL_append.2 ⟨hok.1,fun k hk=>?_,hok.2.2⟩,storL_append.2 ⟨hs1.1,fun k hk=>?_,hs1.2.2⟩⟩
       ·by_cases hki:k = i
        ·simp only [hki,if_true]; exact ⟨h1,hx⟩
        ·simp only [if_neg hki]; exact hfam k hk
       ·by_cases hki:k = i
        ·simp only [hki,if_true]; exact h3
        ·simp only [if_neg hki]; exact hfst k hk
      ·refine ⟨hH.1,?_,fun _=>?_⟩
       ·rw [hnew]; exact hsp.1
       ·rw [hnew]; exact hsp.2
    ·split at hs
     ·rename_i fs' hw
      obtain ⟨⟨h1,h2⟩,hK⟩:=hs
      obtain ⟨q1,q2⟩:=wr_fields hM hc hw hx h2
      refine ⟨_,_,?_,hK,q2,putH_length _ _ _⟩
      have:=store_run hF w _ _ (den ρ x) (by omega) q1 (stor_one ρ x h2)
      simpa [den,Nat.add_assoc] using this
     ·exact hs.elim
    ·exact hs.elim
   ·exact hs.elim
  ·exact hs.elim
 ·exact hs.elim
end Go.Sx
set_option linter.all false
namespace Go.Sx
open Go.RowKit
variable {P:Program}
def cpS (tab:Tab) (h:List Chunk) (dT:TypeId) (d x:SV) (K:SV→List Chunk→Prop):Prop :=
 match tab dT with
 | some ⟨.slice el,_,_,_,_⟩=>match tab el with
  | some e=>match d with
   | .sl nm 0 0 _ m _=>match lookH h nm with
    | .cells true [.fam m' s1 _]=>match x with
     | .osl nx _ ex s n=>match lookH h nx with
      | .row _ n' s' f=>(e.size = 1∧s = 1∧s' = 1∧s1 = 1∧m' = m∧0 < m∧m≤n∧ex+n≤n')∧K (.int .i64 (m:Nat)) (putH h nm (.cells true [.fam m 1 fun i=>f (ex+i)]))
      | _=>False
     | _=>False
    | _=>False
   | _=>False
  | _=>False
 | _=>False
theorem cpS_run {tab:Tab} (hT:tab.Ok P) {C:Ctx} {h:List Chunk} {dT sT ty:TypeId} {d x:SV} {K:SV→List Chunk→Prop} (hs:cpS tab h dT d x K) {ρ:Env} {w:World} (hM:Models C ρ h w) :
  Goes P C h ρ w ((Builtin.copy_ #[dT,sT] ty #[den ρ d,den ρ x]).run P w) K:=by
 unfold cpS at hs
 split at hs
 ·rename_i el _ _ _ _ hd
  split at hs
  ·rename_i e he
   split at hs
   ·rename_i nm s0 m cap
    split at hs
    ·rename_i m' s1 F hc
     split at hs
     ·rename_i nx dx ex s n
      split at hs
      ·rename_i wr n' s' f hr
       obtain ⟨⟨h1,rfl,rfl,rfl,rfl,hm,hmn,hle⟩,hK⟩:=hs
       obtain ⟨dd,hu,hfd⟩:=(hT _ _ hd).desc
       simp only [TD.fits] at hfd
       subst hfd
       have hsz:=(hT _ _ he).siz w
       have hH:=look_holds hM nm
       have hG:=look_good hM nm
       rw [hc] at hH hG
       have hX:=look_holds hM nx
       have hY:=look_good hM nx
       rw [hr] at hX hY
       obtain ⟨hn,hra⟩:=hX.some (by omega)
       have hcap:=hX.nle
       have hfam:∀ i,i < n'→sz (f i) = 1∧ok h.length (f i):=hY.1
       have hst:∀ i,i < n'→stor (f i):=hY.2
       rw [cells_fam] at hra
       obtain ⟨a,c,hac,hal⟩:=cellsOf_part (ρ:=ρ) (e:=ex) (m:=m') hfam (by omega)
       unfold cellsOf at hac
       rw [hac,rangeAt_app,rangeAt_app,hal] at hra
       have hsrc:=hra.1.2
       obtain ⟨hnil,hrg,hth⟩:=hH
       have ht:=hth rfl
       have hlen:(denC ρ [.fam m' 1 F]).length = m':=by
        have:=denC_len ρ h.length _ hG.1
        rw [this]
        simp [szL,sz]
       rw [hlen] at ht
       have hne:¬ (ρ nx).c = ex:=by omega
       have hcl:(cellsOf ρ m' fun i=>f (ex+i)).length = m':=by
        have:=cellsOf_len (ρ:=ρ) (n:=h.length) (s:=1) (m:=m') (g:=fun i=>f (ex+i)) fun i hi=>hfam _ (by omega)
        rw [this]
        omega
       have hone:∀ v ∈ cellsOf ρ m' (fun i=>f (ex+i)),v.oneCell' = true:=cellsOf_one fun i hi=>hst _ (by omega)
       have hinf:(P.info? el).map (·.size) = some 1:=by
        obtain ⟨i,hi,hs1,_⟩:=(hT _ _ he).info
        rw [hi,Option.map_some,hs1,h1]
       have hrun:=run_copy_cells (P:=P) w dT sT ty el (ρ nm).b (ρ nm).o m' cap ⟨(ρ nx).b,(ρ nx).o+ex * 1,none⟩ n ((ρ nx).c - ex) (cellsOf ρ m' fun i=>f (ex+i)) hu hinf
        (by rw [hcl]; exact (Nat.min_eq_right hmn).symm) (fun j v hj=>by rw [Addr.add_mid]; exact hsrc j v hj) (fun j hj=>(ht j (by omega)).1) (fun j hj=>(ht j (by omega)).2) hone
       have hw:=hM.write (w':=w.setCells (ρ nm).b (ρ nm).o (cellsOf ρ m' fun i=>f (ex+i))) (lookH_some hc (by simp)) ⟨rfl,hnil⟩ (keep_setCells w _ _ _) (c':=.cells true [.fam m' 1 fun i=>f (ex+i)])
        ⟨⟨fun i hi=>hfam _ (by omega),trivial⟩,fun i hi=>hst _ (by omega),trivial⟩ (by
         have e:denC ρ [.fam m' 1 fun i=>f (ex+i)] = cellsOf ρ m' fun i=>f (ex+i):=by
          show (den ρ (.fam m' 1 fun i=>f (ex+i))).cells.toList++[] = _
          rw [List.append_nil,cells_fam]
          rfl
         refine ⟨hnil,?_,fun _=>?_⟩
         ·rw [e]
          exact World.rangeAt_setCells_same _ _ _ _ (by rw [hcl]; exact ht)
         ·rw [e,hcl]
          exact World.there_setCells ht _ _ _)
       refine ⟨_,ρ,_,_,?_,hK,hw,fun _ _=>rfl,trivial,by rw [putH_length]; exact Nat.le_refl _⟩
       have e1:den ρ (.sl nm 0 0 s0 m' cap) = .slice (some ⟨(ρ nm).b,(ρ nm).o,none⟩) m' cap:=by simp [den]
       have e2:den ρ (.osl nx dx ex 1 n) = .slice (some ⟨(ρ nx).b,(ρ nx).o+ex * 1,none⟩) n ((ρ nx).c - ex):=by simp [den,hn,hne]
       rw [e1,e2,hrun,hcl]
       rfl
      ·exact hs.elim
     ·exact hs.elim
    ·exact hs.elim
   ·exact hs.elim
  ·exact hs.elim
 ·exact hs.elim
end Go.Sx
