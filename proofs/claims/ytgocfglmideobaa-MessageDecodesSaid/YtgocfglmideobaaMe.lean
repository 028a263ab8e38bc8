/- Texts put together: What may be is not long. No condition. -/
import Derived.Test.YtgocfglmideobaaMd
import Derived.Test.YtgocfglmideobaaMc
import Derived.Test.YtgocfglmideobaaRows
set_option linter.all false
set_option maxRecDepth 40000
namespace Go.Proofs.Ytgocfglmideobaa
open Go Go.Sx
theorem mayL_all {kind:Int}:∀ {l:List Msg},mayL kind l = 0→∀ m ∈ l,m.kind = kind∧may m = 0
 | [],_,m,hm=>by cases hm
 | a :: l,h,m,hm=>by
  rw [mayL] at h
  by_cases c:a.kind ≠ kind
  ·rw [if_pos c] at h; cases h
  ·rw [if_neg c] at h
   by_cases c2:may a ≠ 0
   ·rw [if_pos c2] at h; exact absurd h c2
   ·rw [if_neg c2] at h
    rcases List.mem_cons.1 hm with rfl | hm
    ·exact ⟨Classical.not_not.1 c,Classical.not_not.1 c2⟩
    ·exact mayL_all h m hm
theorem mayQ_all {is:Bool}:∀ {q:List (Msg × List Msg)},mayQ is q = 0→∀ x ∈ q,(x.1.kind = 2∧may x.1 = 0)∧x.2.length≤64∧∀ m ∈ x.2,m.kind = 3∧may m = 0
 | [],_,x,hx=>by cases hx
 | (a,l) :: r,h,x,hx=>by
  rw [mayQ] at h
  dsimp only at h
  by_cases c:a.kind ≠ 2
  ·rw [if_pos c] at h; cases h
  ·rw [if_neg c] at h
   by_cases c2:may a ≠ 0
   ·rw [if_pos c2] at h; exact absurd h c2
   ·rw [if_neg c2] at h
    by_cases c3:is = false∧0 < l.length
    ·rw [if_pos c3] at h; cases h
    ·rw [if_neg c3] at h
     by_cases c4:l.length > 64
     ·rw [if_pos c4] at h; cases h
     ·rw [if_neg c4] at h
      by_cases c5:mayL 3 l ≠ 0
      ·rw [if_pos c5] at h; exact absurd h c5
      ·rw [if_neg c5] at h
       rcases List.mem_cons.1 hx with rfl | hx
       ·exact ⟨⟨Classical.not_not.1 c,Classical.not_not.1 c2⟩,by show l.length≤64; omega,mayL_all (Classical.not_not.1 c5)⟩
       ·exact mayQ_all h x hx
theorem mayBs_all:∀ {bs:List (List By)},mayBs bs = 0→∀ b ∈ bs,b.length≤8192
 | [],_,b,hb=>by cases hb
 | a :: l,h,b,hb=>by
  rw [mayBs] at h
  by_cases c:mayB a = 0
  ·rw [if_pos c] at h
   rcases List.mem_cons.1 hb with rfl | hb
   ·unfold mayB at c
    split at c
    ·cases c
    ·split at c
     ·cases c
     ·omega
   ·exact mayBs_all h b hb
  ·rw [if_neg c] at h; exact absurd h c
theorem may_in {k f v s:Int} {d:Nat→By} {b:List By} {bs:List (List By)} {p:List Msg} {q:List (Msg × List Msg)} {key:Int} {of:Nat→By} (h:may (.mk k f v s d b bs p q key of) = 0) :
  (1≤k∧k≤9)∧b.length≤8192∧bs.length≤512∧(hBuns k = false→bs = [])∧(∀ b ∈ bs,b.length≤8192)∧p.length≤64∧(hProof k = false→p = [])∧(∀ m ∈ p,m.kind = kProof k∧may m = 0) ∧
  q.length≤64∧(hPrep k = false→q = [])∧∀ x ∈ q,(x.1.kind = 2∧may x.1 = 0)∧x.2.length≤64∧∀ m ∈ x.2,m.kind = 3∧may m = 0:=by
 rw [may_eq] at h
 by_cases c1:¬ (1≤k∧k≤9)
 ·rw [if_pos c1] at h; cases h
 rw [if_neg c1] at h
 by_cases c2:¬ okFrom k f = true
 ·rw [if_pos c2] at h; cases h
 rw [if_neg c2] at h
 by_cases c3:¬ (okNum (hView k) v = true∧okNum (hSeq k) s = true∧(hDig k || zero32 d) = true)
 ·rw [if_pos c3] at h; cases h
 rw [if_neg c3] at h
 by_cases c4:hBun k = true∧mayB b ≠ 0
 ·rw [if_pos c4] at h; exact absurd h c4.2
 rw [if_neg c4] at h
 by_cases c5:hBun k = false∧0 < b.length
 ·rw [if_pos c5] at h; cases h
 rw [if_neg c5] at h
 by_cases c6:mayLs k bs p q ≠ 0
 ·rw [if_pos c6] at h; exact absurd h c6
 have hb:b.length≤8192:=by
  cases hh:hBun k with
  | false=>exact Nat.le_trans (Nat.le_of_not_lt fun h=>c5 ⟨hh,h⟩) (Nat.zero_le _)
  | true =>
   have c:mayB b = 0:=Classical.not_not.1 fun h=>c4 ⟨hh,h⟩
   unfold mayB at c
   split at c
   ·cases c
   ·split at c
    ·cases c
    ·omega
 replace c6:mayLs k bs p q = 0:=Classical.not_not.1 c6
 unfold mayLs at c6
 by_cases d1:hBuns k = false∧0 < bs.length
 ·rw [if_pos d1] at c6; cases c6
 rw [if_neg d1] at c6
 by_cases d2:bs.length > 512
 ·rw [if_pos d2] at c6; cases c6
 rw [if_neg d2] at c6
 by_cases d3:mayBs bs ≠ 0
 ·rw [if_pos d3] at c6; exact absurd c6 d3
 rw [if_neg d3] at c6
 by_cases d4:hProof k = false∧0 < p.length
 ·rw [if_pos d4] at c6; cases c6
 rw [if_neg d4] at c6
 by_cases d5:p.length > 64
 ·rw [if_pos d5] at c6; cases c6
 rw [if_neg d5] at c6
 by_cases d6:mayL (kProof k) p ≠ 0
 ·rw [if_pos d6] at c6; exact absurd c6 d6
 rw [if_neg d6] at c6
 by_cases d7:hPrep k = false∧0 < q.length
 ·rw [if_pos d7] at c6; cases c6
 rw [if_neg d7] at c6
 by_cases d8:q.length > 64
 ·rw [if_pos d8] at c6; cases c6
 rw [if_neg d8] at c6
 have emp:∀ {α:Type} {l:List α} {b:Bool},¬ (b = false∧0 < l.length)→b = false→l = []:=fun h e=>List.eq_nil_of_length_eq_zero (Nat.le_zero.1 (Nat.le_of_not_lt fun q=>h ⟨e,q⟩))
 exact ⟨Classical.not_not.1 c1,hb,by omega,emp d1,mayBs_all (Classical.not_not.1 d3),by omega,emp d4,mayL_all (Classical.not_not.1 d6),by omega,emp d7,mayQ_all c6⟩
theorem sum_le {α:Type} (f:α→List By) (B:Nat):∀ {l:List α},(∀ x ∈ l,(f x).length≤B)→(l.flatMap f).length≤l.length * B
 | [],_=>by simp
 | a :: l,h=>by
  rw [List.flatMap_cons,List.length_append,List.length_cons,Nat.succ_mul]
  have:=h a (List.mem_cons_self ..)
  have:=sum_le f B (l:=l) fun x hx=>h x (List.mem_cons_of_mem _ hx)
  omega
theorem leb_len {n:Nat} (h:n < 18446744073709551616):(leb n).length≤10:=leb_le 9 n (Nat.lt_of_lt_of_le h (by decide))
theorem putB_len {b:List By} {B:Nat} (h:b.length≤B) (hB:B < 18446744073709551616):(putB b).length≤B+10:=by
 unfold putB
 rw [List.length_append]
 have:=leb_len (n:=b.length) (by omega)
 omega
theorem enc_len {k f v s:Int} {d:Nat→By} {b:List By} {bs:List (List By)} {p:List Msg} {q:List (Msg × List Msg)} {key:Int} {of:Nat→By} (ho:wfM (.mk k f v s d b bs p q key of)) (h:may (.mk k f v s d b bs p q key of) = 0) {BS BP BQ:Nat} (h1:(bs.flatMap putB).length≤BS) (h2:(p.flatMap fun m=>putB (enc m)).length≤BP) (h3:(q.flatMap encP).length≤BQ) :
  (enc (.mk k f v s d b bs p q key of)).length≤8400+BS+BP+BQ:=by
 have hm:=may_in h
 rw [wfM] at ho
 unfold enc
 rw [body_eq]
 simp only [List.length_append,d32_len,List.length_singleton]
 have e1:=leb_len (zig_lt ho.2.1)
 have e2:=leb_64 (BitVec.ofInt 64 v)
 have e3:=leb_64 (BitVec.ofInt 64 s)
 have e4:=putB_len hm.2.1 (by decide)
 have e5:=leb_len (n:=bs.length) (by have:=hm.2.2.1; omega)
 have e6:=leb_len (n:=p.length) (by have:=hm.2.2.2.2.2.1; omega)
 have e7:=leb_len (n:=q.length) (by have:=hm.2.2.2.2.2.2.2.2.1; omega)
 have e8:(leb (zig (Msg.mk k f v s d b bs p q key of).key)).length≤10:=leb_len (zig_lt ho.2.2.2.2.1)
 have e9:(d32 (Msg.mk k f v s d b bs p q key of).of).length = 32:=d32_len _
 have e2':(leb (u64n v)).length≤10:=e2
 have e3':(leb (u64n s)).length≤10:=e3
 omega
theorem enc_flat {m:Msg} (ho:wfM m) (h:may m = 0) (h1:hBuns m.kind = false) (h2:hProof m.kind = false) (h3:hPrep m.kind = false):(enc m).length≤8400:=by
 obtain ⟨k,f,v,s,d,b,bs,p,q,key,of⟩:=m
 have hm:=may_in h
 obtain rfl:=hm.2.2.2.1 h1
 obtain rfl:=hm.2.2.2.2.2.2.1 h2
 obtain rfl:=hm.2.2.2.2.2.2.2.2.2.1 h3
 exact enc_len ho h (BS:=0) (BP:=0) (BQ:=0) (by simp) (by simp) (by simp)
theorem encP_len {x:Msg × List Msg} (ho:wfM x.1∧wfL x.2) (h:(x.1.kind = 2∧may x.1 = 0)∧x.2.length≤64∧∀ m ∈ x.2,m.kind = 3∧may m = 0):(encP x).length≤560000:=by
 unfold encP
 rw [List.length_append,List.length_append]
 have e1:=putB_len (enc_flat ho.1 h.1.2 (by rw [h.1.1]; rfl) (by rw [h.1.1]; rfl) (by rw [h.1.1]; rfl)) (by decide)
 have e2:=leb_len (n:=x.2.length) (by have:=h.2.1; omega)
 have e3:=sum_le (fun m=>putB (enc m)) 8410 (l:=x.2) fun m hm=>by
  have hk:=h.2.2 m hm
  exact putB_len (enc_flat (ho.2.get m hm) hk.2 (by rw [hk.1]; rfl) (by rw [hk.1]; rfl) (by rw [hk.1]; rfl)) (by decide)
 have e4:=Nat.mul_le_mul_right 8410 h.2.1
 omega
theorem bs_len {bs:List (List By)} (h:bs.length≤512) (hb:∀ b ∈ bs,b.length≤8192):(bs.flatMap putB).length≤4200000:=by
 have:=sum_le putB 8202 (l:=bs) fun b hb'=>putB_len (hb b hb') (by decide)
 have:=Nat.mul_le_mul_right 8202 h
 omega
theorem enc_five {m:Msg} (ho:wfM m) (h:may m = 0) (hk:m.kind ≠ 7):(enc m).length≤41000000:=by
 obtain ⟨k,f,v,s,d,b,bs,p,q,key,of⟩:=m
 have hm:=may_in h
 have ho':=ho
 rw [wfM] at ho'
 have hk5:kProof k = 5:=by unfold kProof; exact if_neg hk
 have e1:=sum_le (fun m=>putB (enc m)) 8410 (l:=p) fun m hm'=>by
  have hk:=hm.2.2.2.2.2.2.2.1 m hm'
  rw [hk5] at hk
  exact putB_len (enc_flat (ho'.2.2.2.2.2.1.get m hm') hk.2 (by rw [hk.1]; rfl) (by rw [hk.1]; rfl) (by rw [hk.1]; rfl)) (by decide)
 have e2:=sum_le encP 560000 (l:=q) fun x hx=>encP_len (ho'.2.2.2.2.2.2.get x hx) (hm.2.2.2.2.2.2.2.2.2.2 x hx)
 have e3:=Nat.mul_le_mul_right 8410 hm.2.2.2.2.2.1
 have e4:=Nat.mul_le_mul_right 560000 hm.2.2.2.2.2.2.2.2.1
 have:=enc_len ho h (BS:=4200000) (BP:=540000) (BQ:=35840000) (bs_len hm.2.2.1 hm.2.2.2.2.1) (by omega) (by omega)
 omega
theorem enc_small {m:Msg} (ho:wfM m) (h:may m = 0):(enc m).length≤3000000000:=by
 by_cases hk:m.kind = 7
 ·obtain ⟨k,f,v,s,d,b,bs,p,q,key,of⟩:=m
  have hm:=may_in h
  have ho':=ho
  rw [wfM] at ho'
  have hk6:kProof k = 6:=by unfold kProof; exact if_pos hk
  have e1:=sum_le (fun m=>putB (enc m)) 41000010 (l:=p) fun m hm'=>by
   have hk:=hm.2.2.2.2.2.2.2.1 m hm'
   rw [hk6] at hk
   exact putB_len (enc_five (ho'.2.2.2.2.2.1.get m hm') hk.2 (by rw [hk.1]; decide)) (by decide)
  have e2:=sum_le encP 560000 (l:=q) fun x hx=>encP_len (ho'.2.2.2.2.2.2.get x hx) (hm.2.2.2.2.2.2.2.2.2.2 x hx)
  have e3:=Nat.mul_le_mul_right 41000010 hm.2.2.2.2.2.1
  have e4:=Nat.mul_le_mul_right 560000 hm.2.2.2.2.2.2.2.2.1
  have:=enc_len ho h (BS:=4200000) (BP:=2624000640) (BQ:=35840000) (bs_len hm.2.2.1 hm.2.2.2.2.1) (by omega) (by omega)
  omega
 ·have:=enc_five ho h hk
  omega
theorem body_small {m:Msg} (ho:wfM m) (h:may m = 0):(body m).length≤3000000000:=by
 have:=enc_small ho h
 unfold enc at this
 rw [List.length_append,List.length_append] at this
 omega
end Go.Proofs.Ytgocfglmideobaa
set_option linter.all false
set_option maxRecDepth 40000
namespace Go.Proofs.Ytgocfglmideobaa
open Go Go.Sx
theorem res17:Try.f17.results.toList = [.tmp 2]:=rfl
end Go.Proofs.Ytgocfglmideobaa
set_option linter.all false
set_option maxRecDepth 40000
namespace Go.Proofs.Ytgocfglmideobaa
open Go Go.Sx
theorem MsgsH.mk {h:List Chunk}:∀ {p:List Msg} {f:Nat→List SV},(∀ i (hi:i < p.length),MsgH h p[i] (f i))→MsgsH h p f
 | [],_,_=>by rw [MsgsH]; trivial
 | m :: l,f,H=>by
  rw [MsgsH]
  exact ⟨H 0 (by simp),MsgsH.mk fun i hi=>H (i+1) (by simpa using hi)⟩
theorem MsgsH.app {h:List Chunk} {a b:List Msg} {f g F:Nat→List SV} (ha:MsgsH h a f) (hb:MsgsH h b g) (h1:∀ i,i < a.length→F i = f i) (h2:∀ i,i < b.length→F (a.length+i) = g i):MsgsH h (a++b) F:=MsgsH.mk fun i hi=>by
 by_cases c:i < a.length
 ·rw [h1 i c,List.getElem_append_left c]
  exact ha.get c
 ·have hi2:i - a.length < b.length:=by rw [List.length_append] at hi; omega
  have hF:=h2 _ hi2
  rw [Nat.add_sub_cancel' (Nat.le_of_not_lt c)] at hF
  rw [List.getElem_append_right (by omega),hF]
  exact hb.get hi2
def ExtR (h h':List Chunk):Prop:=∀ k w n s f,lookH h k = .row w n s f→lookH h' k = .row w n s f
theorem rowB.extR {h h':List Chunk} {sv:SV} {b:List By} (H:rowB h sv b) (hE:ExtR h h'):rowB h' sv b:=by
 obtain ⟨k,w,e,hk⟩:=H
 exact ⟨k,w,e,hE _ _ _ _ _ hk⟩
theorem rowBs.extR {h h':List Chunk} {sv:SV} {b:List (List By)} (H:rowBs h sv b) (hE:ExtR h h'):rowBs h' sv b:=by
 obtain ⟨k,w,f,e,hk,hb⟩:=H
 exact ⟨k,w,f,e,hE _ _ _ _ _ hk,fun i hi=>(hb i hi).extR hE⟩
mutual
theorem MsgH.extR {h h':List Chunk} (hE:ExtR h h'):∀ {m:Msg} {l:List SV},MsgH h m l→MsgH h' m l
 | .mk kind frm view seq dig b bs p q key of,l,H=>by
  rw [MsgH] at H ⊢
  obtain ⟨sb,sbs,kp,wp,fp,kq,wq,fq,e,h1,h2,h3,h4,h5,h6⟩:=H
  exact ⟨sb,sbs,kp,wp,fp,kq,wq,fq,e,h1.extR hE,h2.extR hE,hE _ _ _ _ _ h3,MsgsH.extR hE h4,hE _ _ _ _ _ h5,PrepsH.extR hE h6⟩
theorem MsgsH.extR {h h':List Chunk} (hE:ExtR h h'):∀ {p:List Msg} {f:Nat→List SV},MsgsH h p f→MsgsH h' p f
 | [],_,_=>by rw [MsgsH]; trivial
 | m :: l,f,H=>by
  rw [MsgsH] at H ⊢
  exact ⟨MsgH.extR hE H.1,MsgsH.extR hE H.2⟩
theorem PrepsH.extR {h h':List Chunk} (hE:ExtR h h'):∀ {p:List (Msg × List Msg)} {f:Nat→List SV},PrepsH h p f→PrepsH h' p f
 | [],_,_=>by rw [PrepsH]; trivial
 | (m,l) :: r,f,H=>by
  rw [PrepsH] at H ⊢
  obtain ⟨⟨lm,kl,wl,fl,e,h1,h2,h3⟩,h4⟩:=H
  exact ⟨⟨lm,kl,wl,fl,e,MsgH.extR hE h1,hE _ _ _ _ _ h2,MsgsH.extR hE h3⟩,PrepsH.extR hE h4⟩
end
theorem ext_rows {h h':List Chunk} {N:Nat→Prop} (hE:Ext N h h') (hN:∀ k,N k→∀ w n s f,lookH h k ≠ .row w n s f):ExtR h h':=fun k w n s f hk=>hE.look hk (by simp) fun hn=>hN k hn _ _ _ _ hk
theorem putH_at (l:List Chunk) (c:Chunk):∀ {h:List Chunk} {k:Nat},k < h.length→putH (h++l) k c = putH h k c++l
 | [],k,hk=>absurd hk (Nat.not_lt_zero _)
 | x :: h,0,hk=>rfl
 | x :: h,k+1,hk=>by
  show x :: putH (h++l) k c = x :: (putH h k c++l)
  rw [putH_at l c (by simpa using hk)]
theorem lookH_pA (l:List Chunk) (c:Chunk) (h:List Chunk) (m j:Nat):lookH (putH h m c++l) (h.length+j) = lookH l j:=by
 have:=lookH_app l j (putH h m c)
 rwa [putH_len] at this
theorem lookH_pA0 (l:List Chunk) (c:Chunk) (h:List Chunk) (m:Nat):lookH (putH h m c++l) h.length = lookH l 0:=lookH_pA l c h m 0
theorem putH_pA (l:List Chunk) (c d:Chunk) (h:List Chunk) (m j:Nat):putH (putH h m c++l) (h.length+j) d = putH h m c++putH l j d:=by
 have:=putH_app l d j (putH h m c)
 rwa [putH_len] at this
theorem lookH_pB (l:List Chunk) (c:Chunk) {h:List Chunk} {m k:Nat} (hk:k < h.length):lookH (putH h m c++l) k = lookH (putH h m c) k:=lookH_at l (by rw [putH_len]; exact hk)
end Go.Proofs.Ytgocfglmideobaa
set_option linter.all false
set_option maxRecDepth 40000
namespace Go.Proofs.Ytgocfglmideobaa
open Go Go.Sx
end Go.Proofs.Ytgocfglmideobaa
set_option linter.all false
set_option maxRecDepth 40000
namespace Go.Proofs.Ytgocfglmideobaa
open Go Go.Sx
end Go.Proofs.Ytgocfglmideobaa
set_option linter.all false
set_option maxRecDepth 40000
namespace Go.Proofs.Ytgocfglmideobaa
open Go Go.Sx
theorem lkL_map (ρ:Env) (j:Nat→Value):∀ (l l':List (Nat × SV)),(l'.map fun p=>(p.1,den ρ p.2)) = (l.map fun p=>(p.1,den ρ p.2))→∀ i,den ρ (lkL l' j i) = den ρ (lkL l j i)
 | [],[],_,_=>rfl
 | [],_ :: _,h,_=>by simp at h
 | _ :: _,[],h,_=>by simp at h
 | (k,v) :: l,(k',v') :: l',h,i=>by
  simp only [List.map_cons,List.cons.injEq,Prod.mk.injEq] at h
  obtain ⟨⟨rfl,h1⟩,h2⟩:=h
  simp only [lkL]
  split
  ·exact h1
  ·exact lkL_map ρ j l l' h2 i
theorem into_nil {nf n:Nat} {l:List (Nat × SV)} {j:Nat→Value} {h:List Chunk} {d:List Deferred} {J:St→Prop} (l':List (Nat × SV)) (s:Nat) (f:Nat→SV)
  (hl:∀ ρ:Env,ρ h.length = ⟨0,0,0,true,none⟩→(l'.map fun p=>(p.1,den ρ p.2)) = (l.map fun p=>(p.1,den ρ p.2))) (ho:okE (h.length+1) n l') (hJ:Into nf ⟨⟨n,l',j⟩,h++[.row true 0 s f],d⟩ J):Into nf ⟨⟨n,l,j⟩,h,d⟩ J:=fun C ρ w hC hM hok=>by
 have hM1:Models C (upd ρ h.length ⟨0,0,0,true,none⟩) (h++[.row true 0 s f]) w:=hM.alloc (Keep.refl _ _) (fun h=>by cases h) ⟨fun i hi=>absurd hi (by omega),fun i hi=>absurd hi (by omega)⟩ (by simp [Holds,upd])
 have ha:Agree h.length ρ (upd ρ h.length ⟨0,0,0,true,none⟩):=fun k hk=>by simp [upd,show k ≠ h.length by omega]
 obtain ⟨ρ',st',h1,h2,h3,h4⟩:=hJ C _ w hC hM1 ⟨hok.1,by simpa using ho⟩
 refine ⟨ρ',st',h1,h2,h3,?_⟩
 rw [← h4]
 have e:tmpsD ρ ⟨n,l,j⟩ = tmpsD (upd ρ h.length ⟨0,0,0,true,none⟩) ⟨n,l',j⟩:=by
  rw [← tmpsD_agree ha hok]
  unfold tmpsD
  apply List.map_congr_left
  intro i _
  exact (lkL_map _ j l l' (hl _ (by simp [upd])) i).symm
 simp only [act,e]
theorem callP_nil {P:Pr} {f:FuncId} {args args':List SV} {h:List Chunk} {K:Tok→SV→List Chunk→Prop} (s:Nat) (F:Nat→SV) (ha:∀ ρ:Env,ρ h.length = ⟨0,0,0,true,none⟩→denL ρ args' = denL ρ args) (ho:okL (h.length+1) args') (hc:callP P f args' (h++[.row true 0 s F]) K):callP P f args h K:=by
 intro C ρ w hk hM hok
 have hM1:Models C (Sx.upd ρ h.length ⟨0,0,0,true,none⟩) (h++[.row true 0 s F]) w:=hM.alloc (Keep.refl _ _) (fun h=>by cases h) ⟨fun i hi=>absurd hi (by omega),fun i hi=>absurd hi (by omega)⟩ (by simp [Holds,Sx.upd])
 have hag:Agree h.length ρ (Sx.upd ρ h.length ⟨0,0,0,true,none⟩):=fun k hk=>by simp [Sx.upd,show k ≠ h.length by omega]
 have hd:denL ρ args = denL (Sx.upd ρ h.length ⟨0,0,0,true,none⟩) args':=by
  rw [ha _ (by simp [Sx.upd])]
  exact (denL_agree hag args hok).symm
 have fin:∀ (ρ':Env) (sv:SV) (h':List Chunk),Agree (h++[Chunk.row true 0 s F]).length (Sx.upd ρ h.length ⟨0,0,0,true,none⟩) ρ'→(h++[Chunk.row true 0 s F]).length≤h'.length→Agree h.length ρ ρ'∧h.length≤h'.length:=fun ρ' sv h' h1 h2=>by
  rw [List.length_append,List.length_singleton] at h1 h2
  exact ⟨fun k hk=>(h1 k (by omega)).trans (hag k hk),by omega⟩
 rw [hd]
 rcases hc C _ w hk hM1 (by simpa using ho) with ⟨w',ρ',sv,h',q1,q2,q3,q4,q5,q6⟩ | ⟨q1,q2⟩
 ·obtain ⟨p1,p2⟩:=fin ρ' sv h' q4 q6
  exact .inl ⟨w',ρ',sv,h',q1,q2,q3,p1,q5,p2⟩
 ·refine .inr ⟨q1,fun F n hF hro=>CallsIn.mono (q2 F n hF hro) ?_⟩
  rintro e w' ⟨ρ',sv,h',rfl,r2,r3,r4,r5,r6⟩
  obtain ⟨p1,p2⟩:=fin ρ' sv h' r4 r6
  exact ⟨ρ',sv,h',rfl,r2,r3,p1,r5,p2⟩
theorem callP_emp {P:Pr} {f:FuncId} {k s:Nat} {rest:List SV} {h:List Chunk} {K:Tok→SV→List Chunk→Prop} (hc:∀ a c,callP P f (.v (.slice a 0 c) :: rest) h K):callP P f (.osl k 0 0 s 0 :: rest) h K:=by
 intro C ρ w hk hM hok
 obtain ⟨a,c,e⟩:∃ a c,den ρ (.osl k 0 0 s 0) = .slice a 0 c:=⟨_,_,rfl⟩
 have:=hc a c C ρ w hk hM ⟨trivial,hok.2⟩
 have e2:denL ρ (.osl k 0 0 s 0 :: rest) = denL ρ (.v (.slice a 0 c) :: rest):=by
  simp only [denL,e]
  rfl
 rw [e2]
 exact this
theorem extR_unput {H:List Chunk} {m:Nat}:ExtR (putH H m .none) H:=fun k w n s f hk=>by
 by_cases e:k = m
 ·subst e
  by_cases hl:k < H.length
  ·rw [lookH_put_same _ hl] at hk; cases hk
  ·have h1:lookH (putH H k .none) k = .none:=Classical.byContradiction fun hne=>by
    have:=lookH_lt (h:=putH H k .none) (p:=k) rfl hne
    rw [putH_len] at this
    exact hl this
   rw [h1] at hk; cases hk
 ·rwa [lookH_put_ne _ e] at hk
def fresh (n:Nat) (H:List Chunk):List Chunk:=List.replicate n .none++H.drop n
theorem lookH_rep:∀ (n k:Nat) (l:List Chunk),k < n→lookH (List.replicate n .none++l) k = .none
 | 0,k,l,h=>absurd h (Nat.not_lt_zero _)
 | n+1,0,l,h=>rfl
 | n+1,k+1,l,h=>lookH_rep n k l (by omega)
theorem lookH_drop:∀ (n k:Nat) (H:List Chunk),lookH (H.drop n) k = lookH H (n+k)
 | 0,k,H=>by simp
 | n+1,k,[]=>by simp [lookH]
 | n+1,k,c :: H=>by
  rw [List.drop_succ_cons,lookH_drop n k H,show n+1+k = (n+k)+1 by omega]
  rfl
theorem fresh_look (n k:Nat) (H:List Chunk):lookH (fresh n H) k = if k < n then .none else lookH H k:=by
 unfold fresh
 by_cases h:k < n
 ·rw [if_pos h,lookH_rep n k _ h]
 ·rw [if_neg h]
  have:=lookH_app (H.drop n) (k - n) (List.replicate n .none)
  rw [List.length_replicate,show n+(k - n) = k by omega] at this
  rw [this,lookH_drop,show n+(k - n) = k by omega]
theorem extR_fresh (n:Nat) (H:List Chunk):ExtR (fresh n H) H:=fun k w m s f hk=>by
 rw [fresh_look] at hk
 split at hk
 ·cases hk
 ·exact hk
theorem extR_f1 {n m:Nat} {H:List Chunk}:ExtR (fresh n (putH H m .none)) (fresh n H):=fun k w a s f hk=>by
 rw [fresh_look] at hk ⊢
 split at hk
 ·cases hk
 ·rw [if_neg (by assumption)]
  exact extR_unput _ _ _ _ _ hk
theorem extR_f2 {n m:Nat} {H H1:List Chunk} (hE:Ext (fun _=>False) H H1) (x:List Chunk):ExtR (fresh n (putH H m .none)) (fresh n (putH H1 m .none++x)):=fun k w a s f hk=>by
 rw [fresh_look] at hk ⊢
 split at hk
 ·cases hk
 ·rename_i c
  rw [if_neg c]
  have e:k ≠ m:=fun e=>by
   have h1:=extR_unput _ _ _ _ _ hk
   subst e
   rw [lookH_put_same _ (lookH_lt h1 (by simp))] at hk
   cases hk
  rw [lookH_put_ne _ e] at hk
  have h1:=hE.look hk (by simp) fun h=>h
  rw [lookH_at _ (by rw [putH_len]; exact lookH_lt h1 (by simp)),lookH_put_ne _ e]
  exact h1
theorem extR_f3 {n a m:Nat} {H1:List Chunk} (hn:n≤a) (hm:m < a) (x:List Chunk):ExtR (fresh a H1) (fresh n (putH H1 m .none++x)):=fun k w b s f hk=>by
 rw [fresh_look] at hk ⊢
 split at hk
 ·cases hk
 ·rename_i c
  rw [if_neg (by omega),lookH_at _ (by rw [putH_len]; exact lookH_lt hk (by simp)),lookH_put_ne _ (by omega)]
  exact hk
theorem extR_f4 {n:Nat} {H H1:List Chunk} (hE:Ext (fun _=>False) H H1):ExtR (fresh n H) (fresh n H1):=fun k w a s f hk=>by
 rw [fresh_look] at hk ⊢
 split at hk
 ·cases hk
 ·rw [if_neg (by assumption)]
  exact hE.look hk (by simp) fun h=>h
theorem extR_f5 {n a:Nat} {H1:List Chunk} (hn:n≤a):ExtR (fresh a H1) (fresh n H1):=fun k w b s f hk=>by
 rw [fresh_look] at hk ⊢
 split at hk
 ·cases hk
 ·rw [if_neg (by omega)]
  exact hk
theorem extR_app (H x:List Chunk):ExtR H (H++x):=fun k w n s f hk=>by rw [lookH_at _ (lookH_lt hk (by simp))]; exact hk
theorem extR_cells {n k:Nat} {H:List Chunk} {wr:Bool} {fs:List SV} (c:Chunk) (hk:lookH H k = .cells wr fs):ExtR (fresh n H) (fresh n (putH H k c)):=fun j w b s f hj=>by
 rw [fresh_look] at hj ⊢
 split at hj
 ·cases hj
 ·rw [if_neg (by assumption),lookH_put_ne _ fun e=>by rw [e,hk] at hj; cases hj]
  exact hj
theorem into_bind {nf:Nat} {st:St} {J' J:St→Prop} (h:Into nf st J') (hj:∀ st,J' st→Into nf st J):Into nf st J:=fun C ρ w hC hM hok=>by
 obtain ⟨ρ1,st1,h1,h2,h3,h4⟩:=h C ρ w hC hM hok
 obtain ⟨ρ2,st2,g1,g2,g3,g4⟩:=hj _ h1 C ρ1 w hC h2 h3
 exact ⟨ρ2,st2,g1,g2,g3,h4.trans g4⟩
abbrev OutO (H:List Chunk) (l:List Msg) (K:Tok→SV→List Chunk→Prop):Prop :=
 ∀ H' k' f,Ext (fun _=>False) H H'→H.length≤k'→lookH H' k' = .row true l.length 73 (fun i=>.agg (f i))→MsgsH (fresh H.length H') l f→K .mk (.osl k' 0 0 73 l.length) H'
abbrev OutW (H:List Chunk) (m:Msg) (K:Tok→SV→List Chunk→Prop):Prop :=
 ∀ H' l',Ext (fun _=>False) H H'→MsgH (fresh H.length H') m l'→K .mk (.agg l') H'
end Go.Proofs.Ytgocfglmideobaa
set_option linter.all false
set_option maxRecDepth 100000
namespace Go.Proofs.Ytgocfglmideobaa
open Go Go.Sx Go.RowKit Go.WideShapes Go.ChangeShapes
def bulk {H:Type} (d:DataW H):Nat:=Rows.uptoBulk d
theorem bulk_all {H:Type}:∀ l:List (DataW H),Rows.uptoBulkAll l = (l.map bulk).sum
 | []=>by simp [Rows.uptoBulkAll]
 | d :: l=>by simp [Rows.uptoBulkAll,bulk_all l,bulk]
theorem bulk_slice {H:Type} (l r:List (DataW H)):(l.map bulk).sum+1≤bulk (.slice l r):=by
 rw [← bulk_all]
 simp only [bulk,Rows.uptoBulk]
 omega
theorem rwIn_extR {h h':List Chunk} (hE:RwIn h h'):ExtR h h':=hE
def RelB (_:List Chunk) (b:By) (sv:SV):Prop:=sv = .int .u8 (nat b)
def RelBs (h:List Chunk) (b:List By) (sv:SV):Prop:=rowB h sv b
def RelM (h:List Chunk) (m:Msg) (sv:SV):Prop:=∃ l,sv = .agg l∧MsgH h m l∧wfM m
def RelP (h:List Chunk) (x:Msg × List Msg) (sv:SV):Prop:=∃ l,sv = .agg l∧(∃ lm kl wl fl,l = lm++[.osl kl 0 0 73 x.2.length]∧MsgH h x.1 lm∧lookH h kl = .row wl x.2.length 73 (fun i=>.agg (fl i))∧MsgsH h x.2 fl)∧wfM x.1∧wfL x.2
def fixB (X:List By) (_:Nat→SV) (i:Nat):SV:=.int .u8 (nat (X.getD i 0))
theorem wfL.mk:∀ {l:List Msg},(∀ i (hi:i < l.length),wfM l[i])→wfL l
 | [],_=>by rw [wfL]; trivial
 | m :: l,h=>by
  rw [wfL]
  exact ⟨h 0 (by simp),wfL.mk fun i hi=>h (i+1) (by simpa using hi)⟩
theorem wfQ.mk:∀ {l:List (Msg × List Msg)},(∀ i (hi:i < l.length),wfM l[i].1∧wfL l[i].2)→wfQ l
 | [],_=>by rw [wfQ]; trivial
 | (m,p) :: l,h=>by
  rw [wfQ]
  have h0:=h 0 (by simp)
  exact ⟨⟨h0.1,h0.2⟩,wfQ.mk fun i hi=>h (i+1) (by simpa using hi)⟩
theorem PrepsH.mk {h:List Chunk}:∀ {p:List (Msg × List Msg)} {f:Nat→List SV},(∀ i (hi:i < p.length),∃ lm kl wl fl,f i = lm++[.osl kl 0 0 73 p[i].2.length]∧MsgH h p[i].1 lm∧lookH h kl = .row wl p[i].2.length 73 (fun i=>.agg (fl i))∧MsgsH h p[i].2 fl)→PrepsH h p f
 | [],_,_=>by rw [PrepsH]; trivial
 | (m,l) :: r,f,H=>by
  rw [PrepsH]
  exact ⟨H 0 (by simp),PrepsH.mk fun i hi=>H (i+1) (by simpa using hi)⟩
section
variable {H:Type} {enc:TypeId × Value→H} {W:World}
theorem opn_byte {fuel:Nat} {cs:List Value} {y:DataW H × List MemPlace} (h:DataW.trod enc Try.prog W 0 (fun _=>true) true fuel 5 cs = some y) (b:Nat):Opn W RelB (fun _=>0) cs b:=fun k0=>by
 obtain ⟨z,rfl,_,h3⟩:=DataW.trod_int Try.underlying5 h
 refine ⟨[],[],BitVec.ofInt 8 z,.int .u8 z,Lies.nil _ _,by rw [RelB,← wf_u8 h3],trivial,trivial,rfl,fun ρ _=>rfl,Nat.zero_le _⟩
theorem RelBs.mono (h h':List Chunk) (b:List By) (sv:SV) (hE:RwIn h h') (hb:RelBs h b sv):RelBs h' b sv:=rowB.extR hb (rwIn_extR hE)
theorem RelM.mono (h h':List Chunk) (b:Msg) (sv:SV) (hE:RwIn h h') (hb:RelM h b sv):RelM h' b sv:=by
 obtain ⟨l,h1,h2,h3⟩:=hb
 exact ⟨l,h1,h2.extR (rwIn_extR hE),h3⟩
theorem RelP.mono (h h':List Chunk) (b:Msg × List Msg) (sv:SV) (hE:RwIn h h') (hb:RelP h b sv):RelP h' b sv:=by
 obtain ⟨l,h1,⟨lm,kl,wl,fl,h2,h3,h4,h5⟩,h6⟩:=hb
 exact ⟨l,h1,⟨lm,kl,wl,fl,h2,h3.extR (rwIn_extR hE),hE _ _ _ _ _ h4,MsgsH.extR (rwIn_extR hE) h5⟩,h6⟩
end
end Go.Proofs.Ytgocfglmideobaa
set_option linter.all false
set_option maxRecDepth 40000
namespace Go.Proofs.Ytgocfglmideobaa
open Go Go.Sx
def tEnd:List By→Nat
 | []=>0
 | b :: l=>if 128≤b.toNat then tEnd l+1 else 0
theorem tEnd_le:∀ l:List By,tEnd l≤l.length
 | []=>Nat.le_refl _
 | b :: l=>by
  rw [tEnd,List.length_cons]
  have:=tEnd_le l
  split <;> omega
def tv (bs:List By) (k:Nat):Nat→BitVec 64
 | 0=>0
 | c+1=>tv bs k c <<< 7 ||| (bs.getD (k - c) 0 &&& 127#8).setWidth 64
def tk (bs:List By):Except Int (BitVec 64 × Nat) :=
 if tEnd bs = bs.length then .error 3 else
 if tEnd bs > 9 ∨ (tEnd bs = 9∧1 < (bs.getD 9 0).toNat) ∨ (0 < tEnd bs∧bs.getD (tEnd bs) 0 = 0) then .error 4 else
 .ok (tv bs (tEnd bs) (tEnd bs+1),tEnd bs+1)
theorem tk_err {bs:List By} {e:Int} (h:tk bs = .error e):e = 3 ∨ e = 4:=by
 unfold tk at h
 split at h
 ·cases h; exact .inl rfl
 ·split at h
  ·cases h; exact .inr rfl
  ·cases h
theorem tk_ok {bs:List By} {n:BitVec 64} {u:Nat} (h:tk bs = .ok (n,u)):0 < u∧u≤bs.length∧u≤10:=by
 unfold tk at h
 have:=tEnd_le bs
 split at h
 ·cases h
 ·split at h
  ·cases h
  ·cases h
   omega
theorem ge128 (b:By):decide (nat b ≥ 128) = decide (128≤b.toNat):=by
 apply decide_eq_decide.2
 unfold nat
 omega
theorem tEnd_hi {bs:List By} {i:Nat} (hi:i < bs.length) (hb:128≤(bs.getD i 0).toNat):tEnd (bs.drop i) = tEnd (bs.drop (i+1))+1:=by
 rw [List.drop_eq_getElem_cons hi,tEnd]
 have e:bs.getD i 0 = bs[i]:=by simp [hi]
 rw [e] at hb
 rw [if_pos hb]
theorem tEnd_lo {bs:List By} {i:Nat} (hi:i < bs.length) (hb:¬ 128≤(bs.getD i 0).toNat):tEnd (bs.drop i) = 0:=by
 rw [List.drop_eq_getElem_cons hi,tEnd]
 have e:bs.getD i 0 = bs[i]:=by simp [hi]
 rw [e] at hb
 rw [if_neg hb]
end Go.Proofs.Ytgocfglmideobaa
set_option linter.all false
set_option maxRecDepth 40000
namespace Go.Proofs.Ytgocfglmideobaa
open Go Go.ChangeShapes Go.WideShapes Go.ChangeAt Go.RowKit
open Go.Sx
section
variable {H:Type} {enc:TypeId × Value→H} {W:World}
theorem bulk_pos (d:DataW H):1≤bulk d:=by
 unfold bulk
 cases d with
 | lit l=>cases l <;> simp [Rows.uptoBulk]
 | _=>simp [Rows.uptoBulk]
theorem opn_byte1 {fuel:Nat} {cs:List Value} {y:DataW H × List MemPlace} (h:DataW.trod enc Try.prog W 0 (fun _=>true) true fuel 5 cs = some y):Opn W RelB (fun _=>1) cs (bulk y.1):=fun k0=>by
 obtain ⟨ps,hh,x,sv,h1,h2,h3,h4,h5,h6,_⟩:=opn_byte h 0 k0
 exact ⟨ps,hh,x,sv,h1,h2,h3,h4,h5,h6,bulk_pos _⟩
theorem sum_ones {α:Type}:∀ l:List α,(l.map fun _=>1).sum = l.length
 | []=>rfl
 | a :: l=>by rw [List.map_cons,List.sum_cons,sum_ones l,List.length_cons]; omega
theorem opn_bytes1 {fuel:Nat} {cs:List Value} {x:DataW H × List MemPlace} (h:DataW.trod enc Try.prog W 0 (fun _=>true) true fuel 24 cs = some x):Opn W RelBs List.length cs (bulk x.1):=fun k0=>by
 have hc:Try.prog.cellsOf 5 = 1:=by kernel_rfl
 obtain ⟨ps,hh,X,sv,h1,⟨k,F,e1,e2,e3⟩,h3,h4,h5,h6,h7⟩:=opn_slice (N:=bulk x.1) bulk bulk_slice (Rel:=RelB) (fun _ _ _ _ _ h=>h) (β:=fun _=>1) (s:=1) (by omega) fixB (fun _ X F hF i hi=>by rw [hF i hi,fixB]; simp [hi]) Try.underlying24 hc h (Nat.le_refl _) (fun fuel cs y hy _ _=>opn_byte1 hy) k0
 exact ⟨ps,hh,X,sv,h1,⟨k,false,e1,e2⟩,h3,h4,h5,h6,by have h8:(X.map fun _=>1).sum≤bulk x.1:=h7; rw [sum_ones] at h8; exact h8⟩
theorem open_bytesK {base:Nat} {v:Value} {d:DataW H} {pl:List MemPlace} (hv:Value.okWide Try.prog W .any base 24 v) (h:DataW.Trod enc Try.prog W 0 (fun _=>true) true 24 v d pl) (k0:Nat) :
  ∃ (ps:List Sx.Place) (hh:List Chunk) (b:List By) (sv:SV),Lies W k0 ps hh∧RelBs (sp k0 hh) b sv∧ok (k0+hh.length) sv∧(∀ ρ,At ρ k0 ps→v = den ρ sv)∧b.length≤Rows.uptoBulk d:=by
 obtain ⟨a,len,cap,rfl⟩:=okWide_slice Try.underlying24 hv
 obtain ⟨fuel,hf⟩:=h
 obtain ⟨ps,hh,b,sv,hL,hR,hok,_,_,hD,hB⟩:=opn_bytes1 hf k0
 refine ⟨ps,hh,b,sv,hL,hR,hok,fun ρ hA=>?_,hB⟩
 have h1:=hD ρ hA
 obtain ⟨k,w,rfl,_⟩:=hR
 simpa [den,Value.cells] using h1.symm
end
theorem sp_zero (h:List Chunk):sp 0 h = h:=by simp [sp]
theorem models_at {ps:List Sx.Place}:At (fun k=>ps.getD k ⟨0,0,0,true,none⟩) 0 ps:=fun i p hp=>by simp [hp]
end Go.Proofs.Ytgocfglmideobaa
set_option linter.all false
set_option maxRecDepth 40000
namespace Go.Proofs.Ytgocfglmideobaa
open Go Go.Sx
theorem res144:Try.f144.results.toList = [.tmp 2]:=rfl
abbrev OwnAt (m:Msg):Prop:=may m = 0→∀ (l:List SV) (h:List Chunk),MsgH h m l→∀ (K:Tok→SV→List Chunk→Prop),OutW h m K→callP Try.prog 98 [.agg l] h K
theorem sim_3 {A:List Chunk} {c1 c2 c c':Chunk} (hc:chSim c c'):Sim (A++[c1,c2,c]) (A++[c1,c2,c']):=by
 have:=sim_last (A:=A++[c1,c2]) hc
 simpa using this
set_option maxHeartbeats 8000000 in
theorem c144 (p:List Msg) (hO:∀ m ∈ p,OwnAt m∧may m = 0) (hpl:p.length≤64) (kp:Nat) (wp:Bool) (fp:Nat→List SV) (h:List Chunk) (hr:lookH h kp = .row wp p.length 73 fun i=>.agg (fp i)) (hp:MsgsH h p fp) (K:Tok→SV→List Chunk→Prop) (hK:OutO h p K):callP Try.prog 144 [.osl kp 0 0 73 p.length] h K:=by
 refine callP_of_code tabOk Try.func144 (by kernel_rfl) rfl (Nat.le_of_ble_eq_true rfl) (codeP_of_vc (pl:=np) tabOk follows_mixed (by kernel_rfl) ?_)
 rw [Try.ntmps144]
 simp -implicitDefEqProofs (maxSteps:=1000000) (disch:=omega) only [↓zzP,zzA,reduceIte,reduceCtorEq,Nat.reduceLT,↓reduceIte,↓gd,↓opP,↓qv,slot,putS,putO,ofV,lenS,tupS,res144]
 repeat (refine ⟨by omega,?_⟩)
 refine codeP_loop (pl:=np) tabOk follows_mixed (by kernel_rfl) (fun z st=>∃ (i:Nat) (H:List Chunk) (m:Nat) (G:Nat→List SV) (j:Nat→Value),i+z = p.length∧Ext (fun _=>False) h H∧h.length≤m∧lookH H m = .row true i 73 (fun i=>.agg (G i))∧(∀ i' (hi:i' < p.length),i' < i→MsgH (fresh h.length (putH H m .none)) p[i'] (G i'))∧st = ⟨⟨19,[(2,.v (.slice none 0 0)),(3,.osl m 0 0 73 (i)),(6,.osl kp 0 0 73 p.length),(7,.int .i64 (p.length:Nat)),(8,.int .i64 (i:Nat))],j⟩,H,[]⟩) ?_ ?_
 ·refine into_bind (J':=fun st=>∃ j,st = ⟨⟨19,[(2,.v (.slice none 0 0)),(3,.v (.slice none 0 0)),(6,.osl kp 0 0 73 p.length),(7,.int .i64 (p.length:Nat)),(8,.int .i64 (0:Nat))],j⟩,h,[]⟩) (into_keep [(2,.v (.slice none 0 0)),(3,.v (.slice none 0 0)),(6,.osl kp 0 0 73 p.length),(7,.int .i64 (p.length:Nat)),(8,.int .i64 (0:Nat))] (by simp [sameT,slot,lkL]) fun j=>⟨j,rfl⟩) ?_
  rintro _ ⟨j,rfl⟩
  refine into_nil [(2,.v (.slice none 0 0)),(3,.osl h.length 0 0 73 0),(6,.osl kp 0 0 73 p.length),(7,.int .i64 (p.length:Nat)),(8,.int .i64 (0:Nat))] 73 (fun i=>.agg ((fun _=>[]) i)) ?_ ?_ ?_
  ·intro ρ hρ
   simp [den,hρ]
  ·have:=lookH_lt hr (by simp)
   simp [okE,ok]
   omega
  exact into_refl ⟨p.length,0,_,h.length,fun _=>[],j,by omega,(Ext.refl _ _).app _,Nat.le_refl _,lookH_end _ _,fun i' _ hi=>absurd hi (Nat.not_lt_zero _),rfl⟩
 ·rintro z st ⟨i,H,m,G,j,hiz,hE,hm,hrow,hG,rfl⟩
  have hhl:=hE.1
  by_cases hi:i < p.length
  ·have g1:decide ((i:Int) < (p.length:Nat)) = true:=decide_eq_true (by omega)
   have a1:IntKind.i64.wrap ((i:Int)+1) = ((i+1:Nat):Int):=by rw [wrap64 (by omega) (by omega)]; omega
   have hr1:=hE.look hr (by simp) fun h=>h
   have hM:=hp.get hi
   obtain ⟨hOw,hmay⟩:=hO p[i] (List.getElem_mem hi)
   obtain ⟨xk,xf,xv,xs,xd,xkb,xnb,xkbs,xnbs,xkp,xnp,xkq,xnq,xkey,xof,hfi⟩:=hM.open
   rw [hfi] at hM
   simp -implicitDefEqProofs (maxSteps:=1000000) (disch:=omega) only [↓zzP,zzA,zzL,zzB,Nat.reduceSub,reduceIte,reduceCtorEq,Nat.reduceLT,↓reduceIte,Nat.reduceEqDiff,Nat.reduceLeDiff,Nat.reduceAdd,↓gd,↓opP,↓qv,↓ef,↓stS,slot,putS,putO,idxA,rdF,Ent.row,ldS,sz,wrF,binH,binS2,binS,stor,g1,hr1,hfi]
   repeat (refine ⟨by omega,?_⟩)
   have hE0:Ext (fun _=>False) h (H++[Chunk.cells true [.int .i64 xk,.int .i64 xf,.int .i64 xv,.int .i64 xs,.fam 32 1 fun i=>.int .u8 (nat (xd i)),.osl xkb 0 0 1 xnb,.osl xkbs 0 0 1 xnbs,.osl xkp 0 0 73 xnp,.osl xkq 0 0 74 xnq,.int .i64 xkey,.fam 32 1 fun i=>.int .u8 (nat (xof i))]]):=hE.app _
   have hmlt:=lookH_lt hrow (by simp)
   refine hOw hmay _ _ (hM.ext hE0) _ ?_
   intro H1 l1 hE1 hM1
   obtain ⟨yk,yf,yv,ys,yd,ykb,ynb,ykbs,ynbs,ykp,ynp,ykq,ynq,ykey,yof,hl1⟩:=(hM1.extR (extR_fresh _ _)).open
   have hrow1:lookH H1 m = .row true i 73 (fun i=>.agg (G i)):=hE1.look (by rw [lookH_at _ hmlt]; exact hrow) (by simp) fun h=>h
   have hlt1:=lookH_lt hrow1 (by simp)
   rw [hl1]
   simp -implicitDefEqProofs (maxSteps:=1000000) (disch:=omega) only [↓zzP,zzA,zzL,zzB,reduceIte,Nat.reduceMul,Nat.reduceLT,↓reduceIte,Nat.reduceEqDiff,Nat.reduceLeDiff,Nat.reduceAdd,↓gd,↓opP,↓qv,↓ef,↓bslS,↓appS,slot,putS,putO,ofV,sz,srcS,binH,binS2,binS,stor,notInt,hrow1,lookH_at,putH_at,a1]
   repeat (refine ⟨by omega,?_⟩)
   rw [hl1] at hM1
   obtain ⟨LX,hLX⟩:∃ LX:List SV,LX = [.int .i64 yk,.int .i64 yf,.int .i64 yv,.int .i64 ys,.fam 32 1 fun i=>.int .u8 (nat (yd i)),.osl ykb 0 0 1 ynb,.osl ykbs 0 0 1 ynbs,.osl ykp 0 0 73 ynp,.osl ykq 0 0 74 ynq,.int .i64 ykey,.fam 32 1 fun i=>.int .u8 (nat (yof i))]:=⟨_,rfl⟩
   refine into_sim (sim_two (c':=.row true (i+1) 73 fun j=>.agg (if j < i then G j else LX)) (chSim_row rfl fun j hj=>?_)) ?_
   ·by_cases c2:j < i
    ·rw [if_pos c2,if_pos c2]
    ·rw [if_neg c2,if_neg c2,hLX,show j - i = 0 by omega]; rfl
   rw [← hLX] at hM1
   have hE2:=hE0.trans hE1
   have hl1':=hE1.1
   rw [List.length_append,List.length_singleton] at hl1'
   refine into_keep [(2,.v (.slice none 0 0)),(3,.osl (H1.length+1) 0 0 73 (i+1)),(6,.osl kp 0 0 73 p.length),(7,.int .i64 (p.length:Nat)),(8,.int .i64 (i+1:Nat))] (by simp [sameT,slot,lkL]) fun j=>⟨z - 1,by omega,i+1,_,H1.length+1,_,j,by omega,(hE2.put _ (.inr hm)).app _,by omega,lookH_pA _ _ _ _ 1,fun i' hi' hlt=>?_,rfl⟩
   rw [putH_pA]
   by_cases c2:i' < i
   ·rw [if_pos c2]
    exact (hG i' hi' c2).extR (extR_f2 (((Ext.refl _ _).app _).trans hE1) _)
   ·obtain rfl:i' = i:=by omega
    rw [if_neg c2]
    exact hM1.extR (extR_f3 (by have:=hE0.1; omega) (by rw [List.length_append]; omega) _)
  ·have g1:decide ((i:Int) < (p.length:Nat)) = false:=decide_eq_false (by omega)
   obtain rfl:i = p.length:=by omega
   simp -implicitDefEqProofs (maxSteps:=1000000) (disch:=omega) only [↓zzP,zzA,zzL,reduceIte,reduceCtorEq,Nat.reduceLT,↓reduceIte,Nat.reduceEqDiff,↓gd,↓opP,↓qv,slot,putS,putO,binH,binS2,binS,g1]
   repeat (refine ⟨by omega,?_⟩)
   exact intoR_refl hhl (hK _ _ _ hE hm hrow (MsgsH.mk fun i' hi'=>(hG i' hi' hi').extR extR_f1))
end Go.Proofs.Ytgocfglmideobaa
set_option linter.all false
set_option maxRecDepth 40000
namespace Go.Proofs.Ytgocfglmideobaa
open Go Go.Sx
theorem res98:Try.f98.results.toList = [.cell 2 31]:=rfl
def pl98:Nat→Plan
 | 14=>(.q 0 (.q 1 (.q 2 (.q 4 (.q 5 (.e1 3 [2] (.e1 6 [2,3,5] (.q 7 (.e1 8 [3,6] (.e1 9 [3,5,6] (.q 10 .nil)))))))))))
 | _=>.nil
set_option maxHeartbeats 4000000 in
theorem c98e (k f v s key:Int) (d of:Nat→By) (kb kbs kp kq:Nat) (wb wbs wp wq:Bool) (Fb Fbs Fq:Nat→SV) (fp:Nat→List SV) (h:List Chunk) (hb:lookH h kb = .row wb 0 1 Fb) (hbs:lookH h kbs = .row wbs 0 1 Fbs) (hp:lookH h kp = .row wp 0 73 (fun i=>.agg (fp i))) (hq:lookH h kq = .row wq 0 74 Fq) (K:Tok→SV→List Chunk→Prop)
  (hK:∀ (H':List Chunk) (n1 n2:Nat) (f2:Nat→List SV),Ext (fun _=>False) h H'→lookH H' n1 = .row true 0 1 (fun i=>Fb i)→lookH H' n2 = .row true 0 73 (fun i=>.agg (f2 i))→K .mk (.agg [.int .i64 k,.int .i64 f,.int .i64 v,.int .i64 s,.fam 32 1 fun i=>.int .u8 (nat (d i)),.osl n1 0 0 1 0,.v (.slice none 0 0),.osl n2 0 0 73 0,.v (.slice none 0 0),.int .i64 key,.fam 32 1 fun i=>.int .u8 (nat (of i))]) H'):callP Try.prog 98 [.agg [.int .i64 k,.int .i64 f,.int .i64 v,.int .i64 s,.fam 32 1 fun i=>.int .u8 (nat (d i)),.osl kb 0 0 1 0,.osl kbs 0 0 1 0,.osl kp 0 0 73 0,.osl kq 0 0 74 0,.int .i64 key,.fam 32 1 fun i=>.int .u8 (nat (of i))]] h K:=by
 refine callP_of_code tabOk Try.func98 (by kernel_rfl) rfl (Nat.le_of_ble_eq_true rfl) (codeP_of_vc (pl:=pl98) tabOk follows_mixed (by kernel_rfl) ?_)
 rw [Try.ntmps98]
 have l1:=lookH_lt hb (by simp)
 have l2:=lookH_lt hbs (by simp)
 have l3:=lookH_lt hp (by simp)
 have l4:=lookH_lt hq (by simp)
 simp -implicitDefEqProofs (maxSteps:=1000000) (disch:=omega) only [↓zzP,zzA,zzL,zzB,Nat.reduceSub,reduceIte,reduceCtorEq,Nat.reduceLT,Int.reduceLE,↓reduceIte,Nat.reduceEqDiff,Nat.reduceLeDiff,Nat.reduceAdd,↓gd,↓opP,↓qv,↓ef,↓stS,↓appS,slot,putS,putO,ofV,fldA,lenS,asRow,rdF,Ent.row,ldS,sz,wrF,srcS,tupS,stor,notInt,res98,hb,lookH_at]
 repeat (refine ⟨by omega,?_⟩)
 obtain ⟨H1,hH1⟩:∃ H1,H1 = h++[.cells true [.int .i64 k,.int .i64 f,.int .i64 v,.int .i64 s,.fam 32 1 fun i=>.int .u8 (nat (d i)),.osl (h.length+2) 0 0 1 0,.osl kbs 0 0 1 0,.osl kp 0 0 73 0,.osl kq 0 0 74 0,.int .i64 key,.fam 32 1 fun i=>.int .u8 (nat (of i))],Chunk.cells true [.int .i64 0,.int .i64 0,.int .i64 0,.int .i64 0,.fam 32 1 fun _=>.int .u8 0,.v (.slice none 0 0),.v (.slice none 0 0),.v (.slice none 0 0),.v (.slice none 0 0),.int .i64 0,.fam 32 1 fun _=>.int .u8 0],.row true 0 1 fun i=>Fb i]:=⟨_,rfl⟩
 have hE1:Ext (fun _=>False) h H1:=by rw [hH1]; exact (Ext.refl _ _).app _
 have e0:lookH H1 h.length = .cells true [.int .i64 k,.int .i64 f,.int .i64 v,.int .i64 s,.fam 32 1 fun i=>.int .u8 (nat (d i)),.osl (h.length+2) 0 0 1 0,.osl kbs 0 0 1 0,.osl kp 0 0 73 0,.osl kq 0 0 74 0,.int .i64 key,.fam 32 1 fun i=>.int .u8 (nat (of i))]:=by rw [hH1]; exact lookH_app0 _ _
 have e1:lookH H1 (h.length+1) = Chunk.cells true [.int .i64 0,.int .i64 0,.int .i64 0,.int .i64 0,.fam 32 1 fun _=>.int .u8 0,.v (.slice none 0 0),.v (.slice none 0 0),.v (.slice none 0 0),.v (.slice none 0 0),.int .i64 0,.fam 32 1 fun _=>.int .u8 0]:=by rw [hH1]; exact lookH_app _ 1 _
 have e2:lookH H1 (h.length+2) = .row true 0 1 fun i=>Fb i:=by rw [hH1]; exact lookH_app _ 2 _
 rw [← hH1]
 refine codeP_loop (pl:=pl98) tabOk follows_mixed (by kernel_rfl) (fun z st=>∃ (j:Nat→Value),st = ⟨⟨53,[(1,.ptr h.length 0),(2,.ptr (h.length+1) 0),(3,.v (.slice none 0 0)),(14,.osl kbs 0 0 1 0),(15,.int .i64 0),(16,.int .i64 0)],j⟩,H1,[]⟩) ?_ ?_
 ·exact into_keep [(1,.ptr h.length 0),(2,.ptr (h.length+1) 0),(3,.v (.slice none 0 0)),(14,.osl kbs 0 0 1 0),(15,.int .i64 0),(16,.int .i64 0)] (by simp [sameT,slot,lkL]) fun j=>⟨0,j,rfl⟩
 rintro z st ⟨j,rfl⟩
 have m0:=lookH_lt e0 (by simp)
 have m1:=lookH_lt e1 (by simp)
 have m2:=lookH_lt e2 (by simp)
 simp -implicitDefEqProofs (maxSteps:=1000000) (disch:=omega) only [↓zzP,zzA,zzL,zzB,Nat.reduceSub,reduceIte,reduceCtorEq,Nat.reduceLT,↓reduceIte,Nat.reduceEqDiff,Nat.reduceLeDiff,Int.reduceLT,↓gd,↓opP,↓qv,↓ef,↓stS,slot,putS,putO,fldA,rdF,Ent.row,ldS,sz,wrF,binH,binS2,binS,stor,Value.oneCell',e0,lookH_put_same]
 repeat (refine ⟨by omega,?_⟩)
 obtain ⟨H2,hH2⟩:∃ H2,H2 = putH H1 h.length (.cells true [.int .i64 k,.int .i64 f,.int .i64 v,.int .i64 s,.fam 32 1 fun i=>.int .u8 (nat (d i)),.osl (h.length+2) 0 0 1 0,.v (.slice none 0 0),.osl kp 0 0 73 0,.osl kq 0 0 74 0,.int .i64 key,.fam 32 1 fun i=>.int .u8 (nat (of i))]):=⟨_,rfl⟩
 have hE2:Ext (fun _=>False) h H2:=by rw [hH2]; exact hE1.put _ (.inr (Nat.le_refl _))
 have f0:lookH H2 h.length = .cells true [.int .i64 k,.int .i64 f,.int .i64 v,.int .i64 s,.fam 32 1 fun i=>.int .u8 (nat (d i)),.osl (h.length+2) 0 0 1 0,.v (.slice none 0 0),.osl kp 0 0 73 0,.osl kq 0 0 74 0,.int .i64 key,.fam 32 1 fun i=>.int .u8 (nat (of i))]:=by rw [hH2]; exact lookH_put_same _ m0
 have f1:lookH H2 (h.length+1) = Chunk.cells true [.int .i64 0,.int .i64 0,.int .i64 0,.int .i64 0,.fam 32 1 fun _=>.int .u8 0,.v (.slice none 0 0),.v (.slice none 0 0),.v (.slice none 0 0),.v (.slice none 0 0),.int .i64 0,.fam 32 1 fun _=>.int .u8 0]:=by rw [hH2,lookH_put_ne _ (by omega)]; exact e1
 have f2:lookH H2 (h.length+2) = .row true 0 1 fun i=>Fb i:=by rw [hH2,lookH_put_ne _ (by omega)]; exact e2
 rw [← hH2]
 refine c144 [] (fun m hm=>by simp at hm) (by simp) kp wp fp _ (hE2.look hp (by simp) fun h=>h) (by rw [MsgsH]; trivial) _ ?_
 intro H3 n2 f3 hE3 hk3 hrow3 _
 have g0:=hE3.look f0 (by simp) fun h=>h
 have g1:=hE3.look f1 (by simp) fun h=>h
 have g2:=hE3.look f2 (by simp) fun h=>h
 have m3:=lookH_lt g0 (by simp)
 have m4:=lookH_lt g1 (by simp)
 have hE4:=hE2.trans hE3
 replace hrow3:lookH H3 n2 = .row true 0 73 fun i=>.agg (f3 i):=hrow3
 have hn2:n2 ≠ h.length:=fun e=>by rw [e,g0] at hrow3; cases hrow3
 have hn3:n2 ≠ h.length+1:=fun e=>by rw [e,g1] at hrow3; cases hrow3
 simp -implicitDefEqProofs (maxSteps:=1000000) (disch:=omega) only [↓zzP,zzA,zzL,zzB,Nat.reduceSub,reduceIte,reduceCtorEq,Nat.reduceLT,↓reduceIte,Nat.reduceEqDiff,Nat.reduceLeDiff,↓gd,↓opP,↓qv,↓ef,↓stS,slot,putS,putO,ofV,fldA,lenS,rdF,Ent.row,ldS,sz,wrF,stor,g0,lookH_put_same]
 repeat (refine ⟨by omega,?_⟩)
 obtain ⟨H5,hH5⟩:∃ H5,H5 = putH H3 h.length (.cells true [.int .i64 k,.int .i64 f,.int .i64 v,.int .i64 s,.fam 32 1 fun i=>.int .u8 (nat (d i)),.osl (h.length+2) 0 0 1 0,.v (.slice none 0 0),.osl n2 0 0 73 0,.osl kq 0 0 74 0,.int .i64 key,.fam 32 1 fun i=>.int .u8 (nat (of i))]):=⟨_,rfl⟩
 have hE5:Ext (fun _=>False) h H5:=by rw [hH5]; exact hE4.put _ (.inr (Nat.le_refl _))
 have k0:lookH H5 h.length = .cells true [.int .i64 k,.int .i64 f,.int .i64 v,.int .i64 s,.fam 32 1 fun i=>.int .u8 (nat (d i)),.osl (h.length+2) 0 0 1 0,.v (.slice none 0 0),.osl n2 0 0 73 0,.osl kq 0 0 74 0,.int .i64 key,.fam 32 1 fun i=>.int .u8 (nat (of i))]:=by rw [hH5]; exact lookH_put_same _ m3
 have k1:lookH H5 (h.length+1) = Chunk.cells true [.int .i64 0,.int .i64 0,.int .i64 0,.int .i64 0,.fam 32 1 fun _=>.int .u8 0,.v (.slice none 0 0),.v (.slice none 0 0),.v (.slice none 0 0),.v (.slice none 0 0),.int .i64 0,.fam 32 1 fun _=>.int .u8 0]:=by rw [hH5,lookH_put_ne _ (by omega)]; exact g1
 have k2:lookH H5 (h.length+2) = .row true 0 1 fun i=>Fb i:=by rw [hH5,lookH_put_ne _ (by omega)]; exact g2
 have k3:lookH H5 n2 = .row true 0 73 fun i=>.agg (f3 i):=by rw [hH5,lookH_put_ne _ hn2]; exact hrow3
 rw [← hH5]
 refine codeP_loop (pl:=pl98) tabOk follows_mixed (by kernel_rfl) (fun z st=>∃ (j:Nat→Value),st = ⟨⟨53,[(1,.ptr h.length 0),(2,.ptr (h.length+1) 0),(6,.v (.slice none 0 0)),(33,.osl kq 0 0 74 0),(34,.int .i64 0),(35,.int .i64 0)],j⟩,H5,[]⟩) ?_ ?_
 ·exact into_keep [(1,.ptr h.length 0),(2,.ptr (h.length+1) 0),(6,.v (.slice none 0 0)),(33,.osl kq 0 0 74 0),(34,.int .i64 0),(35,.int .i64 0)] (by simp [sameT,slot,lkL]) fun j=>⟨0,j,rfl⟩
 rintro z st ⟨j,rfl⟩
 have m5:=lookH_lt k0 (by simp)
 have m6:=lookH_lt k1 (by simp)
 have n4:¬ h.length+1 = h.length:=by omega
 have k4:lookH (putH H5 h.length (.cells true [.int .i64 k,.int .i64 f,.int .i64 v,.int .i64 s,.fam 32 1 fun i=>.int .u8 (nat (d i)),.osl (h.length+2) 0 0 1 0,.v (.slice none 0 0),.osl n2 0 0 73 0,.v (.slice none 0 0),.int .i64 key,.fam 32 1 fun i=>.int .u8 (nat (of i))])) (h.length+1) = Chunk.cells true [.int .i64 0,.int .i64 0,.int .i64 0,.int .i64 0,.fam 32 1 fun _=>.int .u8 0,.v (.slice none 0 0),.v (.slice none 0 0),.v (.slice none 0 0),.v (.slice none 0 0),.int .i64 0,.fam 32 1 fun _=>.int .u8 0]:=by rw [lookH_put_ne _ (by omega)]; exact k1
 have m7:h.length+1 < (putH H5 h.length (.cells true [.int .i64 k,.int .i64 f,.int .i64 v,.int .i64 s,.fam 32 1 fun i=>.int .u8 (nat (d i)),.osl (h.length+2) 0 0 1 0,.v (.slice none 0 0),.osl n2 0 0 73 0,.v (.slice none 0 0),.int .i64 key,.fam 32 1 fun i=>.int .u8 (nat (of i))])).length:=by rw [putH_len]; exact m6
 simp -implicitDefEqProofs (maxSteps:=1000000) (disch:=omega) only [↓zzP,zzA,zzL,zzB,Nat.reduceSub,reduceIte,reduceCtorEq,Nat.reduceLT,↓reduceIte,Nat.reduceEqDiff,Nat.reduceLeDiff,Int.reduceLT,Nat.reduceAdd,↓gd,↓opP,↓qv,↓ef,↓stS,slot,putS,putO,fldA,rdF,Ent.row,ldS,sz,wrF,binH,binS2,binS,stor,Value.oneCell',k0,k4,lookH_put_same]
 repeat (refine ⟨by omega,?_⟩)
 refine intoR_refl ?_ (hK _ _ _ f3 ((hE5.put _ (.inr (Nat.le_refl _))).put _ (.inr (Nat.le_succ _))) ?_ ?_)
 ·rw [putH_len,putH_len]
  exact hE5.1
 ·rw [lookH_put_ne _ (by omega),lookH_put_ne _ (by omega)]
  exact k2
 ·rw [lookH_put_ne _ hn3,lookH_put_ne _ hn2]
  exact k3
end Go.Proofs.Ytgocfglmideobaa
set_option linter.all false
set_option maxRecDepth 40000
namespace Go.Proofs.Ytgocfglmideobaa
open Go Go.Sx
theorem res155:Try.f155.results.toList = [.tmp 2,.tmp 3,.tmp 4]:=rfl
theorem res161:Try.f161.results.toList = [.tmp 2,.tmp 3,.tmp 4]:=rfl
set_option maxHeartbeats 8000000 in
theorem c155 (bs:List By) (h:List Chunk) (k d e:Nat) (w:Bool) (N:Nat) (F:Nat→SV) (hr:lookH h k = .row w N 1 F) (hN:e+bs.length≤N) (hF:∀ i,i < bs.length→F (e+i) = .int .u8 (nat (bs.getD i 0))) (hl:bs.length≤35184372088832) (K:Tok→SV→List Chunk→Prop) (hE:∀ er,tk bs = .error er→K .mk (.tup [.int .u64 0,.int .i64 0,.int .i64 er]) h) (hO:∀ n u,tk bs = .ok (n,u)→K .mk (.tup [.int .u64 (nat n),.int .i64 (u:Nat),.int .i64 0]) h):callP Try.prog 155 [.osl k d e 1 bs.length] h K:=by
 refine callP_of_code tabOk Try.func155 (by kernel_rfl) rfl (Nat.le_of_ble_eq_true rfl) (codeP_of_vc (pl:=np) tabOk follows_mixed (by kernel_rfl) ?_)
 rw [Try.ntmps155]
 simp -implicitDefEqProofs (maxSteps:=1000000) (disch:=omega) only [↓zzP,zzA,reduceIte,reduceCtorEq,Nat.reduceLT,↓reduceIte,↓gd,↓opP,↓qv,slot,putS,putO,ofV,tupS,res155]
 repeat (refine ⟨by omega,?_⟩)
 refine codeP_loop (pl:=np) tabOk follows_mixed (by kernel_rfl) (fun z st=>∃ (i:Nat) (j:Nat→Value),i+z = bs.length∧tEnd bs = i+tEnd (bs.drop i)∧st = ⟨⟨68,[(0,.osl k d e 1 bs.length),(2,.int .u64 0),(3,.int .i64 0),(4,.int .i64 0),(5,.int .i64 (i:Nat))],j⟩,h,[]⟩) ?_ ?_
 ·exact into_keep [(0,.osl k d e 1 bs.length),(2,.int .u64 0),(3,.int .i64 0),(4,.int .i64 0),(5,.int .i64 (0:Nat))] (by simp [sameT,slot,lkL]) fun j=>⟨bs.length,0,j,by omega,by simp,rfl⟩
 rintro z st ⟨i,j,hiz,hi,rfl⟩
 have a1:IntKind.i64.wrap ((i:Int)+1) = ((i+1:Nat):Int):=by rw [wrap64 (by omega) (by omega)]; omega
 by_cases c1:i < bs.length
 ·have g1:decide ((i:Int) < (bs.length:Nat)) = true:=decide_eq_true (by omega)
  have hb:=hF i c1
  by_cases c2:128≤(bs.getD i 0).toNat
  ·have g2:decide (nat (bs.getD i 0) ≥ 128) = true:=by rw [ge128]; exact decide_eq_true c2
   rw [tEnd_hi c1 c2] at hi
   simp -implicitDefEqProofs (maxSteps:=1000000) (disch:=omega) only [↓zzP,zzA,zzL,zzB,reduceIte,reduceCtorEq,Nat.reduceLT,↓reduceIte,Nat.reduceEqDiff,Array.reduceGetElem?,↓gd,↓opP,↓qv,slot,putS,putO,ofV,idxA,lenS,rdF,Ent.row,ldS,binH,binS2,binS,g1,hr,hb,g2,a1]
   repeat (refine ⟨by omega,?_⟩)
   exact into_keep [(0,.osl k d e 1 bs.length),(2,.int .u64 0),(3,.int .i64 0),(4,.int .i64 0),(5,.int .i64 (i+1:Nat))] (by simp [sameT,slot,lkL]) fun j=>⟨z - 1,by omega,i+1,j,by omega,by omega,rfl⟩
  ·have g2:decide (nat (bs.getD i 0) ≥ 128) = false:=by rw [ge128]; exact decide_eq_false c2
   rw [tEnd_lo c1 c2,Nat.add_zero] at hi
   subst hi
   have g4:((tEnd bs:Int) == (bs.length:Int)) = false:=by rw [beq_eq_false_iff_ne]; omega
   have e9:(bs.getD (tEnd bs) 0 = 0) ↔ nat (bs.getD (tEnd bs) 0) = 0:=⟨fun h=>by rw [h]; rfl,fun h=>nat_inj.1 (by rw [h]; rfl)⟩
   by_cases bad:tEnd bs > 9 ∨ (tEnd bs = 9∧1 < (bs.getD 9 0).toNat) ∨ (0 < tEnd bs∧bs.getD (tEnd bs) 0 = 0)
   ·have hfin:=hE 4 (by unfold tk; rw [if_neg (by omega),if_pos bad])
    obtain ⟨A,hA⟩:∃ A,decide ((tEnd bs:Int) > 9) = A:=⟨_,rfl⟩
    obtain ⟨B,hB⟩:∃ B,((tEnd bs:Int) == 9) = B:=⟨_,rfl⟩
    obtain ⟨C,hC⟩:∃ C,decide (nat (bs.getD (tEnd bs) 0) > 1) = C:=⟨_,rfl⟩
    obtain ⟨D,hD⟩:∃ D,decide ((tEnd bs:Int) > 0) = D:=⟨_,rfl⟩
    obtain ⟨E,hE'⟩:∃ E,(nat (bs.getD (tEnd bs) 0) == 0) = E:=⟨_,rfl⟩
    have hABC:A = true ∨ (B = true∧C = true) ∨ (D = true∧E = true):=by
     rcases bad with b | ⟨b1,b2⟩ | ⟨b1,b2⟩
     ·exact .inl (by rw [← hA]; exact decide_eq_true (by omega))
     ·refine .inr (.inl ⟨by rw [← hB,b1]; rfl,?_⟩)
      rw [← hC,b1]
      exact decide_eq_true (by unfold nat; omega)
     ·refine .inr (.inr ⟨by rw [← hD]; exact decide_eq_true (by omega),?_⟩)
      rw [← hE']
      exact beq_iff_eq.2 (e9.1 b2)
    have hx:=ge128 0
    cases A <;> cases B <;> cases C <;> cases D <;> cases E <;> simp only [Bool.false_eq_true,false_and,and_false,or_false,or_self,reduceCtorEq] at hABC
    all_goals
     simp -implicitDefEqProofs (maxSteps:=1000000) (disch:=omega) only [↓zzP,zzA,zzL,zzB,reduceIte,reduceCtorEq,Nat.reduceLT,↓reduceIte,Nat.reduceEqDiff,Array.reduceGetElem?,↓gd,↓opP,↓qv,slot,putS,putO,ofV,idxA,lenS,rdF,Ent.row,ldS,binH,binS2,binS,g1,hr,hb,g2,g4,hA,hB,hC,hD,hE']
     repeat (refine ⟨by omega,?_⟩)
     exact intoR_refl (Nat.le_refl _) hfin
   ·have hfin:=hO _ _ (by unfold tk; rw [if_neg (by omega),if_neg bad])
    have hA:decide ((tEnd bs:Int) > 9) = false:=decide_eq_false (by omega)
    have hbC:tEnd bs = 9→decide (nat (bs.getD (tEnd bs) 0) > 1) = false:=fun h=>by
     rw [h]
     exact decide_eq_false (by unfold nat; omega)
    have hbE:0 < tEnd bs→(nat (bs.getD (tEnd bs) 0) == 0) = false:=fun h=>by
     rw [beq_eq_false_iff_ne]
     exact fun h2=>bad (.inr (.inr ⟨h,e9.2 h2⟩))
    obtain ⟨B,hB⟩:∃ B,((tEnd bs:Int) == 9) = B:=⟨_,rfl⟩
    obtain ⟨C,hC⟩:∃ C,decide (nat (bs.getD (tEnd bs) 0) > 1) = C:=⟨_,rfl⟩
    obtain ⟨D,hD⟩:∃ D,decide ((tEnd bs:Int) > 0) = D:=⟨_,rfl⟩
    obtain ⟨E,hE'⟩:∃ E,(nat (bs.getD (tEnd bs) 0) == 0) = E:=⟨_,rfl⟩
    have h1:B = true→C = false:=fun h=>by
     rw [h] at hB
     rw [← hC]
     exact hbC (by have:=beq_iff_eq.1 hB; omega)
    have h2:D = true→E = false:=fun h=>by
     rw [h] at hD
     rw [← hE']
     exact hbE (by have:=of_decide_eq_true hD; omega)
    have h3:B = true→D = true:=fun h=>by
     rw [h] at hB
     rw [← hD]
     exact decide_eq_true (by have:=beq_iff_eq.1 hB; omega)
    clear bad hbC hbE
    cases B <;> cases D <;> simp only [Bool.false_eq_true,false_implies,true_implies,forall_const,reduceCtorEq] at h1 h2 h3
    all_goals
     try subst h1
     try subst h2
     simp -implicitDefEqProofs (maxSteps:=1000000) (disch:=omega) only [↓zzP,zzA,zzL,zzB,reduceIte,reduceCtorEq,Nat.reduceLT,↓reduceIte,Nat.reduceEqDiff,Array.reduceGetElem?,↓gd,↓opP,↓qv,slot,putS,putO,ofV,idxA,lenS,rdF,Ent.row,ldS,binH,binS2,binS,g1,hr,hb,g2,g4,hA,hB,hC,hD,hE']
     repeat (refine ⟨by omega,?_⟩)
     refine codeP_loop (pl:=np) tabOk follows_mixed (by kernel_rfl) (fun z st=>∃ (q:Int) (c:Nat) (j:Nat→Value),q+c = tEnd bs∧z+c = tEnd bs+1∧st = ⟨⟨68,[(0,.osl k d e 1 bs.length),(5,.int .i64 (tEnd bs:Nat)),(6,.int .u64 (nat (tv bs (tEnd bs) c))),(7,.int .i64 q)],j⟩,h,[]⟩) ?_ ?_
     ·exact into_keep [(0,.osl k d e 1 bs.length),(5,.int .i64 (tEnd bs:Nat)),(6,.int .u64 (0)),(7,.int .i64 (tEnd bs:Nat))] (by simp [sameT,slot,lkL]) fun j=>⟨tEnd bs+1,tEnd bs,0,j,by omega,by omega,rfl⟩
     rintro z st ⟨q,c,j,hq,hz,rfl⟩
     by_cases c3:0≤q
     ·obtain ⟨i,rfl⟩:=Int.eq_ofNat_of_zero_le c3
      have hb2:=hF i (by omega)
      have p1:decide (((i:Nat):Int) ≥ 0) = true:=decide_eq_true (by omega)
      have p2:bits .and .u8 (nat (bs.getD i 0)) 127 = nat (bs.getD i 0 &&& 127#8):=and8 _ 127#8
      have p3:IntKind.i64.wrap ((i:Int) - 1) = (i:Int) - 1:=wrap64 (by omega) (by omega)
      have p4:tv bs (tEnd bs) (c+1) = tv bs (tEnd bs) c <<< 7 ||| (bs.getD i 0 &&& 127#8).setWidth 64:=by rw [tv,show tEnd bs - c = i by omega]
      simp -implicitDefEqProofs (maxSteps:=1000000) (disch:=omega) only [↓zzP,zzA,zzB,reduceIte,reduceCtorEq,Nat.reduceLT,Int.reduceLE,↓reduceIte,Nat.reduceEqDiff,Int.reduceToNat,↓gd,↓opP,↓qv,slot,putS,putO,ofV,convS,idxA,rdF,Ent.row,ldS,binH,binS2,binS,p1,p2,p3,hr,hb2]
      repeat (refine ⟨by omega,?_⟩)
      rw [← p4]
      exact into_keep [(0,.osl k d e 1 bs.length),(5,.int .i64 (tEnd bs:Nat)),(6,.int .u64 (nat (tv bs (tEnd bs) (c+1)))),(7,.int .i64 ((i:Int) - 1))] (by simp [sameT,slot,lkL]) fun j=>⟨z - 1,by omega,(i:Int) - 1,c+1,j,by omega,by omega,rfl⟩
     ·have p1:decide (q ≥ 0) = false:=decide_eq_false (by omega)
      obtain rfl:c = tEnd bs+1:=by omega
      have p3:IntKind.i64.wrap ((tEnd bs:Int)+1) = ((tEnd bs+1:Nat):Int):=by rw [wrap64 (by omega) (by omega)]; omega
      simp -implicitDefEqProofs (maxSteps:=1000000) (disch:=omega) only [↓zzP,zzA,zzL,reduceIte,reduceCtorEq,Nat.reduceLT,↓reduceIte,Nat.reduceEqDiff,↓gd,↓opP,↓qv,slot,putS,putO,ofV,binH,binS2,binS,p1,p3]
      repeat (refine ⟨by omega,?_⟩)
      exact intoR_refl (Nat.le_refl _) hfin
 ·have g1:decide ((i:Int) < (bs.length:Nat)) = false:=decide_eq_false (by omega)
  obtain rfl:i = bs.length:=by omega
  rw [List.drop_length,tEnd,Nat.add_zero] at hi
  have g3:((bs.length:Int) == (bs.length:Int)) = true:=beq_self_eq_true _
  simp -implicitDefEqProofs (maxSteps:=1000000) (disch:=omega) only [↓zzP,zzA,zzL,reduceIte,reduceCtorEq,Nat.reduceLT,↓reduceIte,Nat.reduceEqDiff,Array.reduceGetElem?,↓gd,↓opP,↓qv,slot,putS,putO,ofV,lenS,binH,binS2,binS,g1,g3]
  repeat (refine ⟨by omega,?_⟩)
  exact intoR_refl (Nat.le_refl _) (hE 3 (by unfold tk; rw [if_pos hi]))
set_option maxHeartbeats 8000000 in
theorem c161 (bs:List By) (h:List Chunk) (k d e:Nat) (w:Bool) (N:Nat) (F:Nat→SV) (hr:lookH h k = .row w N 1 F) (hN:e+bs.length≤N) (hF:∀ i,i < bs.length→F (e+i) = .int .u8 (nat (bs.getD i 0))) (hl:bs.length≤35184372088832) (K:Tok→SV→List Chunk→Prop) (hE:∀ er,tk bs = .error er→K .mk (.tup [.int .u64 0,.int .i64 0,.int .i64 er]) h) (hO:∀ n u,tk bs = .ok (n,u)→K .mk (.tup [.int .u64 (nat n),.int .i64 (u:Nat),.int .i64 0]) h):callP Try.prog 161 [.osl k d e 1 bs.length] h K:=by
 refine callP_of_code tabOk Try.func161 (by kernel_rfl) rfl (Nat.le_of_ble_eq_true rfl) (codeP_of_vc (pl:=np) tabOk follows_mixed (by kernel_rfl) ?_)
 rw [Try.ntmps161]
 simp -implicitDefEqProofs (maxSteps:=1000000) (disch:=omega) only [↓zzP,zzA,reduceIte,reduceCtorEq,Nat.reduceLT,↓reduceIte,↓gd,↓opP,↓qv,slot,putS,putO,ofV,tupS,res161]
 repeat (refine ⟨by omega,?_⟩)
 refine codeP_loop (pl:=np) tabOk follows_mixed (by kernel_rfl) (fun z st=>∃ (i:Nat) (j:Nat→Value),i+z = bs.length∧tEnd bs = i+tEnd (bs.drop i)∧st = ⟨⟨66,[(0,.osl k d e 1 bs.length),(2,.int .u64 0),(3,.int .i64 0),(4,.int .i64 0),(5,.int .i64 (i:Nat))],j⟩,h,[]⟩) ?_ ?_
 ·exact into_keep [(0,.osl k d e 1 bs.length),(2,.int .u64 0),(3,.int .i64 0),(4,.int .i64 0),(5,.int .i64 (0:Nat))] (by simp [sameT,slot,lkL]) fun j=>⟨bs.length,0,j,by omega,by simp,rfl⟩
 rintro z st ⟨i,j,hiz,hi,rfl⟩
 have a1:IntKind.i64.wrap ((i:Int)+1) = ((i+1:Nat):Int):=by rw [wrap64 (by omega) (by omega)]; omega
 by_cases c1:i < bs.length
 ·have g1:decide ((i:Int) < (bs.length:Nat)) = true:=decide_eq_true (by omega)
  have hb:=hF i c1
  by_cases c2:128≤(bs.getD i 0).toNat
  ·have g2:decide (nat (bs.getD i 0) ≥ 128) = true:=by rw [ge128]; exact decide_eq_true c2
   rw [tEnd_hi c1 c2] at hi
   simp -implicitDefEqProofs (maxSteps:=1000000) (disch:=omega) only [↓zzP,zzA,zzL,zzB,reduceIte,reduceCtorEq,Nat.reduceLT,↓reduceIte,Nat.reduceEqDiff,Array.reduceGetElem?,↓gd,↓opP,↓qv,slot,putS,putO,ofV,idxA,lenS,rdF,Ent.row,ldS,binH,binS2,binS,g1,hr,hb,g2,a1]
   repeat (refine ⟨by omega,?_⟩)
   exact into_keep [(0,.osl k d e 1 bs.length),(2,.int .u64 0),(3,.int .i64 0),(4,.int .i64 0),(5,.int .i64 (i+1:Nat))] (by simp [sameT,slot,lkL]) fun j=>⟨z - 1,by omega,i+1,j,by omega,by omega,rfl⟩
  ·have g2:decide (nat (bs.getD i 0) ≥ 128) = false:=by rw [ge128]; exact decide_eq_false c2
   rw [tEnd_lo c1 c2,Nat.add_zero] at hi
   subst hi
   have g4:((tEnd bs:Int) == (bs.length:Int)) = false:=by rw [beq_eq_false_iff_ne]; omega
   have e9:(bs.getD (tEnd bs) 0 = 0) ↔ nat (bs.getD (tEnd bs) 0) = 0:=⟨fun h=>by rw [h]; rfl,fun h=>nat_inj.1 (by rw [h]; rfl)⟩
   by_cases bad:tEnd bs > 9 ∨ (tEnd bs = 9∧1 < (bs.getD 9 0).toNat) ∨ (0 < tEnd bs∧bs.getD (tEnd bs) 0 = 0)
   ·have hfin:=hE 4 (by unfold tk; rw [if_neg (by omega),if_pos bad])
    obtain ⟨A,hA⟩:∃ A,decide ((tEnd bs:Int) > 9) = A:=⟨_,rfl⟩
    obtain ⟨B,hB⟩:∃ B,((tEnd bs:Int) == 9) = B:=⟨_,rfl⟩
    obtain ⟨C,hC⟩:∃ C,decide (nat (bs.getD (tEnd bs) 0) > 1) = C:=⟨_,rfl⟩
    obtain ⟨D,hD⟩:∃ D,decide ((tEnd bs:Int) > 0) = D:=⟨_,rfl⟩
    obtain ⟨E,hE'⟩:∃ E,(nat (bs.getD (tEnd bs) 0) == 0) = E:=⟨_,rfl⟩
    have hABC:A = true ∨ (B = true∧C = true) ∨ (D = true∧E = true):=by
     rcases bad with b | ⟨b1,b2⟩ | ⟨b1,b2⟩
     ·exact .inl (by rw [← hA]; exact decide_eq_true (by omega))
     ·refine .inr (.inl ⟨by rw [← hB,b1]; rfl,?_⟩)
      rw [← hC,b1]
      exact decide_eq_true (by unfold nat; omega)
     ·refine .inr (.inr ⟨by rw [← hD]; exact decide_eq_true (by omega),?_⟩)
      rw [← hE']
      exact beq_iff_eq.2 (e9.1 b2)
    have hx:=ge128 0
    cases A <;> cases B <;> cases C <;> cases D <;> cases E <;> simp only [Bool.false_eq_true,false_and,and_false,or_false,or_self,reduceCtorEq] at hABC
    all_goals
     simp -implicitDefEqProofs (maxSteps:=1000000) (disch:=omega) only [↓zzP,zzA,zzL,zzB,reduceIte,reduceCtorEq,Nat.reduceLT,↓reduceIte,Nat.reduceEqDiff,Array.reduceGetElem?,↓gd,↓opP,↓qv,slot,putS,putO,ofV,idxA,lenS,rdF,Ent.row,ldS,binH,binS2,binS,g1,hr,hb,g2,g4,hA,hB,hC,hD,hE']
     repeat (refine ⟨by omega,?_⟩)
     exact intoR_refl (Nat.le_refl _) hfin
   ·have hfin:=hO _ _ (by unfold tk; rw [if_neg (by omega),if_neg bad])
    have hA:decide ((tEnd bs:Int) > 9) = false:=decide_eq_false (by omega)
    have hbC:tEnd bs = 9→decide (nat (bs.getD (tEnd bs) 0) > 1) = false:=fun h=>by
     rw [h]
     exact decide_eq_false (by unfold nat; omega)
    have hbE:0 < tEnd bs→(nat (bs.getD (tEnd bs) 0) == 0) = false:=fun h=>by
     rw [beq_eq_false_iff_ne]
     exact fun h2=>bad (.inr (.inr ⟨h,e9.2 h2⟩))
    obtain ⟨B,hB⟩:∃ B,((tEnd bs:Int) == 9) = B:=⟨_,rfl⟩
    obtain ⟨C,hC⟩:∃ C,decide (nat (bs.getD (tEnd bs) 0) > 1) = C:=⟨_,rfl⟩
    obtain ⟨D,hD⟩:∃ D,decide ((tEnd bs:Int) > 0) = D:=⟨_,rfl⟩
    obtain ⟨E,hE'⟩:∃ E,(nat (bs.getD (tEnd bs) 0) == 0) = E:=⟨_,rfl⟩
    have h1:B = true→C = false:=fun h=>by
     rw [h] at hB
     rw [← hC]
     exact hbC (by have:=beq_iff_eq.1 hB; omega)
    have h2:D = true→E = false:=fun h=>by
     rw [h] at hD
     rw [← hE']
     exact hbE (by have:=of_decide_eq_true hD; omega)
    have h3:B = true→D = true:=fun h=>by
     rw [h] at hB
     rw [← hD]
     exact decide_eq_true (by have:=beq_iff_eq.1 hB; omega)
    clear bad hbC hbE
    cases B <;> cases D <;> simp only [Bool.false_eq_true,false_implies,true_implies,forall_const,reduceCtorEq] at h1 h2 h3
    all_goals
     try subst h1
     try subst h2
     simp -implicitDefEqProofs (maxSteps:=1000000) (disch:=omega) only [↓zzP,zzA,zzL,zzB,reduceIte,reduceCtorEq,Nat.reduceLT,↓reduceIte,Nat.reduceEqDiff,Array.reduceGetElem?,↓gd,↓opP,↓qv,slot,putS,putO,ofV,idxA,lenS,rdF,Ent.row,ldS,binH,binS2,binS,g1,hr,hb,g2,g4,hA,hB,hC,hD,hE']
     repeat (refine ⟨by omega,?_⟩)
     refine codeP_loop (pl:=np) tabOk follows_mixed (by kernel_rfl) (fun z st=>∃ (q:Int) (c:Nat) (j:Nat→Value),q+c = tEnd bs∧z+c = tEnd bs+1∧st = ⟨⟨66,[(0,.osl k d e 1 bs.length),(5,.int .i64 (tEnd bs:Nat)),(6,.int .u64 (nat (tv bs (tEnd bs) c))),(7,.int .i64 q)],j⟩,h,[]⟩) ?_ ?_
     ·exact into_keep [(0,.osl k d e 1 bs.length),(5,.int .i64 (tEnd bs:Nat)),(6,.int .u64 (0)),(7,.int .i64 (tEnd bs:Nat))] (by simp [sameT,slot,lkL]) fun j=>⟨tEnd bs+1,tEnd bs,0,j,by omega,by omega,rfl⟩
     rintro z st ⟨q,c,j,hq,hz,rfl⟩
     by_cases c3:0≤q
     ·obtain ⟨i,rfl⟩:=Int.eq_ofNat_of_zero_le c3
      have hb2:=hF i (by omega)
      have p1:decide (((i:Nat):Int) ≥ 0) = true:=decide_eq_true (by omega)
      have p2:bits .and .u8 (nat (bs.getD i 0)) 127 = nat (bs.getD i 0 &&& 127#8):=and8 _ 127#8
      have p3:IntKind.i64.wrap ((i:Int) - 1) = (i:Int) - 1:=wrap64 (by omega) (by omega)
      have p4:tv bs (tEnd bs) (c+1) = tv bs (tEnd bs) c <<< 7 ||| (bs.getD i 0 &&& 127#8).setWidth 64:=by rw [tv,show tEnd bs - c = i by omega]
      simp -implicitDefEqProofs (maxSteps:=1000000) (disch:=omega) only [↓zzP,zzA,zzB,reduceIte,reduceCtorEq,Nat.reduceLT,Int.reduceLE,↓reduceIte,Nat.reduceEqDiff,Int.reduceToNat,↓gd,↓opP,↓qv,slot,putS,putO,ofV,convS,idxA,rdF,Ent.row,ldS,binH,binS2,binS,p1,p2,p3,hr,hb2]
      repeat (refine ⟨by omega,?_⟩)
      rw [← p4]
      exact into_keep [(0,.osl k d e 1 bs.length),(5,.int .i64 (tEnd bs:Nat)),(6,.int .u64 (nat (tv bs (tEnd bs) (c+1)))),(7,.int .i64 ((i:Int) - 1))] (by simp [sameT,slot,lkL]) fun j=>⟨z - 1,by omega,(i:Int) - 1,c+1,j,by omega,by omega,rfl⟩
     ·have p1:decide (q ≥ 0) = false:=decide_eq_false (by omega)
      obtain rfl:c = tEnd bs+1:=by omega
      have p3:IntKind.i64.wrap ((tEnd bs:Int)+1) = ((tEnd bs+1:Nat):Int):=by rw [wrap64 (by omega) (by omega)]; omega
      simp -implicitDefEqProofs (maxSteps:=1000000) (disch:=omega) only [↓zzP,zzA,zzL,reduceIte,reduceCtorEq,Nat.reduceLT,↓reduceIte,Nat.reduceEqDiff,↓gd,↓opP,↓qv,slot,putS,putO,ofV,binH,binS2,binS,p1,p3]
      repeat (refine ⟨by omega,?_⟩)
      exact intoR_refl (Nat.le_refl _) hfin
 ·have g1:decide ((i:Int) < (bs.length:Nat)) = false:=decide_eq_false (by omega)
  obtain rfl:i = bs.length:=by omega
  rw [List.drop_length,tEnd,Nat.add_zero] at hi
  have g3:((bs.length:Int) == (bs.length:Int)) = true:=beq_self_eq_true _
  simp -implicitDefEqProofs (maxSteps:=1000000) (disch:=omega) only [↓zzP,zzA,zzL,reduceIte,reduceCtorEq,Nat.reduceLT,↓reduceIte,Nat.reduceEqDiff,Array.reduceGetElem?,↓gd,↓opP,↓qv,slot,putS,putO,ofV,lenS,binH,binS2,binS,g1,g3]
  repeat (refine ⟨by omega,?_⟩)
  exact intoR_refl (Nat.le_refl _) (hE 3 (by unfold tk; rw [if_pos hi]))
end Go.Proofs.Ytgocfglmideobaa
set_option linter.all false
set_option maxRecDepth 40000
namespace Go.Proofs.Ytgocfglmideobaa
open Go Go.Sx
def unz (u:BitVec 64):Int:=if u.toNat % 2 = 1 then -((u.toNat / 2:Nat):Int) - 1 else ((u.toNat / 2:Nat):Int)
theorem and1 (u:BitVec 64):bits .and .u64 (nat u) 1 = ((u.toNat % 2:Nat):Int):=by
 have e:bits .and .u64 (nat u) 1 = nat (u &&& 1#64):=and64 u 1#64
 rw [e]
 unfold nat
 rw [BitVec.toNat_and,show (1#64).toNat = 1 from rfl,Nat.and_one_is_mod]
theorem shr1 (u:BitVec 64):IntKind.i64.wrap (nat (u >>> 1)) = ((u.toNat / 2:Nat):Int):=by
 have h:=u.isLt
 have e:nat (u >>> 1) = ((u.toNat / 2:Nat):Int):=by
  unfold nat
  rw [BitVec.toNat_ushiftRight,Nat.shiftRight_eq_div_pow]
 rw [e,wrap64 (by omega) (by omega)]
theorem unz_ref (u:BitVec 64) (h:u.toNat % 2 = 1):IntKind.i64.wrap (IntKind.i64.wrap ((0:Int) - IntKind.i64.wrap (nat (u >>> 1))) - 1) = unz u:=by
 have hl:=u.isLt
 rw [shr1,unz,if_pos h]
 have e:IntKind.i64.wrap (0 - ((u.toNat / 2:Nat):Int)) = 0 - ((u.toNat / 2:Nat):Int):=wrap64 (by omega) (by omega)
 have e2:IntKind.i64.wrap (0 - ((u.toNat / 2:Nat):Int) - 1) = 0 - ((u.toNat / 2:Nat):Int) - 1:=wrap64 (by omega) (by omega)
 calc _ = IntKind.i64.wrap (IntKind.i64.wrap (0 - ((u.toNat / 2:Nat):Int)) - 1):=rfl
  _ = 0 - ((u.toNat / 2:Nat):Int) - 1:=by rw [e,e2]
  _ = _:=by omega
theorem unz_ref0 (u:BitVec 64) (h:¬ u.toNat % 2 = 1):IntKind.i64.wrap (nat (u >>> 1)) = unz u:=by
 rw [shr1,unz,if_neg h]
theorem unz_wire (u:BitVec 64):bits .xor .i64 (IntKind.i64.wrap (nat (u >>> 1))) (IntKind.i64.wrap (0 - IntKind.i64.wrap (bits .and .u64 (nat u) 1))) = unz u:=by
 have hl:=u.isLt
 rw [shr1,and1]
 have e0:((u.toNat / 2:Nat):Int) = nat (u >>> 1):=by
  unfold nat
  rw [BitVec.toNat_ushiftRight,Nat.shiftRight_eq_div_pow]
 have hx1:∀ v w:BitVec 64,bits .xor .i64 (nat v) (nat w) = IntKind.i64.wrap (nat (v ^^^ w)):=fun v w=>by
  simp only [bits,ofInt_nat,BitVec.setWidth_eq]
  rfl
 by_cases h:u.toNat % 2 = 1
 ·rw [h,unz,if_pos h,show IntKind.i64.wrap (0 - IntKind.i64.wrap ((1:Nat):Int)) = -1 from rfl,e0]
  have hx2:bits .xor .i64 (nat (u >>> 1)) (-1) = bits .xor .i64 (nat (u >>> 1)) (nat (BitVec.allOnes 64)):=rfl
  rw [hx2,hx1,BitVec.xor_allOnes]
  have hx:nat (~~~(u >>> 1)) = 18446744073709551615 - nat (u >>> 1):=by
   unfold nat
   rw [BitVec.toNat_not]
   have:=(u >>> 1).isLt
   omega
  rw [hx]
  simp only [IntKind.wrap,show IntKind.i64.bits = 64 from rfl,show IntKind.i64.signed = true from rfl,Bool.true_and,decide_eq_true_eq]
  split <;> omega
 ·have h0:u.toNat % 2 = 0:=by omega
  rw [h0,unz,if_neg h,show IntKind.i64.wrap (0 - IntKind.i64.wrap ((0:Nat):Int)) = 0 from rfl,e0]
  have hx2:bits .xor .i64 (nat (u >>> 1)) 0 = bits .xor .i64 (nat (u >>> 1)) (nat 0#64):=rfl
  rw [hx2,hx1,BitVec.xor_zero]
  exact wrap64 (by omega) (by omega)
end Go.Proofs.Ytgocfglmideobaa
set_option linter.all false
set_option maxRecDepth 40000
namespace Go.Proofs.Ytgocfglmideobaa
open Go Go.Sx
theorem res154:Try.f154.results.toList = [.tmp 2,.tmp 3,.tmp 4]:=rfl
theorem res160:Try.f160.results.toList = [.tmp 2,.tmp 3,.tmp 4]:=rfl
theorem res156:Try.f156.results.toList = [.tmp 4,.tmp 5,.tmp 6]:=rfl
theorem res162:Try.f162.results.toList = [.tmp 4,.tmp 5,.tmp 6]:=rfl
set_option maxHeartbeats 4000000 in
theorem c154 (bs:List By) (h:List Chunk) (k d e:Nat) (w:Bool) (N:Nat) (F:Nat→SV) (hr:lookH h k = .row w N 1 F) (hN:e+bs.length≤N) (hF:∀ i,i < bs.length→F (e+i) = .int .u8 (nat (bs.getD i 0))) (hl:bs.length≤35184372088832) (K:Tok→SV→List Chunk→Prop) (hE:∀ er,tk bs = .error er→K .mk (.tup [.int .i64 0,.int .i64 0,.int .i64 er]) h) (hO:∀ n u,tk bs = .ok (n,u)→K .mk (.tup [.int .i64 (unz n),.int .i64 (u:Nat),.int .i64 0]) h):callP Try.prog 154 [.osl k d e 1 bs.length] h K:=by
 refine callP_of_code tabOk Try.func154 (by kernel_rfl) rfl (Nat.le_of_ble_eq_true rfl) (codeP_of_vc (pl:=np) tabOk follows_mixed (by kernel_rfl) ?_)
 rw [Try.ntmps154]
 simp -implicitDefEqProofs (maxSteps:=1000000) (disch:=omega) only [↓zzP,zzA,reduceIte,reduceCtorEq,Nat.reduceLT,↓reduceIte,↓gd,↓opP,↓qv,slot,putS,putO,ofV,tupS,res154]
 repeat (refine ⟨by omega,?_⟩)
 refine c155 bs h k d e w N F hr hN hF hl _ (fun er he=>?_) (fun n u he=>?_)
 ·have hfin:=hE er he
  have e0:bits .xor .i64 (IntKind.i64.wrap (shrS .u64 0 1)) (IntKind.i64.wrap (0 - IntKind.i64.wrap (bits .and .u64 0 1))) = 0:=rfl
  simp -implicitDefEqProofs (maxSteps:=1000000) (disch:=omega) only [↓zzP,zzA,reduceIte,Nat.reduceLT,Int.reduceLE,↓reduceIte,Nat.reduceEqDiff,Nat.reduceAdd,↓gd,↓opP,↓qv,slot,putS,putO,ofV,convS,unS,binH,binS2,binS,e0]
  repeat (refine ⟨by omega,?_⟩)
  exact intoR_refl (Nat.le_refl _) hfin
 ·have hfin:=hO n u he
  have e0:=unz_wire n
  simp -implicitDefEqProofs (maxSteps:=1000000) (disch:=omega) only [↓zzP,zzA,reduceIte,Nat.reduceLT,Int.reduceLE,↓reduceIte,Nat.reduceEqDiff,Nat.reduceAdd,Int.reduceToNat,↓gd,↓opP,↓qv,slot,putS,putO,ofV,convS,unS,binH,binS2,binS,e0]
  repeat (refine ⟨by omega,?_⟩)
  exact intoR_refl (Nat.le_refl _) hfin
set_option maxHeartbeats 4000000 in
theorem c160 (bs:List By) (h:List Chunk) (k d e:Nat) (w:Bool) (N:Nat) (F:Nat→SV) (hr:lookH h k = .row w N 1 F) (hN:e+bs.length≤N) (hF:∀ i,i < bs.length→F (e+i) = .int .u8 (nat (bs.getD i 0))) (hl:bs.length≤35184372088832) (K:Tok→SV→List Chunk→Prop) (hE:∀ er,tk bs = .error er→K .mk (.tup [.int .i64 0,.int .i64 0,.int .i64 er]) h) (hO:∀ n u,tk bs = .ok (n,u)→K .mk (.tup [.int .i64 (unz n),.int .i64 (u:Nat),.int .i64 0]) h):callP Try.prog 160 [.osl k d e 1 bs.length] h K:=by
 refine callP_of_code tabOk Try.func160 (by kernel_rfl) rfl (Nat.le_of_ble_eq_true rfl) (codeP_of_vc (pl:=np) tabOk follows_mixed (by kernel_rfl) ?_)
 rw [Try.ntmps160]
 simp -implicitDefEqProofs (maxSteps:=1000000) (disch:=omega) only [↓zzP,zzA,reduceIte,reduceCtorEq,Nat.reduceLT,↓reduceIte,↓gd,↓opP,↓qv,slot,putS,putO,ofV,tupS,res160]
 repeat (refine ⟨by omega,?_⟩)
 refine c161 bs h k d e w N F hr hN hF hl _ (fun er he=>?_) (fun n u he=>?_)
 ·have hfin:=hE er he
  have e0:(bits .and .u64 0 1 == 1) = false:=rfl
  have e1:IntKind.i64.wrap (shrS .u64 0 1) = 0:=rfl
  simp -implicitDefEqProofs (maxSteps:=1000000) (disch:=omega) only [↓zzP,zzA,reduceIte,Nat.reduceLT,Int.reduceLE,↓reduceIte,Nat.reduceEqDiff,Nat.reduceAdd,↓gd,↓opP,↓qv,slot,putS,putO,ofV,convS,binH,binS2,binS,e0,e1]
  repeat (refine ⟨by omega,?_⟩)
  exact intoR_refl (Nat.le_refl _) hfin
 ·have hfin:=hO n u he
  by_cases c:n.toNat % 2 = 1
  ·have e0:(bits .and .u64 (nat n) 1 == 1) = true:=by rw [and1,c]; rfl
   have e1:=unz_ref n c
   simp -implicitDefEqProofs (maxSteps:=1000000) (disch:=omega) only [↓zzP,zzA,reduceIte,Nat.reduceLT,Int.reduceLE,↓reduceIte,Nat.reduceEqDiff,Nat.reduceAdd,Int.reduceToNat,↓gd,↓opP,↓qv,slot,putS,putO,ofV,convS,unS,binH,binS2,binS,e0,e1]
   repeat (refine ⟨by omega,?_⟩)
   exact intoR_refl (Nat.le_refl _) hfin
  ·have e0:(bits .and .u64 (nat n) 1 == 1) = false:=by rw [and1,beq_eq_false_iff_ne]; omega
   have e1:=unz_ref0 n c
   simp -implicitDefEqProofs (maxSteps:=1000000) (disch:=omega) only [↓zzP,zzA,reduceIte,Nat.reduceLT,Int.reduceLE,↓reduceIte,Nat.reduceEqDiff,Nat.reduceAdd,Int.reduceToNat,↓gd,↓opP,↓qv,slot,putS,putO,ofV,convS,binH,binS2,binS,e0,e1]
   repeat (refine ⟨by omega,?_⟩)
   exact intoR_refl (Nat.le_refl _) hfin
def tb (bs:List By) (most:Nat):Except Int (List By × Nat) :=
 match tk bs with
 | .error e=>.error e
 | .ok (n,u)=>if n.toNat > most then .error 2 else if n.toNat > bs.length - u then .error 3 else .ok ((bs.drop u).take n.toNat,u+n.toNat)
theorem tb_e {bs:List By} {most:Nat} {er:Int} (h:tk bs = .error er):tb bs most = .error er:=by unfold tb; rw [h]
theorem tb_o {bs:List By} {most u:Nat} {n:BitVec 64} (h:tk bs = .ok (n,u)):tb bs most = if n.toNat > most then .error 2 else if n.toNat > bs.length - u then .error 3 else .ok ((bs.drop u).take n.toNat,u+n.toNat):=by unfold tb; rw [h]
set_option maxHeartbeats 4000000 in
theorem c156 (bs:List By) (h:List Chunk) (k d e:Nat) (w:Bool) (N:Nat) (F:Nat→SV) (hr:lookH h k = .row w N 1 F) (hN:e+bs.length≤N) (hF:∀ i,i < bs.length→F (e+i) = .int .u8 (nat (bs.getD i 0))) (hl:bs.length≤35184372088832) (most:Nat) (hm:most≤1125899906842624) (K:Tok→SV→List Chunk→Prop) (hE:∀ er,tb bs most = .error er→K .mk (.tup [.v (.slice none 0 0),.int .i64 0,.int .i64 er]) h) (hO:∀ c v,tb bs most = .ok (c,v)→∀ H k',Ext (fun _=>False) h H→h.length≤k'→lookH H k' = .row true c.length 1 (bt c)→K .mk (.tup [.osl k' 0 0 1 c.length,.int .i64 (v:Nat),.int .i64 0]) H):callP Try.prog 156 [.osl k d e 1 bs.length,.int .i64 (most:Nat)] h K:=by
 refine callP_of_code tabOk Try.func156 (by kernel_rfl) rfl (Nat.le_of_ble_eq_true rfl) (codeP_of_vc (pl:=np) tabOk follows_mixed (by kernel_rfl) ?_)
 rw [Try.ntmps156]
 simp -implicitDefEqProofs (maxSteps:=1000000) (disch:=omega) only [↓zzP,zzA,reduceIte,reduceCtorEq,Nat.reduceLT,↓reduceIte,Nat.reduceAdd,↓gd,↓opP,↓qv,slot,putS,putO,ofV,tupS,res156]
 repeat (refine ⟨by omega,?_⟩)
 refine c155 bs h k d e w N F hr hN hF hl _ (fun er he=>?_) (fun n u he=>?_)
 ·have hfin:=hE er (tb_e he)
  have z1:(er != 0) = true:=by rcases tk_err he with rfl | rfl <;> rfl
  simp -implicitDefEqProofs (maxSteps:=1000000) (disch:=omega) only [↓zzP,zzA,reduceIte,Nat.reduceLT,↓reduceIte,Nat.reduceEqDiff,Nat.reduceAdd,↓gd,↓opP,↓qv,slot,putS,putO,ofV,binH,binS2,binS,z1]
  repeat (refine ⟨by omega,?_⟩)
  exact intoR_refl (Nat.le_refl _) hfin
 ·have hu:=tk_ok he
  have ht:=tb_o (most:=most) he
  have z1:((0:Int) != 0) = false:=rfl
  have z2:decide (((most:Nat):Int) < 0) = false:=decide_eq_false (by omega)
  have z3:IntKind.u64.wrap ((most:Nat):Int) = ((most:Nat):Int):=Go.Sx.wrap_small rfl (by omega) (by rw [show IntKind.u64.bits = 64 from rfl]; omega)
  by_cases c1:n.toNat > most
  ·have g1:decide (nat n > ((most:Nat):Int)) = true:=decide_eq_true (by unfold nat; omega)
   rw [if_pos c1] at ht
   simp -implicitDefEqProofs (maxSteps:=1000000) (disch:=omega) only [↓zzP,zzA,zzL,reduceIte,reduceCtorEq,Nat.reduceLT,↓reduceIte,Nat.reduceEqDiff,Nat.reduceAdd,Array.reduceGetElem?,↓gd,↓opP,↓qv,slot,putS,putO,ofV,convS,binH,binS2,binS,z1,z2,z3,g1]
   repeat (refine ⟨by omega,?_⟩)
   exact intoR_refl (Nat.le_refl _) (hE 2 ht)
  ·have g1:decide (nat n > ((most:Nat):Int)) = false:=decide_eq_false (by unfold nat; omega)
   rw [if_neg c1] at ht
   have z4:IntKind.i64.wrap ((bs.length:Int) - (u:Int)) = ((bs.length - u:Nat):Int):=by rw [wrap64 (by omega) (by omega)]; omega
   have z5:IntKind.u64.wrap ((bs.length - u:Nat):Int) = ((bs.length - u:Nat):Int):=Go.Sx.wrap_small rfl (by omega) (by rw [show IntKind.u64.bits = 64 from rfl]; omega)
   by_cases c2:n.toNat > bs.length - u
   ·have g2:decide (nat n > ((bs.length - u:Nat):Int)) = true:=decide_eq_true (by unfold nat; omega)
    rw [if_pos c2] at ht
    simp -implicitDefEqProofs (maxSteps:=1000000) (disch:=omega) only [↓zzP,zzA,zzL,reduceIte,reduceCtorEq,Nat.reduceLT,↓reduceIte,Nat.reduceEqDiff,Nat.reduceAdd,Array.reduceGetElem?,↓gd,↓opP,↓qv,slot,putS,putO,ofV,convS,lenS,binH,binS2,binS,z1,z2,z3,g1,z4,z5,g2]
    repeat (refine ⟨by omega,?_⟩)
    exact intoR_refl (Nat.le_refl _) (hE 3 ht)
   ·have g2:decide (nat n > ((bs.length - u:Nat):Int)) = false:=decide_eq_false (by unfold nat; omega)
    rw [if_neg c2] at ht
    have z6:IntKind.i64.wrap (nat n) = ((n.toNat:Nat):Int):=wrap64 (by unfold nat; omega) (by unfold nat; omega)
    have z7:IntKind.i64.wrap ((u:Int)+((n.toNat:Nat):Int)) = ((u+n.toNat:Nat):Int):=by rw [wrap64 (by omega) (by omega)]; omega
    simp -implicitDefEqProofs (maxSteps:=1000000) (disch:=omega) only [↓zzP,zzA,zzL,reduceIte,reduceCtorEq,Nat.reduceLT,↓reduceIte,Nat.reduceEqDiff,Nat.reduceAdd,Array.reduceGetElem?,↓gd,↓opP,↓qv,↓ef,↓appS,slot,putS,putO,ofV,convS,bnd,slS,lenS,srcS,binH,binS2,binS,notInt,z1,z2,z3,g1,z4,z5,g2,z6,z7,hr]
    repeat (refine ⟨by omega,?_⟩)
    obtain ⟨c,hc⟩:∃ c,c = (bs.drop u).take n.toNat:=⟨_,rfl⟩
    have hcl:c.length = n.toNat:=by rw [hc,List.length_take,List.length_drop]; omega
    rw [← hc] at ht
    have hn:u+n.toNat - u = c.length:=by omega
    rw [hn]
    refine intoR_sim (row_sim (D:=c) rfl fun i hi=>?_) (intoR_refl (by simp) (hO c _ ht _ _ ((Ext.refl _ _).app _) (Nat.le_refl _) (lookH_end _ _)))
    rw [Nat.add_assoc,hF _ (by omega),hc]
    congr 2
    simp [List.getD,List.getElem?_take,List.getElem?_drop,show i < n.toNat by omega]
set_option maxHeartbeats 4000000 in
theorem c162 (bs:List By) (h:List Chunk) (k d e:Nat) (w:Bool) (N:Nat) (F:Nat→SV) (hr:lookH h k = .row w N 1 F) (hN:e+bs.length≤N) (hF:∀ i,i < bs.length→F (e+i) = .int .u8 (nat (bs.getD i 0))) (hl:bs.length≤35184372088832) (most:Nat) (hm:most≤1125899906842624) (K:Tok→SV→List Chunk→Prop) (hE:∀ er,tb bs most = .error er→K .mk (.tup [.v (.slice none 0 0),.int .i64 0,.int .i64 er]) h) (hO:∀ c v,tb bs most = .ok (c,v)→∀ H k',Ext (fun _=>False) h H→h.length≤k'→lookH H k' = .row true c.length 1 (bt c)→K .mk (.tup [.osl k' 0 0 1 c.length,.int .i64 (v:Nat),.int .i64 0]) H):callP Try.prog 162 [.osl k d e 1 bs.length,.int .i64 (most:Nat)] h K:=by
 refine callP_of_code tabOk Try.func162 (by kernel_rfl) rfl (Nat.le_of_ble_eq_true rfl) (codeP_of_vc (pl:=np) tabOk follows_mixed (by kernel_rfl) ?_)
 rw [Try.ntmps162]
 simp -implicitDefEqProofs (maxSteps:=1000000) (disch:=omega) only [↓zzP,zzA,reduceIte,reduceCtorEq,Nat.reduceLT,↓reduceIte,Nat.reduceAdd,↓gd,↓opP,↓qv,slot,putS,putO,ofV,tupS,res162]
 repeat (refine ⟨by omega,?_⟩)
 refine c161 bs h k d e w N F hr hN hF hl _ (fun er he=>?_) (fun n u he=>?_)
 ·have hfin:=hE er (tb_e he)
  have z1:(er != 0) = true:=by rcases tk_err he with rfl | rfl <;> rfl
  simp -implicitDefEqProofs (maxSteps:=1000000) (disch:=omega) only [↓zzP,zzA,reduceIte,Nat.reduceLT,↓reduceIte,Nat.reduceEqDiff,Nat.reduceAdd,↓gd,↓opP,↓qv,slot,putS,putO,ofV,binH,binS2,binS,z1]
  repeat (refine ⟨by omega,?_⟩)
  exact intoR_refl (Nat.le_refl _) hfin
 ·have hu:=tk_ok he
  have ht:=tb_o (most:=most) he
  have z1:((0:Int) != 0) = false:=rfl
  have z2:decide (((most:Nat):Int) < 0) = false:=decide_eq_false (by omega)
  have z3:IntKind.u64.wrap ((most:Nat):Int) = ((most:Nat):Int):=Go.Sx.wrap_small rfl (by omega) (by rw [show IntKind.u64.bits = 64 from rfl]; omega)
  by_cases c1:n.toNat > most
  ·have g1:decide (nat n > ((most:Nat):Int)) = true:=decide_eq_true (by unfold nat; omega)
   rw [if_pos c1] at ht
   simp -implicitDefEqProofs (maxSteps:=1000000) (disch:=omega) only [↓zzP,zzA,zzL,reduceIte,reduceCtorEq,Nat.reduceLT,↓reduceIte,Nat.reduceEqDiff,Nat.reduceAdd,Array.reduceGetElem?,↓gd,↓opP,↓qv,slot,putS,putO,ofV,convS,binH,binS2,binS,z1,z2,z3,g1]
   repeat (refine ⟨by omega,?_⟩)
   exact intoR_refl (Nat.le_refl _) (hE 2 ht)
  ·have g1:decide (nat n > ((most:Nat):Int)) = false:=decide_eq_false (by unfold nat; omega)
   rw [if_neg c1] at ht
   have z4:IntKind.i64.wrap ((bs.length:Int) - (u:Int)) = ((bs.length - u:Nat):Int):=by rw [wrap64 (by omega) (by omega)]; omega
   have z5:IntKind.u64.wrap ((bs.length - u:Nat):Int) = ((bs.length - u:Nat):Int):=Go.Sx.wrap_small rfl (by omega) (by rw [show IntKind.u64.bits = 64 from rfl]; omega)
   by_cases c2:n.toNat > bs.length - u
   ·have g2:decide (nat n > ((bs.length - u:Nat):Int)) = true:=decide_eq_true (by unfold nat; omega)
    rw [if_pos c2] at ht
    simp -implicitDefEqProofs (maxSteps:=1000000) (disch:=omega) only [↓zzP,zzA,zzL,reduceIte,reduceCtorEq,Nat.reduceLT,↓reduceIte,Nat.reduceEqDiff,Nat.reduceAdd,Array.reduceGetElem?,↓gd,↓opP,↓qv,slot,putS,putO,ofV,convS,lenS,binH,binS2,binS,z1,z2,z3,g1,z4,z5,g2]
    repeat (refine ⟨by omega,?_⟩)
    exact intoR_refl (Nat.le_refl _) (hE 3 ht)
   ·have g2:decide (nat n > ((bs.length - u:Nat):Int)) = false:=decide_eq_false (by unfold nat; omega)
    rw [if_neg c2] at ht
    have z6:IntKind.i64.wrap (nat n) = ((n.toNat:Nat):Int):=wrap64 (by unfold nat; omega) (by unfold nat; omega)
    have z7:IntKind.i64.wrap ((u:Int)+((n.toNat:Nat):Int)) = ((u+n.toNat:Nat):Int):=by rw [wrap64 (by omega) (by omega)]; omega
    simp -implicitDefEqProofs (maxSteps:=1000000) (disch:=omega) only [↓zzP,zzA,zzL,reduceIte,reduceCtorEq,Nat.reduceLT,↓reduceIte,Nat.reduceEqDiff,Nat.reduceAdd,Array.reduceGetElem?,↓gd,↓opP,↓qv,↓ef,↓appS,slot,putS,putO,ofV,convS,bnd,slS,lenS,srcS,binH,binS2,binS,notInt,z1,z2,z3,g1,z4,z5,g2,z6,z7,hr]
    repeat (refine ⟨by omega,?_⟩)
    obtain ⟨c,hc⟩:∃ c,c = (bs.drop u).take n.toNat:=⟨_,rfl⟩
    have hcl:c.length = n.toNat:=by rw [hc,List.length_take,List.length_drop]; omega
    rw [← hc] at ht
    have hn:u+n.toNat - u = c.length:=by omega
    rw [hn]
    refine intoR_sim (row_sim (D:=c) rfl fun i hi=>?_) (intoR_refl (by simp) (hO c _ ht _ _ ((Ext.refl _ _).app _) (Nat.le_refl _) (lookH_end _ _)))
    rw [Nat.add_assoc,hF _ (by omega),hc]
    congr 2
    simp [List.getD,List.getElem?_take,List.getElem?_drop,show i < n.toNat by omega]
end Go.Proofs.Ytgocfglmideobaa
set_option linter.all false
set_option maxRecDepth 40000
namespace Go.Proofs.Ytgocfglmideobaa
open Go Go.Sx
theorem res131:Try.f131.results.toList = [.tmp 6]:=rfl
theorem res126:Try.f126.results.toList = [.tmp 2]:=rfl
theorem res127:Try.f127.results.toList = [.tmp 2]:=rfl
theorem res128:Try.f128.results.toList = [.tmp 2]:=rfl
def RdB (h:List Chunk) (sv:SV) (bs:List By):Prop:=∃ k d e w N F,sv = .osl k d e 1 bs.length∧lookH h k = .row w N 1 F∧e+bs.length≤N∧∀ i,i < bs.length→F (e+i) = .int .u8 (nat (bs.getD i 0))
theorem ne_cr {h:List Chunk} {kr k n s:Nat} {wr w:Bool} {fs:List SV} {F:Nat→SV} (hk:lookH h kr = .cells wr fs) (hr:lookH h k = .row w n s F):k ≠ kr:=fun e=>by rw [e,hk] at hr; cases hr
theorem RdB.put {h:List Chunk} {kr:Nat} {sv:SV} {bs:List By} {wr:Bool} {fs:List SV} (hB:RdB h sv bs) (hk:lookH h kr = .cells wr fs) (c:Chunk):RdB (putH h kr c) sv bs:=by
 obtain ⟨k,d,e,w,N,F,rfl,hr,hN,hF⟩:=hB
 exact ⟨k,d,e,w,N,F,rfl,by rw [lookH_put_ne _ (ne_cr hk hr)]; exact hr,hN,hF⟩
theorem RdB.ext {h H:List Chunk} {sv:SV} {bs:List By} (hB:RdB h sv bs) (hE:ExtR h H):RdB H sv bs:=by
 obtain ⟨k,d,e,w,N,F,rfl,hr,hN,hF⟩:=hB
 exact ⟨k,d,e,w,N,F,rfl,hE _ _ _ _ _ hr,hN,hF⟩
theorem RdB.drop {h:List Chunk} {k e N:Nat} {w:Bool} {F:Nat→SV} {bs:List By} (hr:lookH h k = .row w N 1 F) (hN:e+bs.length≤N) (hF:∀ i,i < bs.length→F (e+i) = .int .u8 (nat (bs.getD i 0))) (u d':Nat) (hu:u≤bs.length):RdB h (.osl k d' (e+u) 1 (bs.length - u)) (bs.drop u):=by
 refine ⟨k,d',e+u,w,N,F,by rw [List.length_drop],hr,by rw [List.length_drop]; omega,fun i hi=>?_⟩
 rw [List.length_drop] at hi
 rw [Nat.add_assoc,hF _ (by omega)]
 congr 2
 simp [List.getD,List.getElem?_drop]
theorem ext_rd {h H:List Chunk} {kr:Nat} {wr:Bool} {fs:List SV} (hE:Ext (fun j=>j = kr) h H) (hk:lookH h kr = .cells wr fs):ExtR h H:=ext_rows hE fun k' e w n' s' f' hh=>by rw [e,hk] at hh; cases hh
theorem c131e (bs:List By) (h:List Chunk) (kr k d e:Nat) (w:Bool) (N:Nat) (F:Nat→SV) (dp er:Int) (hk:lookH h kr = .cells true [.osl k d e 1 bs.length,.int .i64 dp,.int .i64 er]) (u:Nat) (e2:Int) (he:e2 ≠ 0) (K:Tok→SV→List Chunk→Prop) (hK:K .mk (.bool false) (putH h kr (.cells true [.osl k d e 1 bs.length,.int .i64 dp,.int .i64 e2]))):callP Try.prog 131 [.ptr kr 0,.int .i64 (u:Nat),.int .i64 e2] h K:=by
 have z1:(e2 != 0) = true:=bne_iff_ne.2 he
 have hlt:=lookH_lt hk (by simp)
 refine callP_of_code tabOk Try.func131 (by kernel_rfl) rfl (Nat.le_of_ble_eq_true rfl) (codeP_of_vc (pl:=np) tabOk follows_mixed (by kernel_rfl) ?_)
 rw [Try.ntmps131]
 simp -implicitDefEqProofs (maxSteps:=1000000) (disch:=omega) only [↓zzP,zzA,zzL,zzB,Nat.reduceSub,reduceIte,reduceCtorEq,Nat.reduceLT,↓reduceIte,Nat.reduceEqDiff,Nat.reduceLeDiff,Nat.reduceAdd,↓gd,↓opP,↓qv,↓ef,↓stS,slot,putS,putO,ofV,fldA,sz,wrF,binH,binS2,binS,tupS,stor,res131,z1,hk]
 repeat (refine ⟨by omega,?_⟩)
 exact intoR_refl (by rw [putH_len]; exact Nat.le_refl _) hK
theorem c131 (bs:List By) (h:List Chunk) (kr k d e:Nat) (w:Bool) (N:Nat) (F:Nat→SV) (dp er:Int) (hk:lookH h kr = .cells true [.osl k d e 1 bs.length,.int .i64 dp,.int .i64 er]) (hr:lookH h k = .row w N 1 F) (hN:e+bs.length≤N) (hF:∀ i,i < bs.length→F (e+i) = .int .u8 (nat (bs.getD i 0))) (hl:bs.length≤35184372088832)(u:Nat) (hu:u≤bs.length) (K:Tok→SV→List Chunk→Prop) (hK:∀ d',K .mk (.bool true) (putH h kr (.cells true [.osl k d' (e+u) 1 (bs.length - u),.int .i64 dp,.int .i64 er]))):callP Try.prog 131 [.ptr kr 0,.int .i64 (u:Nat),.int .i64 0] h K:=by
 have z1:((0:Int) != 0) = false:=rfl
 have hlt:=lookH_lt hk (by simp)
 refine callP_of_code tabOk Try.func131 (by kernel_rfl) rfl (Nat.le_of_ble_eq_true rfl) (codeP_of_vc (pl:=np) tabOk follows_mixed (by kernel_rfl) ?_)
 rw [Try.ntmps131]
 simp -implicitDefEqProofs (maxSteps:=1000000) (disch:=omega) only [↓zzP,zzA,zzL,zzB,reduceIte,reduceCtorEq,Nat.reduceLT,↓reduceIte,Nat.reduceEqDiff,Nat.reduceLeDiff,Nat.reduceAdd,↓gd,↓opP,↓qv,↓ef,↓stS,slot,putS,putO,ofV,fldA,bnd,slS,rdF,Ent.row,ldS,sz,wrF,binH,binS2,binS,tupS,stor,res131,z1,hk,hr]
 repeat (refine ⟨by omega,?_⟩)
 exact intoR_refl (by rw [putH_len]; exact Nat.le_refl _) (hK _)
def pKind (bs:List By):Except Int (Int × List By):=match bs with | []=>.error 3 | b :: r=>.ok ((b.toNat:Int),r)
def pInt (bs:List By):Except Int (Int × List By):=match tk bs with | .error e=>.error e | .ok (n,u)=>.ok (unz n,bs.drop u)
def pNum (bs:List By):Except Int (Int × List By):=match tk bs with | .error e=>.error e | .ok (n,u)=>if n.toNat > 4611686018427387904 then .error 4 else .ok ((n.toNat:Int),bs.drop u)
theorem pInt_e {bs:List By} {er:Int} (h:tk bs = .error er):pInt bs = .error er:=by unfold pInt; rw [h]
theorem pInt_o {bs:List By} {n:BitVec 64} {u:Nat} (h:tk bs = .ok (n,u)):pInt bs = .ok (unz n,bs.drop u):=by unfold pInt; rw [h]
theorem pNum_e {bs:List By} {er:Int} (h:tk bs = .error er):pNum bs = .error er:=by unfold pNum; rw [h]
theorem pNum_o {bs:List By} {n:BitVec 64} {u:Nat} (h:tk bs = .ok (n,u)):pNum bs = if n.toNat > 4611686018427387904 then .error 4 else .ok ((n.toNat:Int),bs.drop u):=by unfold pNum; rw [h]
theorem tk_ne {bs:List By} {er:Int} (h:tk bs = .error er):er ≠ 0:=by rcases tk_err h with rfl | rfl <;> decide
set_option maxHeartbeats 4000000 in
theorem c126 (bs:List By) (h:List Chunk) (kr:Nat) (sv:SV) (dp:Int) (hk:lookH h kr = .cells true [sv,.int .i64 dp,.int .i64 0]) (hB:RdB h sv bs) (hl:bs.length≤35184372088832) (K:Tok→SV→List Chunk→Prop) (hE:∀ e2,pKind bs = .error e2→∀ v H sv' bs',Ext (fun j=>j = kr) h H→lookH H kr = .cells true [sv',.int .i64 dp,.int .i64 e2]→RdB H sv' bs'→K .mk (.int .i64 v) H) (hO:∀ x bs',pKind bs = .ok (x,bs')→∀ H sv',Ext (fun j=>j = kr) h H→lookH H kr = .cells true [sv',.int .i64 dp,.int .i64 0]→RdB H sv' bs'→K .mk (.int .i64 x) H):callP Try.prog 126 [.ptr kr 0] h K:=by
 obtain ⟨k,d,e,w,N,F,rfl,hr,hN,hF⟩:=hB
 have hlt:=lookH_lt hk (by simp)
 have hkk:=ne_cr hk hr
 refine callP_of_code tabOk Try.func126 (by kernel_rfl) rfl (Nat.le_of_ble_eq_true rfl) (codeP_of_vc (pl:=np) tabOk follows_mixed (by kernel_rfl) ?_)
 rw [Try.ntmps126]
 cases bs with
 | nil =>
  have z1:((0:Int) == 0) = true:=rfl
  simp -implicitDefEqProofs (maxSteps:=1000000) (disch:=omega) only [↓zzP,zzA,zzL,zzB,Nat.reduceSub,reduceIte,reduceCtorEq,Nat.reduceLT,↓reduceIte,Nat.reduceLeDiff,↓gd,↓opP,↓qv,↓ef,↓stS,slot,putS,putO,ofV,fldA,lenS,rdF,Ent.row,ldS,sz,wrF,binH,binS2,binS,tupS,stor,res126,z1,hk]
  repeat (refine ⟨by omega,?_⟩)
  exact intoR_refl (by rw [putH_len]; exact Nat.le_refl _) (hE 3 rfl 0 _ _ _ ((Ext.refl _ _).put _ (.inl rfl)) (lookH_put_same _ hlt) (RdB.put ⟨k,d,e,w,N,F,rfl,hr,hN,hF⟩ hk _))
 | cons b bs =>
  have z1:(((bs.length+1:Nat):Int) == 0) = false:=by rw [beq_eq_false_iff_ne]; omega
  have z2:IntKind.i64.wrap (nat b) = ((b.toNat:Nat):Int):=by
   have:=b.isLt
   exact wrap64 (by unfold nat; omega) (by unfold nat; omega)
  rw [List.length_cons] at hN hl
  have hb:=hF 0 (by simp)
  rw [Nat.add_zero] at hb
  have hb2:F e = .int .u8 (nat b):=hb
  simp -implicitDefEqProofs (maxSteps:=1000000) (disch:=omega) only [↓zzP,zzA,zzL,zzB,reduceIte,reduceCtorEq,Nat.reduceLT,Int.reduceLE,↓reduceIte,Nat.reduceEqDiff,Nat.reduceLeDiff,Int.reduceToNat,↓gd,↓opP,↓qv,↓ef,↓stS,slot,putS,putO,ofV,convS,fldA,idxA,bnd,slS,lenS,rdF,Ent.row,ldS,sz,wrF,binH,binS2,binS,tupS,stor,res126,z1,z2,hk,hr,hb2]
  repeat (refine ⟨by omega,?_⟩)
  exact intoR_refl (by rw [putH_len]; exact Nat.le_refl _) (hO _ _ rfl _ _ ((Ext.refl _ _).put _ (.inl rfl)) (lookH_put_same _ hlt) (RdB.put (RdB.drop (bs:=b :: bs) hr hN hF 1 e (by simp)) hk _))
set_option maxHeartbeats 4000000 in
theorem c127x (h:List Chunk) (kr k d e n:Nat) (dp er:Int) (hk:lookH h kr = .cells true [.osl k d e 1 n,.int .i64 dp,.int .i64 er]) (he:er ≠ 0) (K:Tok→SV→List Chunk→Prop) (hK:K .mk (.int .i64 0) h):callP Try.prog 127 [.ptr kr 0] h K:=by
 have z1:(er != 0) = true:=bne_iff_ne.2 he
 refine callP_of_code tabOk Try.func127 (by kernel_rfl) rfl (Nat.le_of_ble_eq_true rfl) (codeP_of_vc (pl:=np) tabOk follows_mixed (by kernel_rfl) ?_)
 rw [Try.ntmps127]
 simp -implicitDefEqProofs (maxSteps:=1000000) (disch:=omega) only [↓zzP,zzA,zzL,zzB,Nat.reduceSub,reduceIte,reduceCtorEq,Nat.reduceLT,↓reduceIte,Nat.reduceLeDiff,↓gd,↓opP,↓qv,slot,putS,putO,ofV,fldA,rdF,Ent.row,ldS,sz,binH,binS2,binS,tupS,res127,z1,hk]
 repeat (refine ⟨by omega,?_⟩)
 exact intoR_refl (Nat.le_refl _) hK
set_option maxHeartbeats 4000000 in
theorem c127 (bs:List By) (h:List Chunk) (kr:Nat) (sv:SV) (dp:Int) (hk:lookH h kr = .cells true [sv,.int .i64 dp,.int .i64 0]) (hB:RdB h sv bs) (hl:bs.length≤35184372088832) (K:Tok→SV→List Chunk→Prop) (hE:∀ e2,pInt bs = .error e2→∀ v H sv' bs',Ext (fun j=>j = kr) h H→lookH H kr = .cells true [sv',.int .i64 dp,.int .i64 e2]→RdB H sv' bs'→K .mk (.int .i64 v) H) (hO:∀ x bs',pInt bs = .ok (x,bs')→∀ H sv',Ext (fun j=>j = kr) h H→lookH H kr = .cells true [sv',.int .i64 dp,.int .i64 0]→RdB H sv' bs'→K .mk (.int .i64 x) H):callP Try.prog 127 [.ptr kr 0] h K:=by
 obtain ⟨k,d,e,w,N,F,rfl,hr,hN,hF⟩:=hB
 have hlt:=lookH_lt hk (by simp)
 have hkk:=ne_cr hk hr
 refine callP_of_code tabOk Try.func127 (by kernel_rfl) rfl (Nat.le_of_ble_eq_true rfl) (codeP_of_vc (pl:=np) tabOk follows_mixed (by kernel_rfl) ?_)
 rw [Try.ntmps127]
 have z1:((0:Int) != 0) = false:=rfl
 simp -implicitDefEqProofs (maxSteps:=1000000) (disch:=omega) only [↓zzP,zzA,zzL,zzB,Nat.reduceSub,reduceIte,reduceCtorEq,Nat.reduceLT,↓reduceIte,Nat.reduceLeDiff,↓gd,↓opP,↓qv,slot,putS,putO,ofV,fldA,rdF,Ent.row,ldS,sz,binH,binS2,binS,tupS,res127,z1,hk]
 repeat (refine ⟨by omega,?_⟩)
 refine c154 bs h k d e w N F hr hN hF hl _ (fun er he=>?_) (fun n u he=>?_)
 ·simp -implicitDefEqProofs (maxSteps:=1000000) (disch:=omega) only [↓zzP,zzA,reduceIte,reduceCtorEq,Nat.reduceLT,↓reduceIte,Nat.reduceEqDiff,Nat.reduceAdd,↓gd,↓opP,↓qv,slot,putS,putO]
  repeat (refine ⟨by omega,?_⟩)
  refine c131e bs h kr k d e w N F dp 0 hk 0 er (tk_ne he) _ ?_
  simp -implicitDefEqProofs (maxSteps:=1000000) (disch:=omega) only [↓zzP,zzA,reduceIte,Nat.reduceLT,↓reduceIte,Nat.reduceEqDiff,↓gd,↓opP,↓qv,slot,putS,putO]
  repeat (refine ⟨by omega,?_⟩)
  exact intoR_refl (by rw [putH_len]; exact Nat.le_refl _) (hE er (pInt_e he) 0 _ _ _ ((Ext.refl _ _).put _ (.inl rfl)) (lookH_put_same _ hlt) (RdB.put ⟨k,d,e,w,N,F,rfl,hr,hN,hF⟩ hk _))
 ·have hu:=tk_ok he
  simp -implicitDefEqProofs (maxSteps:=1000000) (disch:=omega) only [↓zzP,zzA,reduceIte,reduceCtorEq,Nat.reduceLT,↓reduceIte,Nat.reduceEqDiff,Nat.reduceAdd,↓gd,↓opP,↓qv,slot,putS,putO]
  repeat (refine ⟨by omega,?_⟩)
  refine c131 bs h kr k d e w N F dp 0 hk hr hN hF hl u hu.2.1 _ fun d'=>?_
  simp -implicitDefEqProofs (maxSteps:=1000000) (disch:=omega) only [↓zzP,zzA,reduceIte,Nat.reduceLT,↓reduceIte,Nat.reduceEqDiff,↓gd,↓opP,↓qv,slot,putS,putO]
  repeat (refine ⟨by omega,?_⟩)
  exact intoR_refl (by rw [putH_len]; exact Nat.le_refl _) (hO _ _ (pInt_o he) _ _ ((Ext.refl _ _).put _ (.inl rfl)) (lookH_put_same _ hlt) (RdB.put (RdB.drop hr hN hF u d' hu.2.1) hk _))
set_option maxHeartbeats 4000000 in
theorem c128x (h:List Chunk) (kr k d e n:Nat) (dp er:Int) (hk:lookH h kr = .cells true [.osl k d e 1 n,.int .i64 dp,.int .i64 er]) (he:er ≠ 0) (K:Tok→SV→List Chunk→Prop) (hK:K .mk (.int .i64 0) h):callP Try.prog 128 [.ptr kr 0] h K:=by
 have z1:(er != 0) = true:=bne_iff_ne.2 he
 refine callP_of_code tabOk Try.func128 (by kernel_rfl) rfl (Nat.le_of_ble_eq_true rfl) (codeP_of_vc (pl:=np) tabOk follows_mixed (by kernel_rfl) ?_)
 rw [Try.ntmps128]
 simp -implicitDefEqProofs (maxSteps:=1000000) (disch:=omega) only [↓zzP,zzA,zzL,zzB,Nat.reduceSub,reduceIte,reduceCtorEq,Nat.reduceLT,↓reduceIte,Nat.reduceLeDiff,↓gd,↓opP,↓qv,slot,putS,putO,ofV,fldA,rdF,Ent.row,ldS,sz,binH,binS2,binS,tupS,res128,z1,hk]
 repeat (refine ⟨by omega,?_⟩)
 exact intoR_refl (Nat.le_refl _) hK
set_option maxHeartbeats 4000000 in
theorem c128 (bs:List By) (h:List Chunk) (kr:Nat) (sv:SV) (dp:Int) (hk:lookH h kr = .cells true [sv,.int .i64 dp,.int .i64 0]) (hB:RdB h sv bs) (hl:bs.length≤35184372088832) (K:Tok→SV→List Chunk→Prop) (hE:∀ e2,pNum bs = .error e2→∀ v H sv' bs',Ext (fun j=>j = kr) h H→lookH H kr = .cells true [sv',.int .i64 dp,.int .i64 e2]→RdB H sv' bs'→K .mk (.int .i64 v) H) (hO:∀ x bs',pNum bs = .ok (x,bs')→∀ H sv',Ext (fun j=>j = kr) h H→lookH H kr = .cells true [sv',.int .i64 dp,.int .i64 0]→RdB H sv' bs'→K .mk (.int .i64 x) H):callP Try.prog 128 [.ptr kr 0] h K:=by
 obtain ⟨k,d,e,w,N,F,rfl,hr,hN,hF⟩:=hB
 have hlt:=lookH_lt hk (by simp)
 have hkk:=ne_cr hk hr
 refine callP_of_code tabOk Try.func128 (by kernel_rfl) rfl (Nat.le_of_ble_eq_true rfl) (codeP_of_vc (pl:=np) tabOk follows_mixed (by kernel_rfl) ?_)
 rw [Try.ntmps128]
 have z1:((0:Int) != 0) = false:=rfl
 simp -implicitDefEqProofs (maxSteps:=1000000) (disch:=omega) only [↓zzP,zzA,zzL,zzB,Nat.reduceSub,reduceIte,reduceCtorEq,Nat.reduceLT,↓reduceIte,Nat.reduceLeDiff,↓gd,↓opP,↓qv,slot,putS,putO,ofV,fldA,rdF,Ent.row,ldS,sz,binH,binS2,binS,tupS,res128,z1,hk]
 repeat (refine ⟨by omega,?_⟩)
 refine c155 bs h k d e w N F hr hN hF hl _ (fun er he=>?_) (fun n u he=>?_)
 ·simp -implicitDefEqProofs (maxSteps:=1000000) (disch:=omega) only [↓zzP,zzA,reduceIte,reduceCtorEq,Nat.reduceLT,↓reduceIte,Nat.reduceEqDiff,Nat.reduceAdd,↓gd,↓opP,↓qv,slot,putS,putO]
  repeat (refine ⟨by omega,?_⟩)
  refine c131e bs h kr k d e w N F dp 0 hk 0 er (tk_ne he) _ ?_
  simp -implicitDefEqProofs (maxSteps:=1000000) (disch:=omega) only [↓zzP,zzA,reduceIte,Nat.reduceLT,↓reduceIte,Nat.reduceEqDiff,Array.reduceGetElem?,↓gd,↓opP,↓qv,slot,putS,putO,ofV,convS]
  repeat (refine ⟨by omega,?_⟩)
  exact intoR_refl (by rw [putH_len]; exact Nat.le_refl _) (hE er (pNum_e he) _ _ _ _ ((Ext.refl _ _).put _ (.inl rfl)) (lookH_put_same _ hlt) (RdB.put ⟨k,d,e,w,N,F,rfl,hr,hN,hF⟩ hk _))
 ·have hu:=tk_ok he
  have hp:=pNum_o he
  simp -implicitDefEqProofs (maxSteps:=1000000) (disch:=omega) only [↓zzP,zzA,reduceIte,reduceCtorEq,Nat.reduceLT,↓reduceIte,Nat.reduceEqDiff,Nat.reduceAdd,↓gd,↓opP,↓qv,slot,putS,putO]
  repeat (refine ⟨by omega,?_⟩)
  refine c131 bs h kr k d e w N F dp 0 hk hr hN hF hl u hu.2.1 _ fun d'=>?_
  by_cases c:n.toNat > 4611686018427387904
  ·have z2:decide (nat n > 4611686018427387904) = true:=decide_eq_true (by unfold nat; omega)
   rw [if_pos c] at hp
   simp -implicitDefEqProofs (maxSteps:=1000000) (disch:=omega) only [↓zzP,zzA,zzL,zzB,Nat.reduceSub,reduceIte,reduceCtorEq,Nat.reduceLT,↓reduceIte,Nat.reduceEqDiff,Nat.reduceLeDiff,Array.reduceGetElem?,↓gd,↓opP,↓qv,↓ef,↓stS,slot,putS,putO,ofV,convS,fldA,sz,wrF,binH,binS2,binS,stor,z2,lookH_put_same]
   repeat (refine ⟨by omega,?_⟩)
   refine intoR_refl (by rw [putH_len,putH_len]; exact Nat.le_refl _) (hE 4 hp _ _ _ _ (((Ext.refl (fun j=>j = kr) h).put (p:=kr) _ (.inl rfl)).put (p:=kr) _ (.inl rfl)) (lookH_put_same _ (by rw [putH_len]; exact hlt)) (RdB.put (RdB.put (RdB.drop hr hN hF u d' hu.2.1) hk _) (lookH_put_same _ hlt) _))
  ·have z2:decide (nat n > 4611686018427387904) = false:=decide_eq_false (by unfold nat; omega)
   have z3:IntKind.i64.wrap (nat n) = ((n.toNat:Nat):Int):=wrap64 (by unfold nat; omega) (by unfold nat; omega)
   rw [if_neg c] at hp
   simp -implicitDefEqProofs (maxSteps:=1000000) (disch:=omega) only [↓zzP,zzA,zzL,reduceIte,Nat.reduceLT,↓reduceIte,Nat.reduceEqDiff,Array.reduceGetElem?,↓gd,↓opP,↓qv,slot,putS,putO,ofV,convS,binH,binS2,binS,z2,z3]
   repeat (refine ⟨by omega,?_⟩)
   exact intoR_refl (by rw [putH_len]; exact Nat.le_refl _) (hO _ _ hp _ _ ((Ext.refl _ _).put _ (.inl rfl)) (lookH_put_same _ hlt) (RdB.put (RdB.drop hr hN hF u d' hu.2.1) hk _))
end Go.Proofs.Ytgocfglmideobaa
set_option linter.all false
set_option maxRecDepth 40000
namespace Go.Proofs.Ytgocfglmideobaa
open Go Go.Sx
theorem res129:Try.f129.results.toList = [.cell 2 23]:=rfl
def pl129:Nat→Plan
 | 2=>(.q 0 (.q 1 (.q 2 (.q 3 (.q 4 (.q 5 (.q 6 (.q 7 (.q 8 (.q 9 (.e1 10 [5,9] (.q 11 (.q 12 (.q 13 (.e1 14 [4,5,9,10,11] .nil)))))))))))))))
 | _=>.nil
def pDig (bs:List By):Except Int ((Nat→By) × List By):=if bs.length < 32 then .error 3 else .ok (fun i=>bs.getD i 0,bs.drop 32)
theorem putH_pA0 (l:List Chunk) (c d:Chunk) (h:List Chunk) (m:Nat):putH (putH h m c++l) h.length d = putH h m c++putH l 0 d:=putH_pA l c d h m 0
theorem intoR_den {nf:Nat} {v v':SV} {h:List Chunk} {K:Tok→SV→List Chunk→Prop} (hd:∀ ρ,den ρ v = den ρ v') (ho:ok h.length v') (hk:IntoR nf v' h K):IntoR nf v h K:=fun C ρ w hC hM hok=>by
 obtain ⟨ρ',v2,h2,q1,q2,q3,q4,q5⟩:=hk C ρ w hC hM ho
 exact ⟨ρ',v2,h2,q1,q2,q3,(hd ρ).trans q4,q5⟩
theorem den_fam {ρ:Env} {n s:Nat} {f g:Nat→SV} (h:∀ i,i < n→f i = g i):den ρ (.fam n s f) = den ρ (.fam n s g):=by
 simp only [den]
 congr 2
 exact Go.Deep.flatMap_congr_range fun i hi=>by rw [h i hi]
set_option maxHeartbeats 4000000 in
theorem c129x (h:List Chunk) (kr k d e n:Nat) (dp er:Int) (hk:lookH h kr = .cells true [.osl k d e 1 n,.int .i64 dp,.int .i64 er]) (he:er ≠ 0) (K:Tok→SV→List Chunk→Prop) (hK:∀ H,Ext (fun _=>False) h H→K .mk (.fam 32 1 fun _=>.int .u8 0) H):callP Try.prog 129 [.ptr kr 0] h K:=by
 have z1:(er != 0) = true:=bne_iff_ne.2 he
 have hlt:=lookH_lt hk (by simp)
 refine callP_of_code tabOk Try.func129 (by kernel_rfl) rfl (Nat.le_of_ble_eq_true rfl) (codeP_of_vc (pl:=pl129) tabOk follows_mixed (by kernel_rfl) ?_)
 rw [Try.ntmps129]
 simp -implicitDefEqProofs (maxSteps:=1000000) (disch:=omega) only [↓zzP,zzA,zzL,zzB,Nat.reduceSub,reduceIte,reduceCtorEq,Nat.reduceLT,↓reduceIte,Nat.reduceEqDiff,Nat.reduceLeDiff,↓gd,↓opP,↓qv,↓ef,↓stS,slot,putS,putO,ofV,fldA,asRow,rdF,Ent.row,ldS,sz,wrF,binH,binS2,binS,tupS,stor,res129,z1,hk,lookH_at]
 repeat (refine ⟨by omega,?_⟩)
 exact intoR_refl (by simp) (hK _ ((Ext.refl _ _).app _))
set_option maxHeartbeats 4000000 in
theorem c129 (bs:List By) (h:List Chunk) (kr:Nat) (sv:SV) (dp:Int) (hk:lookH h kr = .cells true [sv,.int .i64 dp,.int .i64 0]) (hB:RdB h sv bs) (hl:bs.length≤35184372088832) (K:Tok→SV→List Chunk→Prop) (hE:∀ e2,pDig bs = .error e2→∀ H sv' bs',Ext (fun j=>j = kr) h H→lookH H kr = .cells true [sv',.int .i64 dp,.int .i64 e2]→RdB H sv' bs'→K .mk (.fam 32 1 fun _=>.int .u8 0) H) (hO:∀ x bs',pDig bs = .ok (x,bs')→∀ H sv',Ext (fun j=>j = kr) h H→lookH H kr = .cells true [sv',.int .i64 dp,.int .i64 0]→RdB H sv' bs'→K .mk (dig32 x) H):callP Try.prog 129 [.ptr kr 0] h K:=by
 obtain ⟨k,d,e,w,N,F,rfl,hr,hN,hF⟩:=hB
 have hlt:=lookH_lt hk (by simp)
 have hkk:=ne_cr hk hr
 refine callP_of_code tabOk Try.func129 (by kernel_rfl) rfl (Nat.le_of_ble_eq_true rfl) (codeP_of_vc (pl:=pl129) tabOk follows_mixed (by kernel_rfl) ?_)
 rw [Try.ntmps129]
 have z1:((0:Int) != 0) = false:=rfl
 by_cases c:bs.length < 32
 ·have z2:decide ((bs.length:Int) < 32) = true:=decide_eq_true (by omega)
  have hp:pDig bs = .error 3:=by unfold pDig; rw [if_pos c]
  simp -implicitDefEqProofs (maxSteps:=1000000) (disch:=omega) only [↓zzP,zzA,zzL,zzB,Nat.reduceSub,reduceIte,reduceCtorEq,Nat.reduceLT,↓reduceIte,Nat.reduceEqDiff,Nat.reduceLeDiff,↓gd,↓opP,↓qv,↓ef,↓stS,slot,putS,putO,ofV,fldA,lenS,asRow,rdF,Ent.row,ldS,sz,wrF,binH,binS2,binS,tupS,stor,res129,z1,z2,hk,lookH_at,putH_at,lookH_pA,lookH_pA0,putH_pA0]
  repeat (refine ⟨by omega,?_⟩)
  exact intoR_refl (by simp [putH_len]) (hE 3 hp _ _ _ (((Ext.refl (fun j=>j = kr) h).put (p:=kr) _ (.inl rfl)).app _) (by rw [lookH_at _ (by rw [putH_len]; exact hlt),lookH_put_same _ hlt]) (RdB.ext (RdB.put ⟨k,d,e,w,N,F,rfl,hr,hN,hF⟩ hk _) (extR_app _ _)))
 ·have z2:decide ((bs.length:Int) < 32) = false:=decide_eq_false (by omega)
  have hp:pDig bs = .ok (fun i=>bs.getD i 0,bs.drop 32):=by unfold pDig; rw [if_neg c]
  have hkl:=lookH_lt hr (by simp)
  have hst:∀ i,i < 32→stor (F (e+i)):=fun i hi=>by rw [hF i (by omega)]; trivial
  have hr2:∀ c,lookH (putH h kr c) k = .row w N 1 F:=fun c=>by rw [lookH_put_ne _ hkk]; exact hr
  simp -implicitDefEqProofs (maxSteps:=1000000) (disch:=omega) only [↓zzP,zzA,zzL,zzB,Nat.reduceSub,reduceIte,reduceCtorEq,Nat.reduceLT,Int.reduceLE,↓reduceIte,Nat.reduceEqDiff,Nat.reduceLeDiff,Int.reduceToNat,Array.reduceGetElem?,↓gd,↓opP,↓qv,↓ef,↓stS,↓cpS,slot,putS,putO,ofV,fldA,oslN,bnd,slS,lenS,asRow,rdF,Ent.row,ldS,sz,wrF,binH,binS2,binS,tupS,stor,qn,ldN,res129,pl129,z1,z2,hk,hr,lookH_at,putH_at,lookH_pA,lookH_pA0,putH_pA0]
  repeat (refine ⟨by omega,?_⟩)
  refine intoR_den (v':=dig32 fun i=>bs.getD i 0) (fun ρ=>den_fam fun i hi=>hF i (by omega)) (fun i hi=>⟨rfl,trivial⟩) (intoR_refl (by simp [putH_len]) (hO _ _ hp _ _ (((Ext.refl (fun j=>j = kr) h).put (p:=kr) _ (.inl rfl)).app _) (by rw [lookH_at _ (by rw [putH_len]; exact hlt),lookH_put_same _ hlt]) (RdB.ext (RdB.put (RdB.drop hr hN hF 32 e (by omega)) hk _) (extR_app _ _))))
end Go.Proofs.Ytgocfglmideobaa
set_option linter.all false
set_option maxRecDepth 40000
namespace Go.Proofs.Ytgocfglmideobaa
open Go Go.Sx
theorem res130:Try.f130.results.toList = [.tmp 2,.tmp 3,.tmp 4]:=rfl
theorem res157:Try.f157.results.toList = [.tmp 6,.tmp 7,.tmp 8]:=rfl
theorem tb_err {bs:List By} {most:Nat} {er:Int} (h:tb bs most = .error er):er ≠ 0:=by
 unfold tb at h
 split at h
 ·rename_i e he
  cases h
  exact tk_ne he
 ·split at h
  ·cases h; decide
  ·split at h
   ·cases h; decide
   ·cases h
theorem tb_ok {bs:List By} {most v:Nat} {c:List By} (h:tb bs most = .ok (c,v)):0 < v∧v≤bs.length∧c.length < v:=by
 unfold tb at h
 split at h
 ·cases h
 ·rename_i n u he
  have hu:=tk_ok he
  split at h
  ·cases h
  ·split at h
   ·cases h
   ·cases h
    rw [List.length_take,List.length_drop]
    omega
set_option maxHeartbeats 4000000 in
theorem c130 (bs:List By) (h:List Chunk) (k d e:Nat) (w:Bool) (N:Nat) (F:Nat→SV) (hr:lookH h k = .row w N 1 F) (hN:e+bs.length≤N) (hF:∀ i,i < bs.length→F (e+i) = .int .u8 (nat (bs.getD i 0))) (hl:bs.length≤35184372088832) (K:Tok→SV→List Chunk→Prop) (hE:∀ er,tb bs 8192 = .error er→∀ H x v,Ext (fun _=>False) h H→K .mk (.tup [x,.int .i64 v,.int .i64 er]) H) (hO:∀ c v,tb bs 8192 = .ok (c,v)→∀ H sv,Ext (fun _=>False) h H→RelBs (fresh h.length H) c sv→K .mk (.tup [sv,.int .i64 (v:Nat),.int .i64 0]) H):callP Try.prog 130 [.osl k d e 1 bs.length] h K:=by
 refine callP_of_code tabOk Try.func130 (by kernel_rfl) rfl (Nat.le_of_ble_eq_true rfl) (codeP_of_vc (pl:=np) tabOk follows_mixed (by kernel_rfl) ?_)
 rw [Try.ntmps130]
 simp -implicitDefEqProofs (maxSteps:=1000000) (disch:=omega) only [↓zzP,zzA,reduceIte,reduceCtorEq,Nat.reduceLT,↓reduceIte,↓gd,↓opP,↓qv,slot,putS,putO,ofV,tupS,res130]
 repeat (refine ⟨by omega,?_⟩)
 refine c156 bs h k d e w N F hr hN hF hl 8192 (by omega) _ (fun er he=>?_) (fun c v he H k' hE1 hk' hr1=>?_)
 ·simp -implicitDefEqProofs (maxSteps:=1000000) (disch:=omega) only [↓zzP,zzA,reduceIte,Nat.reduceLT,↓reduceIte,Nat.reduceEqDiff,Nat.reduceAdd,↓gd,↓opP,↓qv,slot,putS,putO]
  repeat (refine ⟨by omega,?_⟩)
  exact intoR_refl (Nat.le_refl _) (hE er he _ _ _ (Ext.refl _ _))
 ·simp -implicitDefEqProofs (maxSteps:=1000000) (disch:=omega) only [↓zzP,zzA,reduceIte,Nat.reduceLT,↓reduceIte,Nat.reduceEqDiff,Nat.reduceAdd,↓gd,↓opP,↓qv,slot,putS,putO]
  repeat (refine ⟨by omega,?_⟩)
  exact intoR_refl hE1.1 (hO c v he _ _ hE1 ⟨k',true,rfl,by rw [fresh_look,if_neg (by omega)]; exact hr1⟩)
def lp {α:Type} (q:List By→Except Int (α × Nat)):Nat→List By→Except Int (List α × List By)
 | 0,bs=>.ok ([],bs)
 | n+1,bs=>match q bs with
  | .error e=>.error e
  | .ok (x,k)=>match lp q n (bs.drop k) with
   | .error e=>.error e
   | .ok (xs,r)=>.ok (x :: xs,r)
def tl {α:Type} (q:List By→Except Int (α × Nat)) (most:Nat) (bs:List By):Except Int (List α × List By) :=
 match tk bs with
 | .error e=>.error e
 | .ok (n,u)=>if n.toNat > most then .error 18 else lp q n.toNat (bs.drop u)
theorem tl_e {α:Type} {q:List By→Except Int (α × Nat)} {most:Nat} {bs:List By} {er:Int} (h:tk bs = .error er):tl q most bs = .error er:=by unfold tl; rw [h]
theorem tl_o {α:Type} {q:List By→Except Int (α × Nat)} {most:Nat} {bs:List By} {n:BitVec 64} {u:Nat} (h:tk bs = .ok (n,u)):tl q most bs = if n.toNat > most then .error 18 else lp q n.toNat (bs.drop u):=by unfold tl; rw [h]
def pre {α:Type} (X:List α):Except Int (List α × List By)→Except Int (List α × List By)
 | .error e=>.error e
 | .ok (xs,r)=>.ok (X++xs,r)
theorem pre_nil {α:Type} (x:Except Int (List α × List By)):pre [] x = x:=by cases x <;> rfl
theorem lp_e {α:Type} {q:List By→Except Int (α × Nat)} {n:Nat} {bs:List By} {er:Int} (X:List α) (h:q bs = .error er):pre X (lp q (n+1) bs) = .error er:=by rw [lp,h]; rfl
theorem lp_o {α:Type} {q:List By→Except Int (α × Nat)} {n k:Nat} {bs:List By} {x:α} (X:List α) (h:q bs = .ok (x,k)):pre X (lp q (n+1) bs) = pre (X++[x]) (lp q n (bs.drop k)):=by
 rw [lp,h]
 show pre X (match lp q n (bs.drop k) with | .error e=>.error e | .ok (xs,r)=>.ok (x :: xs,r)) = _
 cases lp q n (bs.drop k) with
 | error e=>rfl
 | ok y=>simp [pre]
end Go.Proofs.Ytgocfglmideobaa
set_option linter.all false
set_option maxRecDepth 40000
namespace Go.Proofs.Ytgocfglmideobaa
open Go Go.Sx
set_option maxHeartbeats 8000000 in
theorem c157 (bs:List By) (h:List Chunk) (k d e:Nat) (w:Bool) (N:Nat) (F:Nat→SV) (hr:lookH h k = .row w N 1 F) (hN:e+bs.length≤N) (hF:∀ i,i < bs.length→F (e+i) = .int .u8 (nat (bs.getD i 0))) (hl:bs.length≤35184372088832) (most:Nat) (hm:most≤1024) (K:Tok→SV→List Chunk→Prop) (hE:∀ er,tl (fun b=>tb b 8192) most bs = .error er→∀ H v,Ext (fun _=>False) h H→K .mk (.tup [.v (.slice none 0 0),.int .i64 v,.int .i64 er]) H) (hO:∀ (X:List (List By)) v,v≤bs.length→tl (fun b=>tb b 8192) most bs = .ok (X,bs.drop v)→∀ H m (F2:Nat→SV),Ext (fun _=>False) h H→h.length≤m→lookH H m = .row true X.length 1 (F2)→(∀ i (hi:i < X.length),RelBs (fresh h.length H) X[i] (F2 i))→K .mk (.tup [.osl m 0 0 1 X.length,.int .i64 (v:Nat),.int .i64 0]) H):callP Try.prog 157 [.osl k d e 1 bs.length,.int .i64 (most:Nat),.fn (.func 130) [] []] h K:=by
 refine callP_of_code tabOk Try.func157 (by kernel_rfl) rfl (Nat.le_of_ble_eq_true rfl) (codeP_of_vc (pl:=np) tabOk follows_mixed (by kernel_rfl) ?_)
 rw [Try.ntmps157]
 simp -implicitDefEqProofs (maxSteps:=1000000) (disch:=omega) only [↓zzP,zzA,reduceIte,reduceCtorEq,Nat.reduceLT,↓reduceIte,Nat.reduceEqDiff,Nat.reduceAdd,↓gd,↓opP,↓qv,slot,putS,putO,ofV,nilS,nilEq,binH,binS2,binS,tupS,res157]
 repeat (refine ⟨by omega,?_⟩)
 refine c155 bs h k d e w N F hr hN hF hl _ (fun er he=>?_) (fun n u he=>?_)
 ·have z1:(er != 0) = true:=bne_iff_ne.2 (tk_ne he)
  simp -implicitDefEqProofs (maxSteps:=1000000) (disch:=omega) only [↓zzP,zzA,reduceIte,Nat.reduceLT,↓reduceIte,Nat.reduceEqDiff,Nat.reduceAdd,↓gd,↓opP,↓qv,slot,putS,putO,ofV,binH,binS2,binS,z1]
  repeat (refine ⟨by omega,?_⟩)
  exact intoR_refl (Nat.le_refl _) (hE er (tl_e he) _ _ (Ext.refl _ _))
 ·have hu:=tk_ok he
  have ht:=tl_o (q:=(fun b=>tb b 8192)) (most:=most) he
  have z1:((0:Int) != 0) = false:=rfl
  have z2:decide (((most:Nat):Int) < 0) = false:=decide_eq_false (by omega)
  have z3:IntKind.u64.wrap ((most:Nat):Int) = ((most:Nat):Int):=Go.Sx.wrap_small rfl (by omega) (by rw [show IntKind.u64.bits = 64 from rfl]; omega)
  by_cases c1:n.toNat > most
  ·have g1:decide (nat n > ((most:Nat):Int)) = true:=decide_eq_true (by unfold nat; omega)
   rw [if_pos c1] at ht
   simp -implicitDefEqProofs (maxSteps:=1000000) (disch:=omega) only [↓zzP,zzA,zzL,reduceIte,reduceCtorEq,Nat.reduceLT,↓reduceIte,Nat.reduceEqDiff,Nat.reduceAdd,Array.reduceGetElem?,↓gd,↓opP,↓qv,slot,putS,putO,ofV,convS,binH,binS2,binS,z1,z2,z3,g1]
   repeat (refine ⟨by omega,?_⟩)
   exact intoR_refl (Nat.le_refl _) (hE 18 ht _ _ (Ext.refl _ _))
  have g1:decide (nat n > ((most:Nat):Int)) = false:=decide_eq_false (by unfold nat; omega)
  rw [if_neg c1] at ht
  simp -implicitDefEqProofs (maxSteps:=1000000) (disch:=omega) only [↓zzP,zzA,zzL,reduceIte,reduceCtorEq,Nat.reduceLT,↓reduceIte,Nat.reduceEqDiff,Nat.reduceAdd,Array.reduceGetElem?,↓gd,↓opP,↓qv,slot,putS,putO,ofV,convS,binH,binS2,binS,z1,z2,z3,g1]
  repeat (refine ⟨by omega,?_⟩)
  refine codeP_loop (pl:=np) tabOk follows_mixed (by kernel_rfl) (fun z st=>∃ (n1 a:Nat) (X:List (List By)) (H:List Chunk) (m:Nat) (G:Nat→SV) (j:Nat→Value),z = n1∧a≤bs.length∧X.length+n1≤most∧pre X (lp (fun b=>tb b 8192) n1 (bs.drop a)) = tl (fun b=>tb b 8192) most bs∧Ext (fun _=>False) h H∧h.length≤m∧lookH H m = .row true X.length 1 (G)∧(∀ i (hi:i < X.length),RelBs (fresh h.length (putH H m .none)) X[i] (G i))∧st = ⟨⟨74,[(0,.osl k d e 1 bs.length),(2,.fn (.func 130) [] []),(9,.int .u64 (n1:Nat)),(10,.int .i64 (a:Nat)),(12,.osl m 0 0 1 X.length)],j⟩,H,[]⟩) ?_ ?_
  ·refine into_bind (J':=fun st=>∃ j,st = ⟨⟨74,[(0,.osl k d e 1 bs.length),(2,.fn (.func 130) [] []),(9,.int .u64 (nat n)),(10,.int .i64 (u:Nat)),(12,.v (.slice none 0 0))],j⟩,h,[]⟩) (into_keep [(0,.osl k d e 1 bs.length),(2,.fn (.func 130) [] []),(9,.int .u64 (nat n)),(10,.int .i64 (u:Nat)),(12,.v (.slice none 0 0))] (by simp [sameT,slot,lkL]) fun j=>⟨j,rfl⟩) ?_
   rintro _ ⟨j,rfl⟩
   refine into_nil [(0,.osl k d e 1 bs.length),(2,.fn (.func 130) [] []),(9,.int .u64 (nat n)),(10,.int .i64 (u:Nat)),(12,.osl h.length 0 0 1 0)] 1 (fun _=>.bool false) ?_ ?_ ?_
   ·intro ρ hρ
    simp [den,hρ]
   ·have:=lookH_lt hr (by simp)
    simp [okE,ok,okL]
    omega
   exact into_refl ⟨n.toNat,n.toNat,u,[],_,h.length,fun _=>.bool false,j,rfl,hu.2.1,by simp; omega,by rw [pre_nil,ht],(Ext.refl _ _).app _,Nat.le_refl _,lookH_end _ _,fun i hi=>absurd hi (Nat.not_lt_zero _),rfl⟩
  ·rintro z st ⟨n1,a,X,H,m,G,j,rfl,ha,hXn,hpre,hE0,hm0,hrow,hG,rfl⟩
   have hhl:=hE0.1
   have hmlt:=lookH_lt hrow (by simp)
   by_cases c2:0 < z
   ·obtain ⟨n2,rfl⟩:∃ n2,z = n2+1:=⟨z - 1,by omega⟩
    have g2:decide (((n2+1:Nat):Int) > 0) = true:=decide_eq_true (by omega)
    have hr1:=hE0.look hr (by simp) fun h=>h
    have hdl:(bs.drop a).length = bs.length - a:=List.length_drop ..
    have z8:IntKind.u64.wrap (((n2+1:Nat):Int) - 1) = (n2:Nat):=by
     rw [show ((n2+1:Nat):Int) - 1 = (n2:Nat) by omega]
     exact Go.Sx.wrap_small rfl (by omega) (by rw [show IntKind.u64.bits = 64 from rfl]; omega)
    obtain ⟨b2,hb2⟩:∃ b,b = bs.drop a:=⟨_,rfl⟩
    rw [← hb2] at hdl hpre
    have hF2:∀ i,i < b2.length→F (e+a+i) = .int .u8 (nat (b2.getD i 0)):=fun i hi=>by
     rw [Nat.add_assoc,hF _ (by omega),hb2]
     congr 2
     simp [List.getD,List.getElem?_drop]
    simp -implicitDefEqProofs (maxSteps:=1000000) (disch:=omega) only [↓zzP,zzA,zzL,reduceIte,reduceCtorEq,Nat.reduceLT,↓reduceIte,Nat.reduceEqDiff,↓gd,↓opP,↓qv,slot,putS,putO,ofV,bnd,slS,binH,binS2,binS,g2,hr1]
    repeat (refine ⟨by omega,?_⟩)
    rw [← hdl]
    refine c130 b2 H k _ (e+a) w N F hr1 (by omega) hF2 (by omega) _ (fun er he2 H1 x v hE1=>?_) (fun c v he2 H1 sv hE1 hrel=>?_)
    ·have z4:(er != 0) = true:=bne_iff_ne.2 (tb_err he2)
     rw [lp_e X he2] at hpre
     skip
     simp -implicitDefEqProofs (maxSteps:=1000000) (disch:=omega) only [↓zzP,zzA,reduceIte,reduceCtorEq,Nat.reduceLT,↓reduceIte,Nat.reduceEqDiff,Nat.reduceAdd,↓gd,↓opP,↓qv,slot,putS,putO,ofV,binH,binS2,binS,z4]
     repeat (refine ⟨by omega,?_⟩)
     exact intoR_refl (hE0.trans hE1).1 (hE er hpre.symm _ _ (hE0.trans hE1))
    ·have hv:=tb_ok he2
     rw [lp_o X he2] at hpre
     obtain ⟨kx,wx,rfl,hrx⟩:=id hrel
     have z4:((0:Int) != 0) = false:=rfl
     have z5:decide (((v:Nat):Int) < 1) = false:=decide_eq_false (by omega)
     have z6:IntKind.i64.wrap ((bs.length:Int) - (a:Int)) = ((b2.length:Nat):Int):=by rw [wrap64 (by omega) (by omega)]; omega
     have z7:decide (((v:Nat):Int) > ((b2.length:Nat):Int)) = false:=decide_eq_false (by omega)
     have z9:IntKind.i64.wrap ((a:Int)+(v:Int)) = ((a+v:Nat):Int):=by rw [wrap64 (by omega) (by omega)]; omega
     have hrow1:lookH H1 m = .row true X.length 1 (G):=hE1.look hrow (by simp) fun h=>h
     have hlt1:=lookH_lt hrow1 (by simp)
     simp -implicitDefEqProofs (maxSteps:=1000000) (disch:=omega) only [↓zzP,zzA,zzL,zzB,reduceIte,reduceCtorEq,Nat.reduceLT,↓reduceIte,Nat.reduceEqDiff,Nat.reduceLeDiff,Nat.reduceAdd,Array.reduceGetElem?,↓gd,↓opP,↓qv,↓ef,↓bslS,↓appS,slot,putS,putO,ofV,lenS,sz,srcS,binH,binS2,binS,stor,notInt,z4,z5,z6,z7,z8,z9,hrow1,lookH_at,putH_at]
     repeat (refine ⟨by omega,?_⟩)
     obtain ⟨LX,hLX⟩:∃ LX:SV,LX = .osl kx 0 0 1 c.length:=⟨_,rfl⟩
     refine into_sim (sim_two (c':=.row true (X.length+1) 1 ((fun j=>if j < X.length then G j else LX))) (chSim_row rfl fun j hj=>?_)) ?_
     ·by_cases c3:j < X.length
      ·rw [if_pos c3,if_pos c3]
      ·rw [if_neg c3,if_neg c3,hLX,show j - X.length = 0 by omega]; rfl
     rw [← hLX] at hrel
     have hE2:=hE0.trans hE1
     have hl1:=hE1.1
     obtain ⟨X2,hX2⟩:∃ X2,X2 = X++[c]:=⟨_,rfl⟩
     have hXl:X.length+1 = X2.length:=by rw [hX2,List.length_append]; rfl
     rw [hXl]
     rw [hb2,List.drop_drop,← hX2] at hpre
     refine into_keep [(0,.osl k d e 1 bs.length),(2,.fn (.func 130) [] []),(9,.int .u64 (n2:Nat)),(10,.int .i64 ((a+v):Nat)),(12,.osl (H1.length+1) 0 0 1 X2.length)] (by simp [sameT,slot,lkL]) fun j=>⟨n2,by omega,n2,a+v,X2,_,H1.length+1,_,j,rfl,by omega,by omega,hpre,(hE2.put _ (.inr hm0)).app _,by omega,lookH_pA _ _ _ _ 1,fun i hi=>?_,rfl⟩
     rw [putH_pA]
     by_cases c3:i < X.length
     ·have e:X2[i] = X[i]:=by simp [hX2,List.getElem_append_left c3]
      rw [e,if_pos c3]
      exact RelBs.mono _ _ _ _ (extR_f2 hE1 _) (hG i c3)
     ·have e:X2[i] = c:=by
       simp only [hX2]
       rw [List.getElem_append_right (by omega)]
       simp
      rw [e,if_neg c3]
      exact RelBs.mono _ _ _ _ (extR_f3 hhl hmlt _) hrel
   ·obtain rfl:z = 0:=by omega
    have g2:decide ((0:Int) > 0) = false:=rfl
    rw [lp] at hpre
    simp only [pre,List.append_nil] at hpre
    simp -implicitDefEqProofs (maxSteps:=1000000) (disch:=omega) only [↓zzP,zzA,zzL,zzB,reduceIte,reduceCtorEq,Nat.reduceLT,↓reduceIte,Nat.reduceEqDiff,↓gd,↓opP,↓qv,slot,putS,putO,ofV,binH,binS2,binS,g2]
    repeat (refine ⟨by omega,?_⟩)
    exact intoR_refl hhl (hO X a ha hpre.symm _ _ _ hE0 hm0 hrow fun i hi=>RelBs.mono _ _ _ _ extR_f1 (hG i hi))
end Go.Proofs.Ytgocfglmideobaa
set_option linter.all false
set_option maxRecDepth 40000
namespace Go.Proofs.Ytgocfglmideobaa
open Go Go.Sx
theorem res158:Try.f158.results.toList = [.tmp 6,.tmp 7,.tmp 8]:=rfl
theorem res159:Try.f159.results.toList = [.tmp 6,.tmp 7,.tmp 8]:=rfl
inductive Sl where
 | nil
 | at (k n:Nat)
def Sl.sv (s:Nat):Sl→SV
 | .nil=>.v (.slice none 0 0)
 | .at k n=>.osl k 0 0 s n
theorem Sl.sz (s:Nat) (x:Sl):Sx.sz (x.sv s) = 1:=by cases x <;> rfl
theorem Sl.parts (s:Nat) (x:Sl):Sx.parts (x.sv s) = [x.sv s]:=by cases x <;> rfl
theorem Sl.single (s:Nat) (x:Sl):Sx.single (x.sv s) = true:=by cases x <;> rfl
theorem Sl.stor (s:Nat) (x:Sl):Sx.stor (x.sv s) = True:=by cases x <;> simp [Sl.sv,Sx.stor,Value.oneCell']
def errM (l:List SV):Prop:=∃ (k f v s:Int) (d:Nat→By) (s5 s6 s7 s8:Sl) (key:Int) (of:Nat→By),l = [.int .i64 k,.int .i64 f,.int .i64 v,.int .i64 s,.fam 32 1 fun i=>.int .u8 (nat (d i)),s5.sv 1,s6.sv 1,s7.sv 73,s8.sv 74,.int .i64 key,.fam 32 1 fun i=>.int .u8 (nat (of i))]
def ErrM (x:SV):Prop:=∃ l,x = .agg l∧errM l
def ErrP (x:SV):Prop:=∃ l s9,x = .agg (l++[Sl.sv 73 s9])∧errM l
abbrev QAt {α:Type} (f kr:Nat) (h:List Chunk) (Rel:List Chunk→α→SV→Prop) (Err:SV→Prop) (q:List By→Except Int (α × Nat)):Prop :=
 ∀ (b2:List By) (H:List Chunk) (k d e:Nat) (w:Bool) (N:Nat) (F:Nat→SV),Ext (fun _=>False) h H→lookH H k = .row w N 1 F→e+b2.length≤N→(∀ i,i < b2.length→F (e+i) = .int .u8 (nat (b2.getD i 0)))→b2.length≤35184372088832→∀ (K:Tok→SV→List Chunk→Prop),
 (∀ er,q b2 = .error er→er ≠ 0→∀ H1 x v,Ext (fun _=>False) H H1→Err x→K .mk (.tup [x,.int .i64 v,.int .i64 er]) H1) →
 (∀ c v,q b2 = .ok (c,v)→(0 < v∧v≤b2.length)→∀ H1 sv,Ext (fun _=>False) H H1→Rel (fresh H.length H1) c sv→K .mk (.tup [sv,.int .i64 (v:Nat),.int .i64 0]) H1) →
 callP Try.prog f [.ptr kr 0,.osl k d e 1 b2.length] H K
set_option maxHeartbeats 8000000 in
theorem c158 (bs:List By) (h:List Chunk) (k d e:Nat) (w:Bool) (N:Nat) (F:Nat→SV) (hr:lookH h k = .row w N 1 F) (hN:e+bs.length≤N) (hF:∀ i,i < bs.length→F (e+i) = .int .u8 (nat (bs.getD i 0))) (hl:bs.length≤35184372088832) (kr:Nat) (hkr:kr < h.length) (q:List By→Except Int (Msg × Nat)) (hq:QAt 134 kr h RelM ErrM q) (most:Nat) (hm:most≤1024) (K:Tok→SV→List Chunk→Prop) (hE:∀ er,tl q most bs = .error er→∀ H v,Ext (fun _=>False) h H→K .mk (.tup [.v (.slice none 0 0),.int .i64 v,.int .i64 er]) H) (hO:∀ (X:List Msg) v,v≤bs.length→tl q most bs = .ok (X,bs.drop v)→∀ H m (F2:Nat→List SV),Ext (fun _=>False) h H→h.length≤m→lookH H m = .row true X.length 73 (fun i=>.agg (F2 i))→(∀ i (hi:i < X.length),RelM (fresh h.length H) X[i] (.agg (F2 i)))→K .mk (.tup [.osl m 0 0 73 X.length,.int .i64 (v:Nat),.int .i64 0]) H):callP Try.prog 158 [.osl k d e 1 bs.length,.int .i64 (most:Nat),.fn (.func 134) [.ptr kr 0] []] h K:=by
 refine callP_of_code tabOk Try.func158 (by kernel_rfl) rfl (Nat.le_of_ble_eq_true rfl) (codeP_of_vc (pl:=np) tabOk follows_mixed (by kernel_rfl) ?_)
 rw [Try.ntmps158]
 simp -implicitDefEqProofs (maxSteps:=1000000) (disch:=omega) only [↓zzP,zzA,reduceIte,reduceCtorEq,Nat.reduceLT,↓reduceIte,Nat.reduceEqDiff,Nat.reduceAdd,↓gd,↓opP,↓qv,slot,putS,putO,ofV,nilS,nilEq,binH,binS2,binS,tupS,res158]
 repeat (refine ⟨by omega,?_⟩)
 refine c155 bs h k d e w N F hr hN hF hl _ (fun er he=>?_) (fun n u he=>?_)
 ·have z1:(er != 0) = true:=bne_iff_ne.2 (tk_ne he)
  simp -implicitDefEqProofs (maxSteps:=1000000) (disch:=omega) only [↓zzP,zzA,reduceIte,Nat.reduceLT,↓reduceIte,Nat.reduceEqDiff,Nat.reduceAdd,↓gd,↓opP,↓qv,slot,putS,putO,ofV,binH,binS2,binS,z1]
  repeat (refine ⟨by omega,?_⟩)
  exact intoR_refl (Nat.le_refl _) (hE er (tl_e he) _ _ (Ext.refl _ _))
 ·have hu:=tk_ok he
  have ht:=tl_o (q:=q) (most:=most) he
  have z1:((0:Int) != 0) = false:=rfl
  have z2:decide (((most:Nat):Int) < 0) = false:=decide_eq_false (by omega)
  have z3:IntKind.u64.wrap ((most:Nat):Int) = ((most:Nat):Int):=Go.Sx.wrap_small rfl (by omega) (by rw [show IntKind.u64.bits = 64 from rfl]; omega)
  by_cases c1:n.toNat > most
  ·have g1:decide (nat n > ((most:Nat):Int)) = true:=decide_eq_true (by unfold nat; omega)
   rw [if_pos c1] at ht
   simp -implicitDefEqProofs (maxSteps:=1000000) (disch:=omega) only [↓zzP,zzA,zzL,reduceIte,reduceCtorEq,Nat.reduceLT,↓reduceIte,Nat.reduceEqDiff,Nat.reduceAdd,Array.reduceGetElem?,↓gd,↓opP,↓qv,slot,putS,putO,ofV,convS,binH,binS2,binS,z1,z2,z3,g1]
   repeat (refine ⟨by omega,?_⟩)
   exact intoR_refl (Nat.le_refl _) (hE 18 ht _ _ (Ext.refl _ _))
  have g1:decide (nat n > ((most:Nat):Int)) = false:=decide_eq_false (by unfold nat; omega)
  rw [if_neg c1] at ht
  simp -implicitDefEqProofs (maxSteps:=1000000) (disch:=omega) only [↓zzP,zzA,zzL,reduceIte,reduceCtorEq,Nat.reduceLT,↓reduceIte,Nat.reduceEqDiff,Nat.reduceAdd,Array.reduceGetElem?,↓gd,↓opP,↓qv,slot,putS,putO,ofV,convS,binH,binS2,binS,z1,z2,z3,g1]
  repeat (refine ⟨by omega,?_⟩)
  refine codeP_loop (pl:=np) tabOk follows_mixed (by kernel_rfl) (fun z st=>∃ (n1 a:Nat) (X:List Msg) (H:List Chunk) (m:Nat) (G:Nat→List SV) (j:Nat→Value),z = n1∧a≤bs.length∧X.length+n1≤most∧pre X (lp q n1 (bs.drop a)) = tl q most bs∧Ext (fun _=>False) h H∧h.length≤m∧lookH H m = .row true X.length 73 (fun i=>.agg (G i))∧(∀ i (hi:i < X.length),RelM (fresh h.length (putH H m .none)) X[i] (.agg (G i)))∧st = ⟨⟨74,[(0,.osl k d e 1 bs.length),(2,.fn (.func 134) [.ptr kr 0] []),(9,.int .u64 (n1:Nat)),(10,.int .i64 (a:Nat)),(12,.osl m 0 0 73 X.length)],j⟩,H,[]⟩) ?_ ?_
  ·refine into_bind (J':=fun st=>∃ j,st = ⟨⟨74,[(0,.osl k d e 1 bs.length),(2,.fn (.func 134) [.ptr kr 0] []),(9,.int .u64 (nat n)),(10,.int .i64 (u:Nat)),(12,.v (.slice none 0 0))],j⟩,h,[]⟩) (into_keep [(0,.osl k d e 1 bs.length),(2,.fn (.func 134) [.ptr kr 0] []),(9,.int .u64 (nat n)),(10,.int .i64 (u:Nat)),(12,.v (.slice none 0 0))] (by simp [sameT,slot,lkL]) fun j=>⟨j,rfl⟩) ?_
   rintro _ ⟨j,rfl⟩
   refine into_nil [(0,.osl k d e 1 bs.length),(2,.fn (.func 134) [.ptr kr 0] []),(9,.int .u64 (nat n)),(10,.int .i64 (u:Nat)),(12,.osl h.length 0 0 73 0)] 73 (fun i=>.agg ((fun _=>[]) i)) ?_ ?_ ?_
   ·intro ρ hρ
    simp [den,hρ]
   ·have:=lookH_lt hr (by simp)
    simp [okE,ok,okL]
    omega
   exact into_refl ⟨n.toNat,n.toNat,u,[],_,h.length,fun _=>[],j,rfl,hu.2.1,by simp; omega,by rw [pre_nil,ht],(Ext.refl _ _).app _,Nat.le_refl _,lookH_end _ _,fun i hi=>absurd hi (Nat.not_lt_zero _),rfl⟩
  ·rintro z st ⟨n1,a,X,H,m,G,j,rfl,ha,hXn,hpre,hE0,hm0,hrow,hG,rfl⟩
   have hhl:=hE0.1
   have hmlt:=lookH_lt hrow (by simp)
   by_cases c2:0 < z
   ·obtain ⟨n2,rfl⟩:∃ n2,z = n2+1:=⟨z - 1,by omega⟩
    have g2:decide (((n2+1:Nat):Int) > 0) = true:=decide_eq_true (by omega)
    have hr1:=hE0.look hr (by simp) fun h=>h
    have hdl:(bs.drop a).length = bs.length - a:=List.length_drop ..
    have z8:IntKind.u64.wrap (((n2+1:Nat):Int) - 1) = (n2:Nat):=by
     rw [show ((n2+1:Nat):Int) - 1 = (n2:Nat) by omega]
     exact Go.Sx.wrap_small rfl (by omega) (by rw [show IntKind.u64.bits = 64 from rfl]; omega)
    obtain ⟨b2,hb2⟩:∃ b,b = bs.drop a:=⟨_,rfl⟩
    rw [← hb2] at hdl hpre
    have hF2:∀ i,i < b2.length→F (e+a+i) = .int .u8 (nat (b2.getD i 0)):=fun i hi=>by
     rw [Nat.add_assoc,hF _ (by omega),hb2]
     congr 2
     simp [List.getD,List.getElem?_drop]
    simp -implicitDefEqProofs (maxSteps:=1000000) (disch:=omega) only [↓zzP,zzA,zzL,reduceIte,reduceCtorEq,Nat.reduceLT,↓reduceIte,Nat.reduceEqDiff,↓gd,↓opP,↓qv,slot,putS,putO,ofV,bnd,slS,binH,binS2,binS,g2,hr1]
    repeat (refine ⟨by omega,?_⟩)
    rw [← hdl]
    refine hq b2 H k _ (e+a) w N F hE0 hr1 (by omega) hF2 (by omega) _ (fun er he2 hne H1 x v hE1 herr=>?_) (fun c v he2 hvv H1 sv hE1 hrel=>?_)
    ·have z4:(er != 0) = true:=bne_iff_ne.2 hne
     rw [lp_e X he2] at hpre
     obtain ⟨lx,rfl,yk,yf,yv,ys,yd,s5,s6,s7,s8,ykey,yof,rfl⟩:=herr
     simp -implicitDefEqProofs (maxSteps:=1000000) (disch:=omega) only [↓zzP,zzA,zzL,zzB,Nat.reduceSub,reduceIte,reduceCtorEq,Nat.reduceLT,↓reduceIte,Nat.reduceEqDiff,Nat.reduceLeDiff,Nat.reduceAdd,↓gd,↓opP,↓qv,↓ef,↓stS,slot,putS,putO,ofV,sz,wrF,binH,binS2,binS,stor,z4,Sl.sz,Sl.stor]
     repeat (refine ⟨by omega,?_⟩)
     exact intoR_refl (Nat.le_trans (hE0.trans hE1).1 (by simp)) (hE er hpre.symm _ _ ((hE0.trans hE1).app _))
    ·have hv:=hvv
     rw [lp_o X he2] at hpre
     obtain ⟨lx,rfl,hmx,hwx⟩:=id hrel
     obtain ⟨xk,xf,xv,xs,xd,xkb,xnb,xkbs,xnbs,xkp,xnp,xkq,xnq,xkey,xof,rfl⟩:=hmx.open
     have z4:((0:Int) != 0) = false:=rfl
     have z5:decide (((v:Nat):Int) < 1) = false:=decide_eq_false (by omega)
     have z6:IntKind.i64.wrap ((bs.length:Int) - (a:Int)) = ((b2.length:Nat):Int):=by rw [wrap64 (by omega) (by omega)]; omega
     have z7:decide (((v:Nat):Int) > ((b2.length:Nat):Int)) = false:=decide_eq_false (by omega)
     have z9:IntKind.i64.wrap ((a:Int)+(v:Int)) = ((a+v:Nat):Int):=by rw [wrap64 (by omega) (by omega)]; omega
     have hrow1:lookH H1 m = .row true X.length 73 (fun i=>.agg (G i)):=hE1.look hrow (by simp) fun h=>h
     have hlt1:=lookH_lt hrow1 (by simp)
     simp -implicitDefEqProofs (maxSteps:=1000000) (disch:=omega) only [↓zzP,zzA,zzL,zzB,Nat.reduceSub,reduceIte,reduceCtorEq,Nat.reduceMul,Nat.reduceLT,↓reduceIte,Nat.reduceEqDiff,Nat.reduceLeDiff,Nat.reduceAdd,Array.reduceGetElem?,↓gd,↓opP,↓qv,↓ef,↓bslS,↓stS,↓appS,slot,putS,putO,ofV,lenS,rdF,Ent.row,ldS,sz,wrF,srcS,binH,binS2,binS,stor,notInt,z4,z5,z6,z7,z8,z9,hrow1,lookH_at,putH_at]
     repeat (refine ⟨by omega,?_⟩)
     obtain ⟨LX,hLX⟩:∃ LX:List SV,LX = [.int .i64 xk,.int .i64 xf,.int .i64 xv,.int .i64 xs,.fam 32 1 fun i=>.int .u8 (nat (xd i)),.osl xkb 0 0 1 xnb,.osl xkbs 0 0 1 xnbs,.osl xkp 0 0 73 xnp,.osl xkq 0 0 74 xnq,.int .i64 xkey,.fam 32 1 fun i=>.int .u8 (nat (xof i))]:=⟨_,rfl⟩
     refine into_sim (sim_3 (c':=.row true (X.length+1) 73 (fun j=>.agg (if j < X.length then G j else LX))) (chSim_row rfl fun j hj=>?_)) ?_
     ·by_cases c3:j < X.length
      ·rw [if_pos c3,if_pos c3]
      ·rw [if_neg c3,if_neg c3,hLX,show j - X.length = 0 by omega]; rfl
     rw [← hLX] at hrel
     have hE2:=hE0.trans hE1
     have hl1:=hE1.1
     obtain ⟨X2,hX2⟩:∃ X2,X2 = X++[c]:=⟨_,rfl⟩
     have hXl:X.length+1 = X2.length:=by rw [hX2,List.length_append]; rfl
     rw [hXl]
     rw [hb2,List.drop_drop,← hX2] at hpre
     refine into_keep [(0,.osl k d e 1 bs.length),(2,.fn (.func 134) [.ptr kr 0] []),(9,.int .u64 (n2:Nat)),(10,.int .i64 ((a+v):Nat)),(12,.osl (H1.length+2) 0 0 73 X2.length)] (by simp [sameT,slot,lkL]) fun j=>⟨n2,by omega,n2,a+v,X2,_,H1.length+2,_,j,rfl,by omega,by omega,hpre,(hE2.put _ (.inr hm0)).app _,by omega,lookH_pA _ _ _ _ 2,fun i hi=>?_,rfl⟩
     rw [putH_pA]
     by_cases c3:i < X.length
     ·have e:X2[i] = X[i]:=by simp [hX2,List.getElem_append_left c3]
      rw [e,if_pos c3]
      exact RelM.mono _ _ _ _ (extR_f2 hE1 _) (hG i c3)
     ·have e:X2[i] = c:=by
       simp only [hX2]
       rw [List.getElem_append_right (by omega)]
       simp
      rw [e,if_neg c3]
      exact RelM.mono _ _ _ _ (extR_f3 hhl hmlt _) hrel
   ·obtain rfl:z = 0:=by omega
    have g2:decide ((0:Int) > 0) = false:=rfl
    rw [lp] at hpre
    simp only [pre,List.append_nil] at hpre
    simp -implicitDefEqProofs (maxSteps:=1000000) (disch:=omega) only [↓zzP,zzA,zzL,zzB,reduceIte,reduceCtorEq,Nat.reduceLT,↓reduceIte,Nat.reduceEqDiff,↓gd,↓opP,↓qv,slot,putS,putO,ofV,binH,binS2,binS,g2]
    repeat (refine ⟨by omega,?_⟩)
    exact intoR_refl hhl (hO X a ha hpre.symm _ _ _ hE0 hm0 hrow fun i hi=>RelM.mono _ _ _ _ extR_f1 (hG i hi))
set_option maxHeartbeats 8000000 in
theorem c159 (bs:List By) (h:List Chunk) (k d e:Nat) (w:Bool) (N:Nat) (F:Nat→SV) (hr:lookH h k = .row w N 1 F) (hN:e+bs.length≤N) (hF:∀ i,i < bs.length→F (e+i) = .int .u8 (nat (bs.getD i 0))) (hl:bs.length≤35184372088832) (kr:Nat) (hkr:kr < h.length) (q:List By→Except Int ((Msg × List Msg) × Nat)) (hq:QAt 136 kr h RelP ErrP q) (most:Nat) (hm:most≤1024) (K:Tok→SV→List Chunk→Prop) (hE:∀ er,tl q most bs = .error er→∀ H v,Ext (fun _=>False) h H→K .mk (.tup [.v (.slice none 0 0),.int .i64 v,.int .i64 er]) H) (hO:∀ (X:List (Msg × List Msg)) v,v≤bs.length→tl q most bs = .ok (X,bs.drop v)→∀ H m (F2:Nat→List SV),Ext (fun _=>False) h H→h.length≤m→lookH H m = .row true X.length 74 (fun i=>.agg (F2 i))→(∀ i (hi:i < X.length),RelP (fresh h.length H) X[i] (.agg (F2 i)))→K .mk (.tup [.osl m 0 0 74 X.length,.int .i64 (v:Nat),.int .i64 0]) H):callP Try.prog 159 [.osl k d e 1 bs.length,.int .i64 (most:Nat),.fn (.func 136) [.ptr kr 0] []] h K:=by
 refine callP_of_code tabOk Try.func159 (by kernel_rfl) rfl (Nat.le_of_ble_eq_true rfl) (codeP_of_vc (pl:=np) tabOk follows_mixed (by kernel_rfl) ?_)
 rw [Try.ntmps159]
 simp -implicitDefEqProofs (maxSteps:=1000000) (disch:=omega) only [↓zzP,zzA,reduceIte,reduceCtorEq,Nat.reduceLT,↓reduceIte,Nat.reduceEqDiff,Nat.reduceAdd,↓gd,↓opP,↓qv,slot,putS,putO,ofV,nilS,nilEq,binH,binS2,binS,tupS,res159]
 repeat (refine ⟨by omega,?_⟩)
 refine c155 bs h k d e w N F hr hN hF hl _ (fun er he=>?_) (fun n u he=>?_)
 ·have z1:(er != 0) = true:=bne_iff_ne.2 (tk_ne he)
  simp -implicitDefEqProofs (maxSteps:=1000000) (disch:=omega) only [↓zzP,zzA,reduceIte,Nat.reduceLT,↓reduceIte,Nat.reduceEqDiff,Nat.reduceAdd,↓gd,↓opP,↓qv,slot,putS,putO,ofV,binH,binS2,binS,z1]
  repeat (refine ⟨by omega,?_⟩)
  exact intoR_refl (Nat.le_refl _) (hE er (tl_e he) _ _ (Ext.refl _ _))
 ·have hu:=tk_ok he
  have ht:=tl_o (q:=q) (most:=most) he
  have z1:((0:Int) != 0) = false:=rfl
  have z2:decide (((most:Nat):Int) < 0) = false:=decide_eq_false (by omega)
  have z3:IntKind.u64.wrap ((most:Nat):Int) = ((most:Nat):Int):=Go.Sx.wrap_small rfl (by omega) (by rw [show IntKind.u64.bits = 64 from rfl]; omega)
  by_cases c1:n.toNat > most
  ·have g1:decide (nat n > ((most:Nat):Int)) = true:=decide_eq_true (by unfold nat; omega)
   rw [if_pos c1] at ht
   simp -implicitDefEqProofs (maxSteps:=1000000) (disch:=omega) only [↓zzP,zzA,zzL,reduceIte,reduceCtorEq,Nat.reduceLT,↓reduceIte,Nat.reduceEqDiff,Nat.reduceAdd,Array.reduceGetElem?,↓gd,↓opP,↓qv,slot,putS,putO,ofV,convS,binH,binS2,binS,z1,z2,z3,g1]
   repeat (refine ⟨by omega,?_⟩)
   exact intoR_refl (Nat.le_refl _) (hE 18 ht _ _ (Ext.refl _ _))
  have g1:decide (nat n > ((most:Nat):Int)) = false:=decide_eq_false (by unfold nat; omega)
  rw [if_neg c1] at ht
  simp -implicitDefEqProofs (maxSteps:=1000000) (disch:=omega) only [↓zzP,zzA,zzL,reduceIte,reduceCtorEq,Nat.reduceLT,↓reduceIte,Nat.reduceEqDiff,Nat.reduceAdd,Array.reduceGetElem?,↓gd,↓opP,↓qv,slot,putS,putO,ofV,convS,binH,binS2,binS,z1,z2,z3,g1]
  repeat (refine ⟨by omega,?_⟩)
  refine codeP_loop (pl:=np) tabOk follows_mixed (by kernel_rfl) (fun z st=>∃ (n1 a:Nat) (X:List (Msg × List Msg)) (H:List Chunk) (m:Nat) (G:Nat→List SV) (j:Nat→Value),z = n1∧a≤bs.length∧X.length+n1≤most∧pre X (lp q n1 (bs.drop a)) = tl q most bs∧Ext (fun _=>False) h H∧h.length≤m∧lookH H m = .row true X.length 74 (fun i=>.agg (G i))∧(∀ i (hi:i < X.length),RelP (fresh h.length (putH H m .none)) X[i] (.agg (G i)))∧st = ⟨⟨74,[(0,.osl k d e 1 bs.length),(2,.fn (.func 136) [.ptr kr 0] []),(9,.int .u64 (n1:Nat)),(10,.int .i64 (a:Nat)),(12,.osl m 0 0 74 X.length)],j⟩,H,[]⟩) ?_ ?_
  ·refine into_bind (J':=fun st=>∃ j,st = ⟨⟨74,[(0,.osl k d e 1 bs.length),(2,.fn (.func 136) [.ptr kr 0] []),(9,.int .u64 (nat n)),(10,.int .i64 (u:Nat)),(12,.v (.slice none 0 0))],j⟩,h,[]⟩) (into_keep [(0,.osl k d e 1 bs.length),(2,.fn (.func 136) [.ptr kr 0] []),(9,.int .u64 (nat n)),(10,.int .i64 (u:Nat)),(12,.v (.slice none 0 0))] (by simp [sameT,slot,lkL]) fun j=>⟨j,rfl⟩) ?_
   rintro _ ⟨j,rfl⟩
   refine into_nil [(0,.osl k d e 1 bs.length),(2,.fn (.func 136) [.ptr kr 0] []),(9,.int .u64 (nat n)),(10,.int .i64 (u:Nat)),(12,.osl h.length 0 0 74 0)] 74 (fun i=>.agg ((fun _=>[]) i)) ?_ ?_ ?_
   ·intro ρ hρ
    simp [den,hρ]
   ·have:=lookH_lt hr (by simp)
    simp [okE,ok,okL]
    omega
   exact into_refl ⟨n.toNat,n.toNat,u,[],_,h.length,fun _=>[],j,rfl,hu.2.1,by simp; omega,by rw [pre_nil,ht],(Ext.refl _ _).app _,Nat.le_refl _,lookH_end _ _,fun i hi=>absurd hi (Nat.not_lt_zero _),rfl⟩
  ·rintro z st ⟨n1,a,X,H,m,G,j,rfl,ha,hXn,hpre,hE0,hm0,hrow,hG,rfl⟩
   have hhl:=hE0.1
   have hmlt:=lookH_lt hrow (by simp)
   by_cases c2:0 < z
   ·obtain ⟨n2,rfl⟩:∃ n2,z = n2+1:=⟨z - 1,by omega⟩
    have g2:decide (((n2+1:Nat):Int) > 0) = true:=decide_eq_true (by omega)
    have hr1:=hE0.look hr (by simp) fun h=>h
    have hdl:(bs.drop a).length = bs.length - a:=List.length_drop ..
    have z8:IntKind.u64.wrap (((n2+1:Nat):Int) - 1) = (n2:Nat):=by
     rw [show ((n2+1:Nat):Int) - 1 = (n2:Nat) by omega]
     exact Go.Sx.wrap_small rfl (by omega) (by rw [show IntKind.u64.bits = 64 from rfl]; omega)
    obtain ⟨b2,hb2⟩:∃ b,b = bs.drop a:=⟨_,rfl⟩
    rw [← hb2] at hdl hpre
    have hF2:∀ i,i < b2.length→F (e+a+i) = .int .u8 (nat (b2.getD i 0)):=fun i hi=>by
     rw [Nat.add_assoc,hF _ (by omega),hb2]
     congr 2
     simp [List.getD,List.getElem?_drop]
    simp -implicitDefEqProofs (maxSteps:=1000000) (disch:=omega) only [↓zzP,zzA,zzL,reduceIte,reduceCtorEq,Nat.reduceLT,↓reduceIte,Nat.reduceEqDiff,↓gd,↓opP,↓qv,slot,putS,putO,ofV,bnd,slS,binH,binS2,binS,g2,hr1]
    repeat (refine ⟨by omega,?_⟩)
    rw [← hdl]
    refine hq b2 H k _ (e+a) w N F hE0 hr1 (by omega) hF2 (by omega) _ (fun er he2 hne H1 x v hE1 herr=>?_) (fun c v he2 hvv H1 sv hE1 hrel=>?_)
    ·have z4:(er != 0) = true:=bne_iff_ne.2 hne
     rw [lp_e X he2] at hpre
     obtain ⟨lx,s9,rfl,yk,yf,yv,ys,yd,s5,s6,s7,s8,ykey,yof,rfl⟩:=herr
     simp only [List.cons_append,List.nil_append]
     simp -implicitDefEqProofs (maxSteps:=1000000) (disch:=omega) only [↓zzP,zzA,zzL,zzB,Nat.reduceSub,reduceIte,reduceCtorEq,Nat.reduceLT,↓reduceIte,Nat.reduceEqDiff,Nat.reduceLeDiff,Nat.reduceAdd,↓gd,↓opP,↓qv,↓ef,↓stS,slot,putS,putO,ofV,sz,wrF,binH,binS2,binS,stor,z4,Sl.sz,Sl.stor]
     repeat (refine ⟨by omega,?_⟩)
     exact intoR_refl (Nat.le_trans (hE0.trans hE1).1 (by simp)) (hE er hpre.symm _ _ ((hE0.trans hE1).app _))
    ·have hv:=hvv
     rw [lp_o X he2] at hpre
     obtain ⟨lx,rfl,⟨lm,xkl,wl,fl,rfl,hmx,hrl,hls⟩,hwx⟩:=id hrel
     obtain ⟨xk,xf,xv,xs,xd,xkb,xnb,xkbs,xnbs,xkp,xnp,xkq,xnq,xkey,xof,rfl⟩:=hmx.open
     simp only [List.cons_append,List.nil_append] at hrel ⊢
     have z4:((0:Int) != 0) = false:=rfl
     have z5:decide (((v:Nat):Int) < 1) = false:=decide_eq_false (by omega)
     have z6:IntKind.i64.wrap ((bs.length:Int) - (a:Int)) = ((b2.length:Nat):Int):=by rw [wrap64 (by omega) (by omega)]; omega
     have z7:decide (((v:Nat):Int) > ((b2.length:Nat):Int)) = false:=decide_eq_false (by omega)
     have z9:IntKind.i64.wrap ((a:Int)+(v:Int)) = ((a+v:Nat):Int):=by rw [wrap64 (by omega) (by omega)]; omega
     have hrow1:lookH H1 m = .row true X.length 74 (fun i=>.agg (G i)):=hE1.look hrow (by simp) fun h=>h
     have hlt1:=lookH_lt hrow1 (by simp)
     simp -implicitDefEqProofs (maxSteps:=1000000) (disch:=omega) only [↓zzP,zzA,zzL,zzB,Nat.reduceSub,reduceIte,reduceCtorEq,Nat.reduceMul,Nat.reduceLT,↓reduceIte,Nat.reduceEqDiff,Nat.reduceLeDiff,Nat.reduceAdd,Array.reduceGetElem?,↓gd,↓opP,↓qv,↓ef,↓bslS,↓stS,↓appS,slot,putS,putO,ofV,lenS,rdF,Ent.row,ldS,sz,wrF,srcS,binH,binS2,binS,stor,notInt,z4,z5,z6,z7,z8,z9,hrow1,lookH_at,putH_at]
     repeat (refine ⟨by omega,?_⟩)
     obtain ⟨LX,hLX⟩:∃ LX:List SV,LX = [.int .i64 xk,.int .i64 xf,.int .i64 xv,.int .i64 xs,.fam 32 1 fun i=>.int .u8 (nat (xd i)),.osl xkb 0 0 1 xnb,.osl xkbs 0 0 1 xnbs,.osl xkp 0 0 73 xnp,.osl xkq 0 0 74 xnq,.int .i64 xkey,.fam 32 1 fun i=>.int .u8 (nat (xof i)),.osl xkl 0 0 73 c.2.length]:=⟨_,rfl⟩
     refine into_sim (sim_3 (c':=.row true (X.length+1) 74 (fun j=>.agg (if j < X.length then G j else LX))) (chSim_row rfl fun j hj=>?_)) ?_
     ·by_cases c3:j < X.length
      ·rw [if_pos c3,if_pos c3]
      ·rw [if_neg c3,if_neg c3,hLX,show j - X.length = 0 by omega]; rfl
     rw [← hLX] at hrel
     have hE2:=hE0.trans hE1
     have hl1:=hE1.1
     obtain ⟨X2,hX2⟩:∃ X2,X2 = X++[c]:=⟨_,rfl⟩
     have hXl:X.length+1 = X2.length:=by rw [hX2,List.length_append]; rfl
     rw [hXl]
     rw [hb2,List.drop_drop,← hX2] at hpre
     refine into_keep [(0,.osl k d e 1 bs.length),(2,.fn (.func 136) [.ptr kr 0] []),(9,.int .u64 (n2:Nat)),(10,.int .i64 ((a+v):Nat)),(12,.osl (H1.length+2) 0 0 74 X2.length)] (by simp [sameT,slot,lkL]) fun j=>⟨n2,by omega,n2,a+v,X2,_,H1.length+2,_,j,rfl,by omega,by omega,hpre,(hE2.put _ (.inr hm0)).app _,by omega,lookH_pA _ _ _ _ 2,fun i hi=>?_,rfl⟩
     rw [putH_pA]
     by_cases c3:i < X.length
     ·have e:X2[i] = X[i]:=by simp [hX2,List.getElem_append_left c3]
      rw [e,if_pos c3]
      exact RelP.mono _ _ _ _ (extR_f2 hE1 _) (hG i c3)
     ·have e:X2[i] = c:=by
       simp only [hX2]
       rw [List.getElem_append_right (by omega)]
       simp
      rw [e,if_neg c3]
      exact RelP.mono _ _ _ _ (extR_f3 hhl hmlt _) hrel
   ·obtain rfl:z = 0:=by omega
    have g2:decide ((0:Int) > 0) = false:=rfl
    rw [lp] at hpre
    simp only [pre,List.append_nil] at hpre
    simp -implicitDefEqProofs (maxSteps:=1000000) (disch:=omega) only [↓zzP,zzA,zzL,zzB,reduceIte,reduceCtorEq,Nat.reduceLT,↓reduceIte,Nat.reduceEqDiff,↓gd,↓opP,↓qv,slot,putS,putO,ofV,binH,binS2,binS,g2]
    repeat (refine ⟨by omega,?_⟩)
    exact intoR_refl hhl (hO X a ha hpre.symm _ _ _ hE0 hm0 hrow fun i hi=>RelP.mono _ _ _ _ extR_f1 (hG i hi))
end Go.Proofs.Ytgocfglmideobaa
set_option linter.all false
set_option maxRecDepth 40000
namespace Go.Proofs.Ytgocfglmideobaa
open Go Go.Sx
theorem res132:Try.f132.results.toList = [.tmp 6]:=rfl
theorem res133:Try.f133.results.toList = [.tmp 6]:=rfl
theorem res135:Try.f135.results.toList = [.tmp 6]:=rfl
theorem lp_err {α:Type} {q:List By→Except Int (α × Nat)} (hq:∀ b er,q b = .error er→er ≠ 0):∀ {n:Nat} {bs:List By} {er:Int},lp q n bs = .error er→er ≠ 0
 | 0,bs,er,h=>by rw [lp] at h; cases h
 | n+1,bs,er,h=>by
  rw [lp] at h
  split at h
  ·rename_i e he
   cases h
   exact hq _ _ he
  ·split at h
   ·rename_i e he
    cases h
    exact lp_err hq he
   ·cases h
theorem tl_err {α:Type} {q:List By→Except Int (α × Nat)} (hq:∀ b er,q b = .error er→er ≠ 0) {most:Nat} {bs:List By} {er:Int} (h:tl q most bs = .error er):er ≠ 0:=by
 unfold tl at h
 split at h
 ·rename_i e he
  cases h
  exact tk_ne he
 ·split at h
  ·cases h; decide
  ·exact lp_err hq h
theorem callP_skipE (bs:List By) (h:List Chunk) (kr k d e:Nat) (w:Bool) (N:Nat) (F:Nat→SV) (dp er:Int) (hk:lookH h kr = .cells true [.osl k d e 1 bs.length,.int .i64 dp,.int .i64 er]) (u e2:Int) (he:e2 ≠ 0) (K:Tok→SV→List Chunk→Prop) (hK:K .mk (.bool false) (putH h kr (.cells true [.osl k d e 1 bs.length,.int .i64 dp,.int .i64 e2]))):callP Try.prog 131 [.ptr kr 0,.int .i64 u,.int .i64 e2] h K:=by
 have z1:(e2 != 0) = true:=bne_iff_ne.2 he
 have hlt:=lookH_lt hk (by simp)
 refine callP_of_code tabOk Try.func131 (by kernel_rfl) rfl (Nat.le_of_ble_eq_true rfl) (codeP_of_vc (pl:=np) tabOk follows_mixed (by kernel_rfl) ?_)
 rw [Try.ntmps131]
 simp -implicitDefEqProofs (maxSteps:=1000000) (disch:=omega) only [↓zzP,zzA,zzL,zzB,Nat.reduceSub,reduceIte,reduceCtorEq,Nat.reduceLT,↓reduceIte,Nat.reduceEqDiff,Nat.reduceLeDiff,Nat.reduceAdd,↓gd,↓opP,↓qv,↓ef,↓stS,slot,putS,putO,ofV,fldA,sz,wrF,binH,binS2,binS,tupS,stor,res131,z1,hk]
 repeat (refine ⟨by omega,?_⟩)
 exact intoR_refl (by rw [putH_len]; exact Nat.le_refl _) hK
set_option maxHeartbeats 4000000 in
theorem c132x (h:List Chunk) (kr k d e n:Nat) (dp er:Int) (hk:lookH h kr = .cells true [.osl k d e 1 n,.int .i64 dp,.int .i64 er]) (he:er ≠ 0) (most:Int) (fv:SV) (K:Tok→SV→List Chunk→Prop) (hK:K .mk (.v (.slice none 0 0)) h):callP Try.prog 132 [.ptr kr 0,.int .i64 most,fv] h K:=by
 have z1:(er != 0) = true:=bne_iff_ne.2 he
 refine callP_of_code tabOk Try.func132 (by kernel_rfl) rfl (Nat.le_of_ble_eq_true rfl) (codeP_of_vc (pl:=np) tabOk follows_mixed (by kernel_rfl) ?_)
 rw [Try.ntmps132]
 simp -implicitDefEqProofs (maxSteps:=1000000) (disch:=omega) only [↓zzP,zzA,zzL,zzB,Nat.reduceSub,reduceIte,reduceCtorEq,Nat.reduceLT,↓reduceIte,Nat.reduceLeDiff,Nat.reduceAdd,↓gd,↓opP,↓qv,slot,putS,putO,ofV,fldA,rdF,Ent.row,ldS,sz,binH,binS2,binS,tupS,res132,z1,hk]
 repeat (refine ⟨by omega,?_⟩)
 exact intoR_refl (Nat.le_refl _) hK
set_option maxHeartbeats 4000000 in
theorem c132 (bs:List By) (h:List Chunk) (kr:Nat) (sv:SV) (dp:Int) (hk:lookH h kr = .cells true [sv,.int .i64 dp,.int .i64 0]) (hB:RdB h sv bs) (hl:bs.length≤35184372088832) (most:Nat) (hm:most≤1024) (K:Tok→SV→List Chunk→Prop) (hE:∀ e2,tl (fun b=>tb b 8192) most bs = .error e2→∀ H sv' bs',Ext (fun j=>j = kr) h H→lookH H kr = .cells true [sv',.int .i64 dp,.int .i64 e2]→RdB H sv' bs'→K .mk (.v (.slice none 0 0)) H) (hO:∀ X r,tl (fun b=>tb b 8192) most bs = .ok (X,r)→r.length≤bs.length→∀ H sv' m (F2:Nat→SV),Ext (fun j=>j = kr) h H→lookH H kr = .cells true [sv',.int .i64 dp,.int .i64 0]→RdB H sv' r→h.length≤m→lookH H m = .row true X.length 1 (F2)→(∀ i (hi:i < X.length),RelBs (fresh h.length H) X[i] (F2 i))→K .mk (.osl m 0 0 1 X.length) H):callP Try.prog 132 [.ptr kr 0,.int .i64 (most:Nat),.fn (.func 130) [] []] h K:=by
 obtain ⟨k,d,e,w,N,F,rfl,hr,hN,hF⟩:=hB
 have hlt:=lookH_lt hk (by simp)
 have hkk:=ne_cr hk hr
 refine callP_of_code tabOk Try.func132 (by kernel_rfl) rfl (Nat.le_of_ble_eq_true rfl) (codeP_of_vc (pl:=np) tabOk follows_mixed (by kernel_rfl) ?_)
 rw [Try.ntmps132]
 have z1:((0:Int) != 0) = false:=rfl
 simp -implicitDefEqProofs (maxSteps:=1000000) (disch:=omega) only [↓zzP,zzA,zzL,zzB,Nat.reduceSub,reduceIte,reduceCtorEq,Nat.reduceLT,↓reduceIte,Nat.reduceEqDiff,Nat.reduceLeDiff,Nat.reduceAdd,↓gd,↓opP,↓qv,slot,putS,putO,ofV,fldA,rdF,Ent.row,ldS,sz,binH,binS2,binS,tupS,res132,z1,hk]
 repeat (refine ⟨by omega,?_⟩)
 refine c157 bs h k d e w N F hr hN hF hl most hm _ (fun er he H1 v hE1=>?_) (fun X v hv he H1 m F2 hE1 hm1 hrow hrel=>?_)
 ·have hk1:=hE1.look hk (by simp) fun h=>h
  have hr1:=hE1.look hr (by simp) fun h=>h
  have hEk:Ext (fun j=>j = kr) h H1:=hE1.mono fun _ h=>h.elim
  have hl1:=lookH_lt hk1 (by simp)
  have z2:(er != 0) = true:=bne_iff_ne.2 (tl_err (fun b er h=>tb_err h) he)
  simp -implicitDefEqProofs (maxSteps:=1000000) (disch:=omega) only [↓zzP,zzA,reduceIte,reduceCtorEq,Nat.reduceLT,↓reduceIte,Nat.reduceEqDiff,Nat.reduceAdd,↓gd,↓opP,↓qv,slot,putS,putO]
  repeat (refine ⟨by omega,?_⟩)
  refine callP_skipE bs H1 kr k d e w N F dp 0 hk1 v er (tl_err (fun b er h=>tb_err h) he) _ ?_
  simp -implicitDefEqProofs (maxSteps:=1000000) (disch:=omega) only [↓zzP,zzA,reduceIte,Nat.reduceLT,↓reduceIte,Nat.reduceEqDiff,↓gd,↓opP,↓qv,slot,putS,putO]
  repeat (refine ⟨by omega,?_⟩)
  refine intoR_refl (by rw [putH_len]; exact hE1.1) (hE er he _ _ _ (hEk.put (p:=kr) _ (.inl rfl)) (lookH_put_same _ hl1) (RdB.put ⟨k,d,e,w,N,F,rfl,hr1,hN,hF⟩ hk1 _))
 ·have hk1:=hE1.look hk (by simp) fun h=>h
  have hr1:=hE1.look hr (by simp) fun h=>h
  have hEk:Ext (fun j=>j = kr) h H1:=hE1.mono fun _ h=>h.elim
  have hl1:=lookH_lt hk1 (by simp)
  simp -implicitDefEqProofs (maxSteps:=1000000) (disch:=omega) only [↓zzP,zzA,reduceIte,reduceCtorEq,Nat.reduceLT,↓reduceIte,Nat.reduceEqDiff,Nat.reduceAdd,↓gd,↓opP,↓qv,slot,putS,putO]
  repeat (refine ⟨by omega,?_⟩)
  refine c131 bs H1 kr k d e w N F dp 0 hk1 hr1 hN hF hl v hv _ fun d'=>?_
  simp -implicitDefEqProofs (maxSteps:=1000000) (disch:=omega) only [↓zzP,zzA,reduceIte,Nat.reduceLT,↓reduceIte,Nat.reduceEqDiff,↓gd,↓opP,↓qv,slot,putS,putO]
  repeat (refine ⟨by omega,?_⟩)
  have hmk:m ≠ kr:=ne_cr hk1 hrow
  refine intoR_refl (by rw [putH_len]; exact hE1.1) (hO X _ he (by rw [List.length_drop]; omega) _ _ m F2 (hEk.put (p:=kr) _ (.inl rfl)) (lookH_put_same _ hl1) (RdB.put (RdB.drop hr1 hN hF v d' hv) hk1 _) hm1 (by rw [lookH_put_ne _ hmk]; exact hrow) fun i hi=>RelBs.mono _ _ _ _ (extR_cells _ hk1) (hrel i hi))
set_option maxHeartbeats 4000000 in
theorem c133x (h:List Chunk) (kr k d e n:Nat) (dp er:Int) (hk:lookH h kr = .cells true [.osl k d e 1 n,.int .i64 dp,.int .i64 er]) (he:er ≠ 0) (most:Int) (fv:SV) (K:Tok→SV→List Chunk→Prop) (hK:K .mk (.v (.slice none 0 0)) h):callP Try.prog 133 [.ptr kr 0,.int .i64 most,fv] h K:=by
 have z1:(er != 0) = true:=bne_iff_ne.2 he
 refine callP_of_code tabOk Try.func133 (by kernel_rfl) rfl (Nat.le_of_ble_eq_true rfl) (codeP_of_vc (pl:=np) tabOk follows_mixed (by kernel_rfl) ?_)
 rw [Try.ntmps133]
 simp -implicitDefEqProofs (maxSteps:=1000000) (disch:=omega) only [↓zzP,zzA,zzL,zzB,Nat.reduceSub,reduceIte,reduceCtorEq,Nat.reduceLT,↓reduceIte,Nat.reduceLeDiff,Nat.reduceAdd,↓gd,↓opP,↓qv,slot,putS,putO,ofV,fldA,rdF,Ent.row,ldS,sz,binH,binS2,binS,tupS,res133,z1,hk]
 repeat (refine ⟨by omega,?_⟩)
 exact intoR_refl (Nat.le_refl _) hK
set_option maxHeartbeats 4000000 in
theorem c133 (bs:List By) (h:List Chunk) (kr:Nat) (sv:SV) (dp:Int) (hk:lookH h kr = .cells true [sv,.int .i64 dp,.int .i64 0]) (hB:RdB h sv bs) (hl:bs.length≤35184372088832) (q:List By→Except Int (Msg × Nat)) (hq:QAt 134 kr h RelM ErrM q) (hqe:∀ b er,q b = .error er→er ≠ 0) (most:Nat) (hm:most≤1024) (K:Tok→SV→List Chunk→Prop) (hE:∀ e2,tl q most bs = .error e2→∀ H sv' bs',Ext (fun j=>j = kr) h H→lookH H kr = .cells true [sv',.int .i64 dp,.int .i64 e2]→RdB H sv' bs'→K .mk (.v (.slice none 0 0)) H) (hO:∀ X r,tl q most bs = .ok (X,r)→r.length≤bs.length→∀ H sv' m (F2:Nat→List SV),Ext (fun j=>j = kr) h H→lookH H kr = .cells true [sv',.int .i64 dp,.int .i64 0]→RdB H sv' r→h.length≤m→lookH H m = .row true X.length 73 (fun i=>.agg (F2 i))→(∀ i (hi:i < X.length),RelM (fresh h.length H) X[i] (.agg (F2 i)))→K .mk (.osl m 0 0 73 X.length) H):callP Try.prog 133 [.ptr kr 0,.int .i64 (most:Nat),.fn (.func 134) [.ptr kr 0] []] h K:=by
 obtain ⟨k,d,e,w,N,F,rfl,hr,hN,hF⟩:=hB
 have hlt:=lookH_lt hk (by simp)
 have hkk:=ne_cr hk hr
 refine callP_of_code tabOk Try.func133 (by kernel_rfl) rfl (Nat.le_of_ble_eq_true rfl) (codeP_of_vc (pl:=np) tabOk follows_mixed (by kernel_rfl) ?_)
 rw [Try.ntmps133]
 have z1:((0:Int) != 0) = false:=rfl
 simp -implicitDefEqProofs (maxSteps:=1000000) (disch:=omega) only [↓zzP,zzA,zzL,zzB,Nat.reduceSub,reduceIte,reduceCtorEq,Nat.reduceLT,↓reduceIte,Nat.reduceEqDiff,Nat.reduceLeDiff,Nat.reduceAdd,↓gd,↓opP,↓qv,slot,putS,putO,ofV,fldA,rdF,Ent.row,ldS,sz,binH,binS2,binS,tupS,res133,z1,hk]
 repeat (refine ⟨by omega,?_⟩)
 refine c158 bs h k d e w N F hr hN hF hl kr hlt q hq most hm _ (fun er he H1 v hE1=>?_) (fun X v hv he H1 m F2 hE1 hm1 hrow hrel=>?_)
 ·have hk1:=hE1.look hk (by simp) fun h=>h
  have hr1:=hE1.look hr (by simp) fun h=>h
  have hEk:Ext (fun j=>j = kr) h H1:=hE1.mono fun _ h=>h.elim
  have hl1:=lookH_lt hk1 (by simp)
  have z2:(er != 0) = true:=bne_iff_ne.2 (tl_err hqe he)
  simp -implicitDefEqProofs (maxSteps:=1000000) (disch:=omega) only [↓zzP,zzA,reduceIte,reduceCtorEq,Nat.reduceLT,↓reduceIte,Nat.reduceEqDiff,Nat.reduceAdd,↓gd,↓opP,↓qv,slot,putS,putO]
  repeat (refine ⟨by omega,?_⟩)
  refine callP_skipE bs H1 kr k d e w N F dp 0 hk1 v er (tl_err hqe he) _ ?_
  simp -implicitDefEqProofs (maxSteps:=1000000) (disch:=omega) only [↓zzP,zzA,reduceIte,Nat.reduceLT,↓reduceIte,Nat.reduceEqDiff,↓gd,↓opP,↓qv,slot,putS,putO]
  repeat (refine ⟨by omega,?_⟩)
  refine intoR_refl (by rw [putH_len]; exact hE1.1) (hE er he _ _ _ (hEk.put (p:=kr) _ (.inl rfl)) (lookH_put_same _ hl1) (RdB.put ⟨k,d,e,w,N,F,rfl,hr1,hN,hF⟩ hk1 _))
 ·have hk1:=hE1.look hk (by simp) fun h=>h
  have hr1:=hE1.look hr (by simp) fun h=>h
  have hEk:Ext (fun j=>j = kr) h H1:=hE1.mono fun _ h=>h.elim
  have hl1:=lookH_lt hk1 (by simp)
  simp -implicitDefEqProofs (maxSteps:=1000000) (disch:=omega) only [↓zzP,zzA,reduceIte,reduceCtorEq,Nat.reduceLT,↓reduceIte,Nat.reduceEqDiff,Nat.reduceAdd,↓gd,↓opP,↓qv,slot,putS,putO]
  repeat (refine ⟨by omega,?_⟩)
  refine c131 bs H1 kr k d e w N F dp 0 hk1 hr1 hN hF hl v hv _ fun d'=>?_
  simp -implicitDefEqProofs (maxSteps:=1000000) (disch:=omega) only [↓zzP,zzA,reduceIte,Nat.reduceLT,↓reduceIte,Nat.reduceEqDiff,↓gd,↓opP,↓qv,slot,putS,putO]
  repeat (refine ⟨by omega,?_⟩)
  have hmk:m ≠ kr:=ne_cr hk1 hrow
  refine intoR_refl (by rw [putH_len]; exact hE1.1) (hO X _ he (by rw [List.length_drop]; omega) _ _ m F2 (hEk.put (p:=kr) _ (.inl rfl)) (lookH_put_same _ hl1) (RdB.put (RdB.drop hr1 hN hF v d' hv) hk1 _) hm1 (by rw [lookH_put_ne _ hmk]; exact hrow) fun i hi=>RelM.mono _ _ _ _ (extR_cells _ hk1) (hrel i hi))
set_option maxHeartbeats 4000000 in
theorem c135x (h:List Chunk) (kr k d e n:Nat) (dp er:Int) (hk:lookH h kr = .cells true [.osl k d e 1 n,.int .i64 dp,.int .i64 er]) (he:er ≠ 0) (most:Int) (fv:SV) (K:Tok→SV→List Chunk→Prop) (hK:K .mk (.v (.slice none 0 0)) h):callP Try.prog 135 [.ptr kr 0,.int .i64 most,fv] h K:=by
 have z1:(er != 0) = true:=bne_iff_ne.2 he
 refine callP_of_code tabOk Try.func135 (by kernel_rfl) rfl (Nat.le_of_ble_eq_true rfl) (codeP_of_vc (pl:=np) tabOk follows_mixed (by kernel_rfl) ?_)
 rw [Try.ntmps135]
 simp -implicitDefEqProofs (maxSteps:=1000000) (disch:=omega) only [↓zzP,zzA,zzL,zzB,Nat.reduceSub,reduceIte,reduceCtorEq,Nat.reduceLT,↓reduceIte,Nat.reduceLeDiff,Nat.reduceAdd,↓gd,↓opP,↓qv,slot,putS,putO,ofV,fldA,rdF,Ent.row,ldS,sz,binH,binS2,binS,tupS,res135,z1,hk]
 repeat (refine ⟨by omega,?_⟩)
 exact intoR_refl (Nat.le_refl _) hK
set_option maxHeartbeats 4000000 in
theorem c135 (bs:List By) (h:List Chunk) (kr:Nat) (sv:SV) (dp:Int) (hk:lookH h kr = .cells true [sv,.int .i64 dp,.int .i64 0]) (hB:RdB h sv bs) (hl:bs.length≤35184372088832) (q:List By→Except Int ((Msg × List Msg) × Nat)) (hq:QAt 136 kr h RelP ErrP q) (hqe:∀ b er,q b = .error er→er ≠ 0) (most:Nat) (hm:most≤1024) (K:Tok→SV→List Chunk→Prop) (hE:∀ e2,tl q most bs = .error e2→∀ H sv' bs',Ext (fun j=>j = kr) h H→lookH H kr = .cells true [sv',.int .i64 dp,.int .i64 e2]→RdB H sv' bs'→K .mk (.v (.slice none 0 0)) H) (hO:∀ X r,tl q most bs = .ok (X,r)→r.length≤bs.length→∀ H sv' m (F2:Nat→List SV),Ext (fun j=>j = kr) h H→lookH H kr = .cells true [sv',.int .i64 dp,.int .i64 0]→RdB H sv' r→h.length≤m→lookH H m = .row true X.length 74 (fun i=>.agg (F2 i))→(∀ i (hi:i < X.length),RelP (fresh h.length H) X[i] (.agg (F2 i)))→K .mk (.osl m 0 0 74 X.length) H):callP Try.prog 135 [.ptr kr 0,.int .i64 (most:Nat),.fn (.func 136) [.ptr kr 0] []] h K:=by
 obtain ⟨k,d,e,w,N,F,rfl,hr,hN,hF⟩:=hB
 have hlt:=lookH_lt hk (by simp)
 have hkk:=ne_cr hk hr
 refine callP_of_code tabOk Try.func135 (by kernel_rfl) rfl (Nat.le_of_ble_eq_true rfl) (codeP_of_vc (pl:=np) tabOk follows_mixed (by kernel_rfl) ?_)
 rw [Try.ntmps135]
 have z1:((0:Int) != 0) = false:=rfl
 simp -implicitDefEqProofs (maxSteps:=1000000) (disch:=omega) only [↓zzP,zzA,zzL,zzB,Nat.reduceSub,reduceIte,reduceCtorEq,Nat.reduceLT,↓reduceIte,Nat.reduceEqDiff,Nat.reduceLeDiff,Nat.reduceAdd,↓gd,↓opP,↓qv,slot,putS,putO,ofV,fldA,rdF,Ent.row,ldS,sz,binH,binS2,binS,tupS,res135,z1,hk]
 repeat (refine ⟨by omega,?_⟩)
 refine c159 bs h k d e w N F hr hN hF hl kr hlt q hq most hm _ (fun er he H1 v hE1=>?_) (fun X v hv he H1 m F2 hE1 hm1 hrow hrel=>?_)
 ·have hk1:=hE1.look hk (by simp) fun h=>h
  have hr1:=hE1.look hr (by simp) fun h=>h
  have hEk:Ext (fun j=>j = kr) h H1:=hE1.mono fun _ h=>h.elim
  have hl1:=lookH_lt hk1 (by simp)
  have z2:(er != 0) = true:=bne_iff_ne.2 (tl_err hqe he)
  simp -implicitDefEqProofs (maxSteps:=1000000) (disch:=omega) only [↓zzP,zzA,reduceIte,reduceCtorEq,Nat.reduceLT,↓reduceIte,Nat.reduceEqDiff,Nat.reduceAdd,↓gd,↓opP,↓qv,slot,putS,putO]
  repeat (refine ⟨by omega,?_⟩)
  refine callP_skipE bs H1 kr k d e w N F dp 0 hk1 v er (tl_err hqe he) _ ?_
  simp -implicitDefEqProofs (maxSteps:=1000000) (disch:=omega) only [↓zzP,zzA,reduceIte,Nat.reduceLT,↓reduceIte,Nat.reduceEqDiff,↓gd,↓opP,↓qv,slot,putS,putO]
  repeat (refine ⟨by omega,?_⟩)
  refine intoR_refl (by rw [putH_len]; exact hE1.1) (hE er he _ _ _ (hEk.put (p:=kr) _ (.inl rfl)) (lookH_put_same _ hl1) (RdB.put ⟨k,d,e,w,N,F,rfl,hr1,hN,hF⟩ hk1 _))
 ·have hk1:=hE1.look hk (by simp) fun h=>h
  have hr1:=hE1.look hr (by simp) fun h=>h
  have hEk:Ext (fun j=>j = kr) h H1:=hE1.mono fun _ h=>h.elim
  have hl1:=lookH_lt hk1 (by simp)
  simp -implicitDefEqProofs (maxSteps:=1000000) (disch:=omega) only [↓zzP,zzA,reduceIte,reduceCtorEq,Nat.reduceLT,↓reduceIte,Nat.reduceEqDiff,Nat.reduceAdd,↓gd,↓opP,↓qv,slot,putS,putO]
  repeat (refine ⟨by omega,?_⟩)
  refine c131 bs H1 kr k d e w N F dp 0 hk1 hr1 hN hF hl v hv _ fun d'=>?_
  simp -implicitDefEqProofs (maxSteps:=1000000) (disch:=omega) only [↓zzP,zzA,reduceIte,Nat.reduceLT,↓reduceIte,Nat.reduceEqDiff,↓gd,↓opP,↓qv,slot,putS,putO]
  repeat (refine ⟨by omega,?_⟩)
  have hmk:m ≠ kr:=ne_cr hk1 hrow
  refine intoR_refl (by rw [putH_len]; exact hE1.1) (hO X _ he (by rw [List.length_drop]; omega) _ _ m F2 (hEk.put (p:=kr) _ (.inl rfl)) (lookH_put_same _ hl1) (RdB.put (RdB.drop hr1 hN hF v d' hv) hk1 _) hm1 (by rw [lookH_put_ne _ hmk]; exact hrow) fun i hi=>RelP.mono _ _ _ _ (extR_cells _ hk1) (hrel i hi))
end Go.Proofs.Ytgocfglmideobaa
set_option linter.all false
set_option maxRecDepth 40000
namespace Go.Proofs.Ytgocfglmideobaa
open Go Go.Sx
def r11 (k f v s:Int) (d:Nat→By) (b:List By) (bs:List (List By)) (p:List Msg) (q:List (Msg × List Msg)) (key:Int) (of:Nat→By) (r:List By):Except Int Msg :=
 if 0 < r.length then .error 4 else .ok (.mk k f v s d b bs p q key of)
def r10 (k f v s:Int) (d:Nat→By) (b:List By) (bs:List (List By)) (p:List Msg) (q:List (Msg × List Msg)) (key:Int) (r:List By):Except Int Msg :=
 match pDig r with | .error e=>.error e | .ok (of,r')=>r11 k f v s d b bs p q key of r'
def r9 (k f v s:Int) (d:Nat→By) (b:List By) (bs:List (List By)) (p:List Msg) (q:List (Msg × List Msg)) (r:List By):Except Int Msg :=
 match pInt r with | .error e=>.error e | .ok (key,r')=>r10 k f v s d b bs p q key r'
def qPf (qm:List By→Except Int (Msg × Nat)) (bs:List By):Except Int ((Msg × List Msg) × Nat) :=
 match qm bs with
 | .error e=>.error e
 | .ok (m,k)=>match tl qm 64 (bs.drop k) with
  | .error e=>.error e
  | .ok (l,r)=>.ok ((m,l),bs.length - r.length)
def r8 (qm:List By→Except Int (Msg × Nat)) (k f v s:Int) (d:Nat→By) (b:List By) (bs:List (List By)) (p:List Msg) (r:List By):Except Int Msg :=
 match tl (qPf qm) 64 r with | .error e=>.error e | .ok (q,r')=>r9 k f v s d b bs p q r'
def r7 (qm:List By→Except Int (Msg × Nat)) (k f v s:Int) (d:Nat→By) (b:List By) (bs:List (List By)) (r:List By):Except Int Msg :=
 match tl qm 64 r with | .error e=>.error e | .ok (p,r')=>r8 qm k f v s d b bs p r'
def r6 (qm:List By→Except Int (Msg × Nat)) (k f v s:Int) (d:Nat→By) (b:List By) (r:List By):Except Int Msg :=
 match tl (fun b=>tb b 8192) 512 r with | .error e=>.error e | .ok (bs,r')=>r7 qm k f v s d b bs r'
def r5 (qm:List By→Except Int (Msg × Nat)) (k f v s:Int) (d:Nat→By) (r:List By):Except Int Msg :=
 match tb r 8192 with | .error e=>.error e | .ok (b,u)=>r6 qm k f v s d b (r.drop u)
def r4 (qm:List By→Except Int (Msg × Nat)) (k f v s:Int) (r:List By):Except Int Msg :=
 match pDig r with | .error e=>.error e | .ok (d,r')=>r5 qm k f v s d r'
def r3 (qm:List By→Except Int (Msg × Nat)) (k f v:Int) (r:List By):Except Int Msg :=
 match pNum r with | .error e=>.error e | .ok (s,r')=>r4 qm k f v s r'
def r2 (qm:List By→Except Int (Msg × Nat)) (k f:Int) (r:List By):Except Int Msg :=
 match pNum r with | .error e=>.error e | .ok (v,r')=>r3 qm k f v r'
def r1 (qm:List By→Except Int (Msg × Nat)) (k:Int) (r:List By):Except Int Msg :=
 match pInt r with | .error e=>.error e | .ok (f,r')=>r2 qm k f r'
def rdMsg (qm:List By→Except Int (Msg × Nat)) (r:List By):Except Int Msg :=
 match pKind r with | .error e=>.error e | .ok (k,r')=>r1 qm k r'
def qM:Nat→List By→Except Int (Msg × Nat)
 | 0,_=>.error 4
 | D+1,bs=>match tb bs 1048576 with
  | .error e=>.error e
  | .ok (s,u)=>match rdMsg (qM D) s with
   | .error e=>.error e
   | .ok m=>.ok (m,u)
theorem pKind_ne {bs:List By} {er:Int} (h:pKind bs = .error er):er ≠ 0:=by
 unfold pKind at h
 split at h <;> cases h
 decide
theorem pInt_ne {bs:List By} {er:Int} (h:pInt bs = .error er):er ≠ 0:=by
 unfold pInt at h
 split at h
 ·rename_i e he
  cases h
  exact tk_ne he
 ·cases h
theorem pNum_ne {bs:List By} {er:Int} (h:pNum bs = .error er):er ≠ 0:=by
 unfold pNum at h
 split at h
 ·rename_i e he
  cases h
  exact tk_ne he
 ·split at h <;> cases h
  decide
theorem pDig_ne {bs:List By} {er:Int} (h:pDig bs = .error er):er ≠ 0:=by
 unfold pDig at h
 split at h <;> cases h
 decide
theorem qPf_ne {qm:List By→Except Int (Msg × Nat)} (hq:∀ b er,qm b = .error er→er ≠ 0):∀ b er,qPf qm b = .error er→er ≠ 0:=fun b er h=>by
 unfold qPf at h
 split at h
 ·rename_i e he
  cases h
  exact hq _ _ he
 ·split at h
  ·rename_i e he
   cases h
   exact tl_err hq he
  ·cases h
theorem rdMsg_ne {qm:List By→Except Int (Msg × Nat)} (hq:∀ b er,qm b = .error er→er ≠ 0):∀ b er,rdMsg qm b = .error er→er ≠ 0:=fun b er h=>by
 unfold rdMsg at h
 split at h
 ·rename_i e he; cases h; exact pKind_ne he
 unfold r1 at h
 split at h
 ·rename_i e he; cases h; exact pInt_ne he
 unfold r2 at h
 split at h
 ·rename_i e he; cases h; exact pNum_ne he
 unfold r3 at h
 split at h
 ·rename_i e he; cases h; exact pNum_ne he
 unfold r4 at h
 split at h
 ·rename_i e he; cases h; exact pDig_ne he
 unfold r5 at h
 split at h
 ·rename_i e he; cases h; exact tb_err he
 unfold r6 at h
 split at h
 ·rename_i e he; cases h; exact tl_err (fun b er h=>tb_err h) he
 unfold r7 at h
 split at h
 ·rename_i e he; cases h; exact tl_err hq he
 unfold r8 at h
 split at h
 ·rename_i e he; cases h; exact tl_err (qPf_ne hq) he
 unfold r9 at h
 split at h
 ·rename_i e he; cases h; exact pInt_ne he
 unfold r10 at h
 split at h
 ·rename_i e he; cases h; exact pDig_ne he
 unfold r11 at h
 split at h
 ·cases h; decide
 ·cases h
theorem qM_ne:∀ D b er,qM D b = .error er→er ≠ 0
 | 0,b,er,h=>by rw [qM] at h; cases h; decide
 | D+1,b,er,h=>by
  rw [qM] at h
  split at h
  ·rename_i e he; cases h; exact tb_err he
  ·split at h
   ·rename_i e he; cases h; exact rdMsg_ne (qM_ne D) _ _ he
   ·cases h
end Go.Proofs.Ytgocfglmideobaa
set_option linter.all false
set_option maxRecDepth 40000
namespace Go.Proofs.Ytgocfglmideobaa
open Go Go.Sx
theorem res137:Try.f137.results.toList = [.tmp 2]:=rfl
theorem res138:Try.f138.results.toList = [.tmp 2]:=rfl
theorem res139:Try.f139.results.toList = [.tmp 6]:=rfl
theorem res141:Try.f141.results.toList = [.tmp 4]:=rfl
theorem res143:Try.f143.results.toList = []:=rfl
theorem res163:Try.f163.results.toList = []:=rfl
def pByte (bs:List By):Except Int (By × List By):=match bs with | []=>.error 3 | b :: r=>.ok (b,r)
def pNumM (most:Nat) (over:Int) (bs:List By):Except Int (BitVec 64 × List By):=match tk bs with | .error e=>.error e | .ok (n,u)=>if n.toNat > most then .error over else .ok (n,bs.drop u)
theorem pNumM_e {most:Nat} {over:Int} {bs:List By} {er:Int} (h:tk bs = .error er):pNumM most over bs = .error er:=by unfold pNumM; rw [h]
theorem pNumM_o {most:Nat} {over:Int} {bs:List By} {n:BitVec 64} {u:Nat} (h:tk bs = .ok (n,u)):pNumM most over bs = if n.toNat > most then .error over else .ok (n,bs.drop u):=by unfold pNumM; rw [h]
def pBytes (most:Nat) (bs:List By):Except Int (List By × List By):=match tb bs most with | .error e=>.error e | .ok (b,u)=>.ok (b,bs.drop u)
theorem pBytes_e {most:Nat} {bs:List By} {er:Int} (h:tb bs most = .error er):pBytes most bs = .error er:=by unfold pBytes; rw [h]
theorem pBytes_o {most:Nat} {bs b:List By} {u:Nat} (h:tb bs most = .ok (b,u)):pBytes most bs = .ok (b,bs.drop u):=by unfold pBytes; rw [h]
theorem c137x (h:List Chunk) (kr k d e n:Nat) (er:Int) (hk:lookH h kr = .cells true [.osl k d e 1 n,.int .i64 er]) (he:er ≠ 0) (K:Tok→SV→List Chunk→Prop) (hK:K .mk (.int .u8 0) h):callP Try.prog 137 [.ptr kr 0] h K:=by
 have z1:(er != 0) = true:=bne_iff_ne.2 he
 have z2:(er == 0) = false:=beq_eq_false_iff_ne.2 he
 refine callP_of_code tabOk Try.func137 (by kernel_rfl) rfl (Nat.le_of_ble_eq_true rfl) (codeP_of_vc (pl:=np) tabOk follows_mixed (by kernel_rfl) ?_)
 rw [Try.ntmps137]
 simp -implicitDefEqProofs (maxSteps:=1000000) (disch:=omega) only [↓zzP,zzA,zzL,zzB,reduceIte,reduceCtorEq,Nat.reduceLT,↓reduceIte,Nat.reduceLeDiff,↓gd,↓opP,↓qv,slot,putS,putO,ofV,fldA,rdF,Ent.row,ldS,sz,binH,binS2,binS,tupS,res137,z1,hk]
 repeat (refine ⟨by omega,?_⟩)
 exact intoR_refl (Nat.le_refl _) hK
theorem c138x (h:List Chunk) (kr k d e n:Nat) (er:Int) (hk:lookH h kr = .cells true [.osl k d e 1 n,.int .i64 er]) (he:er ≠ 0) (K:Tok→SV→List Chunk→Prop) (hK:K .mk (.int .i64 0) h):callP Try.prog 138 [.ptr kr 0] h K:=by
 have z1:(er != 0) = true:=bne_iff_ne.2 he
 have z2:(er == 0) = false:=beq_eq_false_iff_ne.2 he
 refine callP_of_code tabOk Try.func138 (by kernel_rfl) rfl (Nat.le_of_ble_eq_true rfl) (codeP_of_vc (pl:=np) tabOk follows_mixed (by kernel_rfl) ?_)
 rw [Try.ntmps138]
 simp -implicitDefEqProofs (maxSteps:=1000000) (disch:=omega) only [↓zzP,zzA,zzL,zzB,reduceIte,reduceCtorEq,Nat.reduceLT,↓reduceIte,Nat.reduceLeDiff,↓gd,↓opP,↓qv,slot,putS,putO,ofV,fldA,rdF,Ent.row,ldS,sz,binH,binS2,binS,tupS,res138,z1,hk]
 repeat (refine ⟨by omega,?_⟩)
 exact intoR_refl (Nat.le_refl _) hK
theorem c139x (h:List Chunk) (kr k d e n:Nat) (er:Int) (hk:lookH h kr = .cells true [.osl k d e 1 n,.int .i64 er]) (he:er ≠ 0) (most:Nat) (over:Int) (K:Tok→SV→List Chunk→Prop) (hK:K .mk (.int .u64 0) h):callP Try.prog 139 [.ptr kr 0,.int .u64 (most:Nat),.int .i64 over] h K:=by
 have z1:(er != 0) = true:=bne_iff_ne.2 he
 have z2:(er == 0) = false:=beq_eq_false_iff_ne.2 he
 refine callP_of_code tabOk Try.func139 (by kernel_rfl) rfl (Nat.le_of_ble_eq_true rfl) (codeP_of_vc (pl:=np) tabOk follows_mixed (by kernel_rfl) ?_)
 rw [Try.ntmps139]
 simp -implicitDefEqProofs (maxSteps:=1000000) (disch:=omega) only [↓zzP,zzA,zzL,zzB,reduceIte,reduceCtorEq,Nat.reduceLT,↓reduceIte,Nat.reduceLeDiff,Nat.reduceAdd,↓gd,↓opP,↓qv,slot,putS,putO,ofV,fldA,rdF,Ent.row,ldS,sz,binH,binS2,binS,tupS,res139,z1,hk]
 repeat (refine ⟨by omega,?_⟩)
 exact intoR_refl (Nat.le_refl _) hK
theorem c141x (h:List Chunk) (kr k d e n:Nat) (er:Int) (hk:lookH h kr = .cells true [.osl k d e 1 n,.int .i64 er]) (he:er ≠ 0) (most:Int) (K:Tok→SV→List Chunk→Prop) (hK:K .mk (.v (.slice none 0 0)) h):callP Try.prog 141 [.ptr kr 0,.int .i64 most] h K:=by
 have z1:(er != 0) = true:=bne_iff_ne.2 he
 have z2:(er == 0) = false:=beq_eq_false_iff_ne.2 he
 refine callP_of_code tabOk Try.func141 (by kernel_rfl) rfl (Nat.le_of_ble_eq_true rfl) (codeP_of_vc (pl:=np) tabOk follows_mixed (by kernel_rfl) ?_)
 rw [Try.ntmps141]
 simp -implicitDefEqProofs (maxSteps:=1000000) (disch:=omega) only [↓zzP,zzA,zzL,zzB,reduceIte,reduceCtorEq,Nat.reduceLT,↓reduceIte,Nat.reduceLeDiff,Nat.reduceAdd,↓gd,↓opP,↓qv,slot,putS,putO,ofV,fldA,rdF,Ent.row,ldS,sz,binH,binS2,binS,tupS,res141,z1,hk]
 repeat (refine ⟨by omega,?_⟩)
 exact intoR_refl (Nat.le_refl _) hK
theorem c143x (h:List Chunk) (kr k d e n:Nat) (er:Int) (hk:lookH h kr = .cells true [.osl k d e 1 n,.int .i64 er]) (he:er ≠ 0) (K:Tok→SV→List Chunk→Prop) (hK:K .mk (.tup []) h):callP Try.prog 143 [.ptr kr 0] h K:=by
 have z1:(er != 0) = true:=bne_iff_ne.2 he
 have z2:(er == 0) = false:=beq_eq_false_iff_ne.2 he
 refine callP_of_code tabOk Try.func143 (by kernel_rfl) rfl (Nat.le_of_ble_eq_true rfl) (codeP_of_vc (pl:=np) tabOk follows_mixed (by kernel_rfl) ?_)
 rw [Try.ntmps143]
 simp -implicitDefEqProofs (maxSteps:=1000000) (disch:=omega) only [↓zzP,zzA,zzL,zzB,reduceIte,reduceCtorEq,Nat.reduceLT,↓reduceIte,Nat.reduceEqDiff,Nat.reduceLeDiff,Array.reduceGetElem?,↓gd,↓opP,↓qv,slot,putS,putO,ofV,fldA,rdF,Ent.row,ldS,sz,binH,binS2,binS,tupS,res143,z2,hk]
 repeat (refine ⟨by omega,?_⟩)
 exact intoR_refl (Nat.le_refl _) hK
set_option maxHeartbeats 4000000 in
theorem c137 (bs:List By) (h:List Chunk) (kr:Nat) (sv:SV) (hk:lookH h kr = .cells true [sv,.int .i64 0]) (hB:RdB h sv bs) (hl:bs.length≤35184372088832) (K:Tok→SV→List Chunk→Prop) (hE:∀ e2,pByte bs = .error e2→∀ H sv' bs',Ext (fun j=>j = kr) h H→lookH H kr = .cells true [sv',.int .i64 e2]→RdB H sv' bs'→K .mk (.int .u8 0) H) (hO:∀ x bs',pByte bs = .ok (x,bs')→∀ H sv',Ext (fun j=>j = kr) h H→lookH H kr = .cells true [sv',.int .i64 0]→RdB H sv' bs'→K .mk (.int .u8 (nat x)) H):callP Try.prog 137 [.ptr kr 0] h K:=by
 obtain ⟨k,d,e,w,N,F,rfl,hr,hN,hF⟩:=hB
 have hlt:=lookH_lt hk (by simp)
 have hkk:=ne_cr hk hr
 refine callP_of_code tabOk Try.func137 (by kernel_rfl) rfl (Nat.le_of_ble_eq_true rfl) (codeP_of_vc (pl:=np) tabOk follows_mixed (by kernel_rfl) ?_)
 rw [Try.ntmps137]
 have z0:((0:Int) != 0) = false:=rfl
 cases bs with
 | nil =>
  have z1:((0:Int) == 0) = true:=rfl
  simp -implicitDefEqProofs (maxSteps:=1000000) (disch:=omega) only [↓zzP,zzA,zzL,zzB,reduceIte,reduceCtorEq,Nat.reduceLT,↓reduceIte,Nat.reduceLeDiff,↓gd,↓opP,↓qv,↓ef,↓stS,slot,putS,putO,ofV,fldA,lenS,rdF,Ent.row,ldS,sz,wrF,binH,binS2,binS,tupS,stor,res137,z0,z1,hk]
  repeat (refine ⟨by omega,?_⟩)
  exact intoR_refl (by rw [putH_len]; exact Nat.le_refl _) (hE 3 rfl _ _ _ ((Ext.refl _ _).put _ (.inl rfl)) (lookH_put_same _ hlt) (RdB.put ⟨k,d,e,w,N,F,rfl,hr,hN,hF⟩ hk _))
 | cons b bs =>
  have z1:(((bs.length+1:Nat):Int) == 0) = false:=by rw [beq_eq_false_iff_ne]; omega
  rw [List.length_cons] at hN hl
  have hb:=hF 0 (by simp)
  rw [Nat.add_zero] at hb
  have hb2:F e = .int .u8 (nat b):=hb
  simp -implicitDefEqProofs (maxSteps:=1000000) (disch:=omega) only [↓zzP,zzA,zzL,zzB,reduceIte,reduceCtorEq,Nat.reduceLT,Int.reduceLE,↓reduceIte,Nat.reduceEqDiff,Nat.reduceLeDiff,Int.reduceToNat,↓gd,↓opP,↓qv,↓ef,↓stS,slot,putS,putO,ofV,fldA,idxA,bnd,slS,lenS,rdF,Ent.row,ldS,sz,wrF,binH,binS2,binS,tupS,stor,res137,z0,z1,hk,hr,hb2]
  repeat (refine ⟨by omega,?_⟩)
  exact intoR_refl (by rw [putH_len]; exact Nat.le_refl _) (hO _ _ rfl _ _ ((Ext.refl _ _).put _ (.inl rfl)) (lookH_put_same _ hlt) (RdB.put (RdB.drop (bs:=b :: bs) hr hN hF 1 e (by simp)) hk _))
set_option maxHeartbeats 4000000 in
theorem c138 (bs:List By) (h:List Chunk) (kr:Nat) (sv:SV) (hk:lookH h kr = .cells true [sv,.int .i64 0]) (hB:RdB h sv bs) (hl:bs.length≤35184372088832) (K:Tok→SV→List Chunk→Prop) (hE:∀ e2,pInt bs = .error e2→∀ H sv' bs',Ext (fun j=>j = kr) h H→lookH H kr = .cells true [sv',.int .i64 e2]→RdB H sv' bs'→K .mk (.int .i64 0) H) (hO:∀ x bs',pInt bs = .ok (x,bs')→∀ H sv',Ext (fun j=>j = kr) h H→lookH H kr = .cells true [sv',.int .i64 0]→RdB H sv' bs'→K .mk (.int .i64 x) H):callP Try.prog 138 [.ptr kr 0] h K:=by
 obtain ⟨k,d,e,w,N,F,rfl,hr,hN,hF⟩:=hB
 have hlt:=lookH_lt hk (by simp)
 have hkk:=ne_cr hk hr
 refine callP_of_code tabOk Try.func138 (by kernel_rfl) rfl (Nat.le_of_ble_eq_true rfl) (codeP_of_vc (pl:=np) tabOk follows_mixed (by kernel_rfl) ?_)
 rw [Try.ntmps138]
 have z0:((0:Int) != 0) = false:=rfl
 simp -implicitDefEqProofs (maxSteps:=1000000) (disch:=omega) only [↓zzP,zzA,zzL,zzB,reduceIte,reduceCtorEq,Nat.reduceLT,↓reduceIte,Nat.reduceLeDiff,↓gd,↓opP,↓qv,slot,putS,putO,ofV,fldA,rdF,Ent.row,ldS,sz,binH,binS2,binS,tupS,res138,z0,hk]
 repeat (refine ⟨by omega,?_⟩)
 refine c160 bs h k d e w N F hr hN hF hl _ (fun er he=>?_) (fun n u he=>?_)
 ·have z1:(er != 0) = true:=bne_iff_ne.2 (tk_ne he)
  simp -implicitDefEqProofs (maxSteps:=1000000) (disch:=omega) only [↓zzP,zzA,zzL,zzB,reduceIte,reduceCtorEq,Nat.reduceLT,↓reduceIte,Nat.reduceEqDiff,Nat.reduceLeDiff,Nat.reduceAdd,↓gd,↓opP,↓qv,↓ef,↓stS,slot,putS,putO,ofV,fldA,sz,wrF,binH,binS2,binS,stor,z1,hk]
  repeat (refine ⟨by omega,?_⟩)
  exact intoR_refl (by rw [putH_len]; exact Nat.le_refl _) (hE er (pInt_e he) _ _ _ ((Ext.refl _ _).put _ (.inl rfl)) (lookH_put_same _ hlt) (RdB.put ⟨k,d,e,w,N,F,rfl,hr,hN,hF⟩ hk _))
 ·have hu:=tk_ok he
  simp -implicitDefEqProofs (maxSteps:=1000000) (disch:=omega) only [↓zzP,zzA,zzL,zzB,reduceIte,reduceCtorEq,Nat.reduceLT,↓reduceIte,Nat.reduceEqDiff,Nat.reduceLeDiff,Nat.reduceAdd,↓gd,↓opP,↓qv,↓ef,↓stS,slot,putS,putO,ofV,fldA,bnd,slS,rdF,Ent.row,ldS,sz,wrF,binH,binS2,binS,stor,z0,hk,hr]
  repeat (refine ⟨by omega,?_⟩)
  exact intoR_refl (by rw [putH_len]; exact Nat.le_refl _) (hO _ _ (pInt_o he) _ _ ((Ext.refl _ _).put _ (.inl rfl)) (lookH_put_same _ hlt) (RdB.put (RdB.drop hr hN hF u _ hu.2.1) hk _))
set_option maxHeartbeats 4000000 in
theorem c139 (bs:List By) (h:List Chunk) (kr:Nat) (sv:SV) (hk:lookH h kr = .cells true [sv,.int .i64 0]) (hB:RdB h sv bs) (hl:bs.length≤35184372088832) (most:Nat) (over:Int) (hov:over ≠ 0) (K:Tok→SV→List Chunk→Prop) (hE:∀ e2,pNumM most over bs = .error e2→∀ H sv' bs',Ext (fun j=>j = kr) h H→lookH H kr = .cells true [sv',.int .i64 e2]→RdB H sv' bs'→K .mk (.int .u64 0) H) (hO:∀ x bs',pNumM most over bs = .ok (x,bs')→∀ H sv',Ext (fun j=>j = kr) h H→lookH H kr = .cells true [sv',.int .i64 0]→RdB H sv' bs'→K .mk (.int .u64 (nat x)) H):callP Try.prog 139 [.ptr kr 0,.int .u64 (most:Nat),.int .i64 over] h K:=by
 obtain ⟨k,d,e,w,N,F,rfl,hr,hN,hF⟩:=hB
 have hlt:=lookH_lt hk (by simp)
 have hkk:=ne_cr hk hr
 refine callP_of_code tabOk Try.func139 (by kernel_rfl) rfl (Nat.le_of_ble_eq_true rfl) (codeP_of_vc (pl:=np) tabOk follows_mixed (by kernel_rfl) ?_)
 rw [Try.ntmps139]
 have z0:((0:Int) != 0) = false:=rfl
 have z9:((0:Int) == 0) = true:=rfl
 simp -implicitDefEqProofs (maxSteps:=1000000) (disch:=omega) only [↓zzP,zzA,zzL,zzB,reduceIte,reduceCtorEq,Nat.reduceLT,↓reduceIte,Nat.reduceLeDiff,Nat.reduceAdd,↓gd,↓opP,↓qv,slot,putS,putO,ofV,fldA,rdF,Ent.row,ldS,sz,binH,binS2,binS,tupS,res139,z0,hk]
 repeat (refine ⟨by omega,?_⟩)
 refine c161 bs h k d e w N F hr hN hF hl _ (fun er he=>?_) (fun n u he=>?_)
 ·have z1:(er != 0) = true:=bne_iff_ne.2 (tk_ne he)
  have z2:(er == 0) = false:=beq_eq_false_iff_ne.2 (tk_ne he)
  simp -implicitDefEqProofs (maxSteps:=1000000) (disch:=omega) only [↓zzP,zzA,zzL,zzB,reduceIte,reduceCtorEq,Nat.reduceLT,↓reduceIte,Nat.reduceEqDiff,Nat.reduceLeDiff,Nat.reduceAdd,Array.reduceGetElem?,↓gd,↓opP,↓qv,↓ef,↓stS,slot,putS,putO,ofV,fldA,sz,wrF,binH,binS2,binS,stor,z1,z2,hk]
  repeat (refine ⟨by omega,?_⟩)
  exact intoR_refl (by rw [putH_len]; exact Nat.le_refl _) (hE er (pNumM_e he) _ _ _ ((Ext.refl _ _).put _ (.inl rfl)) (lookH_put_same _ hlt) (RdB.put ⟨k,d,e,w,N,F,rfl,hr,hN,hF⟩ hk _))
 ·have hu:=tk_ok he
  have hp:=pNumM_o (most:=most) (over:=over) he
  by_cases c:n.toNat > most
  ·have z2:decide (nat n > ((most:Nat):Int)) = true:=decide_eq_true (by unfold nat; omega)
   have z1:(over != 0) = true:=bne_iff_ne.2 hov
   rw [if_pos c] at hp
   simp -implicitDefEqProofs (maxSteps:=1000000) (disch:=omega) only [↓zzP,zzA,zzL,zzB,reduceIte,reduceCtorEq,Nat.reduceLT,↓reduceIte,Nat.reduceEqDiff,Nat.reduceLeDiff,Nat.reduceAdd,Array.reduceGetElem?,↓gd,↓opP,↓qv,↓ef,↓stS,slot,putS,putO,ofV,fldA,sz,wrF,binH,binS2,binS,stor,z9,z1,z2,hk]
   repeat (refine ⟨by omega,?_⟩)
   exact intoR_refl (by rw [putH_len]; exact Nat.le_refl _) (hE over hp _ _ _ ((Ext.refl _ _).put _ (.inl rfl)) (lookH_put_same _ hlt) (RdB.put ⟨k,d,e,w,N,F,rfl,hr,hN,hF⟩ hk _))
  ·have z2:decide (nat n > ((most:Nat):Int)) = false:=decide_eq_false (by unfold nat; omega)
   rw [if_neg c] at hp
   simp -implicitDefEqProofs (maxSteps:=1000000) (disch:=omega) only [↓zzP,zzA,zzL,zzB,reduceIte,reduceCtorEq,Nat.reduceLT,↓reduceIte,Nat.reduceEqDiff,Nat.reduceLeDiff,Nat.reduceAdd,Array.reduceGetElem?,↓gd,↓opP,↓qv,↓ef,↓stS,slot,putS,putO,ofV,fldA,bnd,slS,rdF,Ent.row,ldS,sz,wrF,binH,binS2,binS,stor,z0,z9,z2,hk,hr]
   repeat (refine ⟨by omega,?_⟩)
   exact intoR_refl (by rw [putH_len]; exact Nat.le_refl _) (hO _ _ hp _ _ ((Ext.refl _ _).put _ (.inl rfl)) (lookH_put_same _ hlt) (RdB.put (RdB.drop hr hN hF u _ hu.2.1) hk _))
end Go.Proofs.Ytgocfglmideobaa
