/- Texts put together: What may be is not long. No condition. -/
import Derived.Test.YtgocfglmideobaaMd
import Derived.Test.YtgocfglmideobaaMc
import Derived.Test.YtgocfglmideobaaRows
set_option linter.all false
set_option maxRecDepth 40000
namespace Go.Proofs.Ytgocfglmideobaa
open Go Go.Sx
theorem mayL_all {kind:Int}:∀ {l:List Msg},mayL kind l = 0→∀ m ∈ l,m.kind = kind∧may m = 0
 | [],_,m,hm=>by cases hm
 | a :: l,h,m,hm=>by
  rw [mayL] at h
  by_cases c:a.kind ≠ kind
  ·rw [if_pos c] at h; cases h
  ·rw [if_neg c] at h
   by_cases c2:may a ≠ 0
   ·rw [if_pos c2] at h; exact absurd h c2
   ·rw [if_neg c2] at h
    rcases List.mem_cons.1 hm with rfl | hm
    ·exact ⟨Classical.not_not.1 c,Classical.not_not.1 c2⟩
    ·exact mayL_all h m hm
theorem mayQ_all {is:Bool}:∀ {q:List (Msg × List Msg)},mayQ is q = 0→∀ x ∈ q,(x.1.kind = 2∧may x.1 = 0)∧x.2.length≤64∧∀ m ∈ x.2,m.kind = 3∧may m = 0
 | [],_,x,hx=>by cases hx
 | (a,l) :: r,h,x,hx=>by
  rw [mayQ] at h
  dsimp only at h
  by_cases c:a.kind ≠ 2
  ·rw [if_pos c] at h; cases h
  ·rw [if_neg c] at h
   by_cases c2:may a ≠ 0
   ·rw [if_pos c2] at h; exact absurd h c2
   ·rw [if_neg c2] at h
    by_cases c3:is = false∧0 < l.length
    ·rw [if_pos c3] at h; cases h
    ·rw [if_neg c3] at h
     by_cases c4:l.length > 64
     ·rw [if_pos c4] at h; cases h
     ·rw [if_neg c4] at h
      by_cases c5:mayL 3 l ≠ 0
      ·rw [if_pos c5] at h; exact absurd h c5
      ·rw [if_neg c5] at h
       rcases List.mem_cons.1 hx with rfl | hx
       ·exact ⟨⟨Classical.not_not.1 c,Classical.not_not.1 c2⟩,by show l.length≤64; omega,mayL_all (Classical.not_not.1 c5)⟩
       ·exact mayQ_all h x hx
theorem mayBs_all:∀ {bs:List (List By)},mayBs bs = 0→∀ b ∈ bs,b.length≤8192
 | [],_,b,hb=>by cases hb
 | a :: l,h,b,hb=>by
  rw [mayBs] at h
  by_cases c:mayB a = 0
  ·rw [if_pos c] at h
   rcases List.mem_cons.1 hb with rfl | hb
   ·unfold mayB at c
    split at c
    ·cases c
    ·split at c
     ·cases c
     ·omega
   ·exact mayBs_all h b hb
  ·rw [if_neg c] at h; exact absurd h c
theorem may_in {k f v s:Int} {d:Nat→By} {b:List By} {bs:List (List By)} {p:List Msg} {q:List (Msg × List Msg)} {key:Int} {of:Nat→By} (h:may (.mk k f v s d b bs p q key of) = 0) :
  (1≤k∧k≤9)∧b.length≤8192∧bs.length≤512∧(hBuns k = false→bs = [])∧(∀ b ∈ bs,b.length≤8192)∧p.length≤64∧(hProof k = false→p = [])∧(∀ m ∈ p,m.kind = kProof k∧may m = 0) ∧
  q.length≤64∧(hPrep k = false→q = [])∧∀ x ∈ q,(x.1.kind = 2∧may x.1 = 0)∧x.2.length≤64∧∀ m ∈ x.2,m.kind = 3∧may m = 0:=by
 rw [may_eq] at h
 by_cases c1:¬ (1≤k∧k≤9)
 ·rw [if_pos c1] at h; cases h
 rw [if_neg c1] at h
 by_cases c2:¬ okFrom k f = true
 ·rw [if_pos c2] at h; cases h
 rw [if_neg c2] at h
 by_cases c3:¬ (okNum (hView k) v = true∧okNum (hSeq k) s = true∧(hDig k || zero32 d) = true)
 ·rw [if_pos c3] at h; cases h
 rw [if_neg c3] at h
 by_cases c4:hBun k = true∧mayB b ≠ 0
 ·rw [if_pos c4] at h; exact absurd h c4.2
 rw [if_neg c4] at h
 by_cases c5:hBun k = false∧0 < b.length
 ·rw [if_pos c5] at h; cases h
 rw [if_neg c5] at h
 by_cases c6:mayLs k bs p q ≠ 0
 ·rw [if_pos c6] at h; exact absurd h c6
 have hb:b.length≤8192:=by
  cases hh:hBun k with
  | false=>exact Nat.le_trans (Nat.le_of_not_lt fun h=>c5 ⟨hh,h⟩) (Nat.zero_le _)
  | true =>
   have c:mayB b = 0:=Classical.not_not.1 fun h=>c4 ⟨hh,h⟩
   unfold mayB at c
   split at c
   ·cases c
   ·split at c
    ·cases c
    ·omega
 replace c6:mayLs k bs p q = 0:=Classical.not_not.1 c6
 unfold mayLs at c6
 by_cases d1:hBuns k = false∧0 < bs.length
 ·rw [if_pos d1] at c6; cases c6
 rw [if_neg d1] at c6
 by_cases d2:bs.length > 512
 ·rw [if_pos d2] at c6; cases c6
 rw [if_neg d2] at c6
 by_cases d3:mayBs bs ≠ 0
 ·rw [if_pos d3] at c6; exact absurd c6 d3
 rw [if_neg d3] at c6
 by_cases d4:hProof k = false∧0 < p.length
 ·rw [if_pos d4] at c6; cases c6
 rw [if_neg d4] at c6
 by_cases d5:p.length > 64
 ·rw [if_pos d5] at c6; cases c6
 rw [if_neg d5] at c6
 by_cases d6:mayL (kProof k) p ≠ 0
 ·rw [if_pos d6] at c6; exact absurd c6 d6
 rw [if_neg d6] at c6
 by_cases d7:hPrep k = false∧0 < q.length
 ·rw [if_pos d7] at c6; cases c6
 rw [if_neg d7] at c6
 by_cases d8:q.length > 64
 ·rw [if_pos d8] at c6; cases c6
 rw [if_neg d8] at c6
 have emp:∀ {α:Type} {l:List α} {b:Bool},¬ (b = false∧0 < l.length)→b = false→l = []:=fun h e=>List.eq_nil_of_length_eq_zero (Nat.le_zero.1 (Nat.le_of_not_lt fun q=>h ⟨e,q⟩))
 exact ⟨Classical.not_not.1 c1,hb,by omega,emp d1,mayBs_all (Classical.not_not.1 d3),by omega,emp d4,mayL_all (Classical.not_not.1 d6),by omega,emp d7,mayQ_all c6⟩
theorem sum_le {α:Type} (f:α→List By) (B:Nat):∀ {l:List α},(∀ x ∈ l,(f x).length≤B)→(l.flatMap f).length≤l.length * B
 | [],_=>by simp
 | a :: l,h=>by
  rw [List.flatMap_cons,List.length_append,List.length_cons,Nat.succ_mul]
  have:=h a (List.mem_cons_self ..)
  have:=sum_le f B (l:=l) fun x hx=>h x (List.mem_cons_of_mem _ hx)
  omega
theorem leb_len {n:Nat} (h:n < 18446744073709551616):(leb n).length≤10:=leb_le 9 n (Nat.lt_of_lt_of_le h (by decide))
theorem putB_len {b:List By} {B:Nat} (h:b.length≤B) (hB:B < 18446744073709551616):(putB b).length≤B+10:=by
 unfold putB
 rw [List.length_append]
 have:=leb_len (n:=b.length) (by omega)
 omega
theorem enc_len {k f v s:Int} {d:Nat→By} {b:List By} {bs:List (List By)} {p:List Msg} {q:List (Msg × List Msg)} {key:Int} {of:Nat→By} (ho:wfM (.mk k f v s d b bs p q key of)) (h:may (.mk k f v s d b bs p q key of) = 0) {BS BP BQ:Nat} (h1:(bs.flatMap putB).length≤BS) (h2:(p.flatMap fun m=>putB (enc m)).length≤BP) (h3:(q.flatMap encP).length≤BQ) :
  (enc (.mk k f v s d b bs p q key of)).length≤8400+BS+BP+BQ:=by
 have hm:=may_in h
 rw [wfM] at ho
 unfold enc
 rw [body_eq]
 simp only [List.length_append,d32_len,List.length_singleton]
 have e1:=leb_len (zig_lt ho.2.1)
 have e2:=leb_64 (BitVec.ofInt 64 v)
 have e3:=leb_64 (BitVec.ofInt 64 s)
 have e4:=putB_len hm.2.1 (by decide)
 have e5:=leb_len (n:=bs.length) (by have:=hm.2.2.1; omega)
 have e6:=leb_len (n:=p.length) (by have:=hm.2.2.2.2.2.1; omega)
 have e7:=leb_len (n:=q.length) (by have:=hm.2.2.2.2.2.2.2.2.1; omega)
 have e8:(leb (zig (Msg.mk k f v s d b bs p q key of).key)).length≤10:=leb_len (zig_lt ho.2.2.2.2.1)
 have e9:(d32 (Msg.mk k f v s d b bs p q key of).of).length = 32:=d32_len _
 have e2':(leb (u64n v)).length≤10:=e2
 have e3':(leb (u64n s)).length≤10:=e3
 omega
theorem enc_flat {m:Msg} (ho:wfM m) (h:may m = 0) (h1:hBuns m.kind = false) (h2:hProof m.kind = false) (h3:hPrep m.kind = false):(enc m).length≤8400:=by
 obtain ⟨k,f,v,s,d,b,bs,p,q,key,of⟩:=m
 have hm:=may_in h
 obtain rfl:=hm.2.2.2.1 h1
 obtain rfl:=hm.2.2.2.2.2.2.1 h2
 obtain rfl:=hm.2.2.2.2.2.2.2.2.2.1 h3
 exact enc_len ho h (BS:=0) (BP:=0) (BQ:=0) (by simp) (by simp) (by simp)
theorem encP_len {x:Msg × List Msg} (ho:wfM x.1∧wfL x.2) (h:(x.1.kind = 2∧may x.1 = 0)∧x.2.length≤64∧∀ m ∈ x.2,m.kind = 3∧may m = 0):(encP x).length≤560000:=by
 unfold encP
 rw [List.length_append,List.length_append]
 have e1:=putB_len (enc_flat ho.1 h.1.2 (by rw [h.1.1]; rfl) (by rw [h.1.1]; rfl) (by rw [h.1.1]; rfl)) (by decide)
 have e2:=leb_len (n:=x.2.length) (by have:=h.2.1; omega)
 have e3:=sum_le (fun m=>putB (enc m)) 8410 (l:=x.2) fun m hm=>by
  have hk:=h.2.2 m hm
  exact putB_len (enc_flat (ho.2.get m hm) hk.2 (by rw [hk.1]; rfl) (by rw [hk.1]; rfl) (by rw [hk.1]; rfl)) (by decide)
 have e4:=Nat.mul_le_mul_right 8410 h.2.1
 omega
theorem bs_len {bs:List (List By)} (h:bs.length≤512) (hb:∀ b ∈ bs,b.length≤8192):(bs.flatMap putB).length≤4200000:=by
 have:=sum_le putB 8202 (l:=bs) fun b hb'=>putB_len (hb b hb') (by decide)
 have:=Nat.mul_le_mul_right 8202 h
 omega
theorem enc_five {m:Msg} (ho:wfM m) (h:may m = 0) (hk:m.kind ≠ 7):(enc m).length≤41000000:=by
 obtain ⟨k,f,v,s,d,b,bs,p,q,key,of⟩:=m
 have hm:=may_in h
 have ho':=ho
 rw [wfM] at ho'
 have hk5:kProof k = 5:=by unfold kProof; exact if_neg hk
 have e1:=sum_le (fun m=>putB (enc m)) 8410 (l:=p) fun m hm'=>by
  have hk:=hm.2.2.2.2.2.2.2.1 m hm'
  rw [hk5] at hk
  exact putB_len (enc_flat (ho'.2.2.2.2.2.1.get m hm') hk.2 (by rw [hk.1]; rfl) (by rw [hk.1]; rfl) (by rw [hk.1]; rfl)) (by decide)
 have e2:=sum_le encP 560000 (l:=q) fun x hx=>encP_len (ho'.2.2.2.2.2.2.get x hx) (hm.2.2.2.2.2.2.2.2.2.2 x hx)
 have e3:=Nat.mul_le_mul_right 8410 hm.2.2.2.2.2.1
 have e4:=Nat.mul_le_mul_right 560000 hm.2.2.2.2.2.2.2.2.1
 have:=enc_len ho h (BS:=4200000) (BP:=540000) (BQ:=35840000) (bs_len hm.2.2.1 hm.2.2.2.2.1) (by omega) (by omega)
 omega
theorem enc_small {m:Msg} (ho:wfM m) (h:may m = 0):(enc m).length≤3000000000:=by
 by_cases hk:m.kind = 7
 ·obtain ⟨k,f,v,s,d,b,bs,p,q,key,of⟩:=m
  have hm:=may_in h
  have ho':=ho
  rw [wfM] at ho'
  have hk6:kProof k = 6:=by unfold kProof; exact if_pos hk
  have e1:=sum_le (fun m=>putB (enc m)) 41000010 (l:=p) fun m hm'=>by
   have hk:=hm.2.2.2.2.2.2.2.1 m hm'
   rw [hk6] at hk
   exact putB_len (enc_five (ho'.2.2.2.2.2.1.get m hm') hk.2 (by rw [hk.1]; decide)) (by decide)
  have e2:=sum_le encP 560000 (l:=q) fun x hx=>encP_len (ho'.2.2.2.2.2.2.get x hx) (hm.2.2.2.2.2.2.2.2.2.2 x hx)
  have e3:=Nat.mul_le_mul_right 41000010 hm.2.2.2.2.2.1
  have e4:=Nat.mul_le_mul_right 560000 hm.2.2.2.2.2.2.2.2.1
  have:=enc_len ho h (BS:=4200000) (BP:=2624000640) (BQ:=35840000) (bs_len hm.2.2.1 hm.2.2.2.2.1) (by omega) (by omega)
  omega
 ·have:=enc_five ho h hk
  omega
theorem body_small {m:Msg} (ho:wfM m) (h:may m = 0):(body m).length≤3000000000:=by
 have:=enc_small ho h
 unfold enc at this
 rw [List.length_append,List.length_append] at this
 omega
end Go.Proofs.Ytgocfglmideobaa
set_option linter.all false
set_option maxRecDepth 40000
namespace Go.Proofs.Ytgocfglmideobaa
open Go Go.Sx
theorem res13:Try.f13.results.toList = [.tmp 2,.tmp 3]:=rfl
theorem res17:Try.f17.results.toList = [.tmp 2]:=rfl
theorem ext_eq {h H:List Chunk} (hE:Ext (fun _=>False) h H):H = h++H.drop h.length:=by
 have e:H.take h.length = h:=by
  apply List.ext_getElem?
  intro i
  by_cases hi:i < h.length
  ·rw [List.getElem?_take_of_lt hi,get_of_lt (Nat.lt_of_lt_of_le hi hE.1),get_of_lt hi,hE.2 i hi fun h=>h]
  ·rw [List.getElem?_eq_none (by rw [List.length_take]; omega),List.getElem?_eq_none (by omega)]
 calc H = H.take h.length++H.drop h.length:=(List.take_append_drop _ _).symm
  _ = _:=by rw [e]
set_option maxHeartbeats 4000000 in
theorem c13 (m:Msg) (ho:wfM m) (l:List SV) (h:List Chunk) (hm:MsgH h m l) (K:Tok→SV→List Chunk→Prop) (h0:may m ≠ 0→K .mk (.tup [.v (.slice none 0 0),.int .i64 (may m)]) h) (h1:may m = 0→1048576 < (enc m).length→K .mk (.tup [.v (.slice none 0 0),.int .i64 2]) h) (h2:may m = 0→(enc m).length≤1048576→∀ H' k',Ext (fun _=>False) h H'→h.length≤k'→lookH H' k' = .row true (enc m).length 1 (fun i=>.int .u8 (nat ((enc m).getD i 0)))→K .mk (.tup [.osl k' 0 0 1 (enc m).length,.int .i64 0]) H'):callP Try.prog 13 [.agg l] h K:=by
 refine callP_good fun hgood=>?_
 obtain ⟨xk,xf,xv,xs,xd,xkb,xnb,xkbs,xnbs,xkp,xnp,xkq,xnq,xkey,xof,rfl⟩:=hm.open
 have hE0:Ext (fun _=>False) h (h++[Chunk.cells true [.int .i64 xk,.int .i64 xf,.int .i64 xv,.int .i64 xs,.fam 32 1 fun i=>.int .u8 (nat (xd i)),.osl xkb 0 0 1 xnb,.osl xkbs 0 0 1 xnbs,.osl xkp 0 0 73 xnp,.osl xkq 0 0 74 xnq,.int .i64 xkey,.fam 32 1 fun i=>.int .u8 (nat (xof i))]]):=(Ext.refl _ _).app _
 refine callP_of_code tabOk Try.func13 (by kernel_rfl) rfl (Nat.le_of_ble_eq_true rfl) (codeP_of_vc (pl:=np) tabOk follows_mixed (by kernel_rfl) ?_)
 rw [Try.ntmps13]
 simp -implicitDefEqProofs (maxSteps:=1000000) (disch:=omega) only [↓zzP,zzA,zzL,zzB,Nat.reduceSub,reduceIte,reduceCtorEq,Nat.reduceLT,↓reduceIte,Nat.reduceEqDiff,Nat.reduceLeDiff,↓gd,↓opP,↓qv,↓ef,slot,putS,putO,ofV,rdF,Ent.row,ldS,sz,tupS,stor,res13]
 repeat (refine ⟨by omega,?_⟩)
 refine c15 m _ _ (hm.ext hE0) _ ?_
 by_cases e:may m = 0
 ·have z:(may m != 0) = false:=by rw [e]; rfl
  obtain ⟨C,hC⟩:∃ C,C = enc m:=⟨_,rfl⟩
  have hb:=c51 m ho _ _ (hm.ext hE0) (Nat.le_trans (enc_small ho e) (by decide))
  rw [← hC] at hb h1 h2
  simp -implicitDefEqProofs (maxSteps:=1000000) (disch:=omega) only [↓zzP,zzA,zzB,Nat.reduceSub,reduceIte,reduceCtorEq,Nat.reduceLT,↓reduceIte,Nat.reduceEqDiff,Nat.reduceLeDiff,↓gd,↓opP,↓qv,slot,putS,putO,ofV,rdF,Ent.row,ldS,sz,binH,binS2,binS,z]
  repeat (refine ⟨by omega,?_⟩)
  refine hb _ ?_
  intro H m1 hE hm1 hrow
  have hE1:=hE0.trans hE
  have hl1:=hE1.1
  rw [List.length_append] at hm1
  by_cases c:1048576 < C.length
  ·have z2:decide (((C.length:Nat):Int) > 1048576) = true:=decide_eq_true (by omega)
   simp -implicitDefEqProofs (maxSteps:=1000000) (disch:=omega) only [↓zzP,zzA,reduceIte,Nat.reduceLT,↓reduceIte,Nat.reduceEqDiff,↓gd,↓opP,↓qv,slot,putS,putO,ofV,lenS,binH,binS2,binS,z2]
   repeat (refine ⟨by omega,?_⟩)
   have hx:H = h++H.drop h.length:=ext_eq hE1
   rw [hx]
   exact intoR_drop hgood (by simp [ok,okL]) (h1 e c)
  ·have z2:decide (((C.length:Nat):Int) > 1048576) = false:=decide_eq_false (by omega)
   simp -implicitDefEqProofs (maxSteps:=1000000) (disch:=omega) only [↓zzP,zzA,reduceIte,Nat.reduceLT,↓reduceIte,Nat.reduceEqDiff,↓gd,↓opP,↓qv,slot,putS,putO,ofV,lenS,binH,binS2,binS,z2]
   repeat (refine ⟨by omega,?_⟩)
   exact intoR_refl hl1 (h2 e (by omega) _ _ hE1 (by omega) hrow)
 ·have z:(may m != 0) = true:=bne_iff_ne.2 e
  simp -implicitDefEqProofs (maxSteps:=1000000) (disch:=omega) only [↓zzP,zzA,reduceIte,Nat.reduceLT,↓reduceIte,Nat.reduceEqDiff,↓gd,↓opP,↓qv,slot,putS,putO,ofV,binH,binS2,binS,z]
  repeat (refine ⟨by omega,?_⟩)
  exact intoR_drop hgood (by simp [ok,okL]) (h0 e)
end Go.Proofs.Ytgocfglmideobaa
set_option linter.all false
set_option maxRecDepth 40000
namespace Go.Proofs.Ytgocfglmideobaa
open Go Go.Sx
theorem MsgsH.mk {h:List Chunk}:∀ {p:List Msg} {f:Nat→List SV},(∀ i (hi:i < p.length),MsgH h p[i] (f i))→MsgsH h p f
 | [],_,_=>by rw [MsgsH]; trivial
 | m :: l,f,H=>by
  rw [MsgsH]
  exact ⟨H 0 (by simp),MsgsH.mk fun i hi=>H (i+1) (by simpa using hi)⟩
theorem MsgsH.app {h:List Chunk} {a b:List Msg} {f g F:Nat→List SV} (ha:MsgsH h a f) (hb:MsgsH h b g) (h1:∀ i,i < a.length→F i = f i) (h2:∀ i,i < b.length→F (a.length+i) = g i):MsgsH h (a++b) F:=MsgsH.mk fun i hi=>by
 by_cases c:i < a.length
 ·rw [h1 i c,List.getElem_append_left c]
  exact ha.get c
 ·have hi2:i - a.length < b.length:=by rw [List.length_append] at hi; omega
  have hF:=h2 _ hi2
  rw [Nat.add_sub_cancel' (Nat.le_of_not_lt c)] at hF
  rw [List.getElem_append_right (by omega),hF]
  exact hb.get hi2
abbrev OutM (F:Nat→Prop) (H:List Chunk) (l:List Msg) (K:Tok→SV→List Chunk→Prop):Prop :=
 ∀ H' k' f,Ext F H H'→H.length≤k'→lookH H' k' = .row true l.length 73 (fun i=>.agg (f i))→MsgsH H' l f→K .mk (.osl k' 0 0 73 l.length) H'
mutual
def blkM:Msg→Nat
 | .mk k f v s d b bs p q key of=>1+blkL p+blkQ q
def blkL:List Msg→Nat
 | []=>0
 | m :: l=>blkM m+blkL l
def blkQ:List (Msg × List Msg)→Nat
 | []=>0
 | (m,l) :: r=>1+(blkM m+blkL l)+blkQ r
end
theorem blkM_pos (m:Msg):1≤blkM m:=by
 cases m with
 | mk=>rw [blkM]; omega
theorem blkL_len:∀ l:List Msg,l.length≤blkL l
 | []=>Nat.zero_le _
 | m :: l=>by
  rw [blkL,List.length_cons]
  have:=blkM_pos m
  have:=blkL_len l
  omega
theorem blkL_app:∀ a b:List Msg,blkL (a++b) = blkL a+blkL b
 | [],b=>by simp [blkL]
 | m :: a,b=>by rw [List.cons_append,blkL,blkL,blkL_app a b]; omega
def flat (q:List (Msg × List Msg)):List Msg:=q.flatMap fun x=>x.1 :: x.2
theorem blkQ_flat:∀ q:List (Msg × List Msg),blkL (flat q)+q.length = blkQ q
 | []=>by simp [flat,blkL,blkQ]
 | (m,l) :: r=>by
  have:=blkQ_flat r
  unfold flat at this ⊢
  rw [List.flatMap_cons,blkL_app,blkL,blkQ,List.length_cons]
  show blkM m+blkL l+blkL (List.flatMap (fun x=>x.1 :: x.2) r)+(r.length+1) = _
  omega
theorem blk_inside (m:Msg):blkL (inside m)+m.prepared.length+1 = blkM m:=by
 obtain ⟨k,f,v,s,d,b,bs,p,q,key,of⟩:=m
 show blkL (p++flat q)+q.length+1 = _
 rw [blkL_app,blkM]
 have:=blkQ_flat q
 omega
theorem blkL_mem:∀ {l:List Msg},∀ m ∈ l,blkM m≤blkL l
 | [],m,hm=>by cases hm
 | a :: l,m,hm=>by
  rw [blkL]
  rcases List.mem_cons.1 hm with rfl | hm
  ·omega
  ·have:=blkL_mem m hm
   omega
def ExtR (h h':List Chunk):Prop:=∀ k w n s f,lookH h k = .row w n s f→lookH h' k = .row w n s f
theorem rowB.extR {h h':List Chunk} {sv:SV} {b:List By} (H:rowB h sv b) (hE:ExtR h h'):rowB h' sv b:=by
 obtain ⟨k,w,e,hk⟩:=H
 exact ⟨k,w,e,hE _ _ _ _ _ hk⟩
theorem rowBs.extR {h h':List Chunk} {sv:SV} {b:List (List By)} (H:rowBs h sv b) (hE:ExtR h h'):rowBs h' sv b:=by
 obtain ⟨k,w,f,e,hk,hb⟩:=H
 exact ⟨k,w,f,e,hE _ _ _ _ _ hk,fun i hi=>(hb i hi).extR hE⟩
mutual
theorem MsgH.extR {h h':List Chunk} (hE:ExtR h h'):∀ {m:Msg} {l:List SV},MsgH h m l→MsgH h' m l
 | .mk kind frm view seq dig b bs p q key of,l,H=>by
  rw [MsgH] at H ⊢
  obtain ⟨sb,sbs,kp,wp,fp,kq,wq,fq,e,h1,h2,h3,h4,h5,h6⟩:=H
  exact ⟨sb,sbs,kp,wp,fp,kq,wq,fq,e,h1.extR hE,h2.extR hE,hE _ _ _ _ _ h3,MsgsH.extR hE h4,hE _ _ _ _ _ h5,PrepsH.extR hE h6⟩
theorem MsgsH.extR {h h':List Chunk} (hE:ExtR h h'):∀ {p:List Msg} {f:Nat→List SV},MsgsH h p f→MsgsH h' p f
 | [],_,_=>by rw [MsgsH]; trivial
 | m :: l,f,H=>by
  rw [MsgsH] at H ⊢
  exact ⟨MsgH.extR hE H.1,MsgsH.extR hE H.2⟩
theorem PrepsH.extR {h h':List Chunk} (hE:ExtR h h'):∀ {p:List (Msg × List Msg)} {f:Nat→List SV},PrepsH h p f→PrepsH h' p f
 | [],_,_=>by rw [PrepsH]; trivial
 | (m,l) :: r,f,H=>by
  rw [PrepsH] at H ⊢
  obtain ⟨⟨lm,kl,wl,fl,e,h1,h2,h3⟩,h4⟩:=H
  exact ⟨⟨lm,kl,wl,fl,e,MsgH.extR hE h1,hE _ _ _ _ _ h2,MsgsH.extR hE h3⟩,PrepsH.extR hE h4⟩
end
theorem ext_rows {h h':List Chunk} {N:Nat→Prop} (hE:Ext N h h') (hN:∀ k,N k→∀ w n s f,lookH h k ≠ .row w n s f):ExtR h h':=fun k w n s f hk=>hE.look hk (by simp) fun hn=>hN k hn _ _ _ _ hk
theorem sim_4 {A:List Chunk} {c1 c2 c3 c c':Chunk} (hc:chSim c c'):Sim (A++[c1,c2,c3,c]) (A++[c1,c2,c3,c']):=by
 have:=sim_last (A:=A++[c1,c2,c3]) hc
 simpa using this
theorem putH_at (l:List Chunk) (c:Chunk):∀ {h:List Chunk} {k:Nat},k < h.length→putH (h++l) k c = putH h k c++l
 | [],k,hk=>absurd hk (Nat.not_lt_zero _)
 | x :: h,0,hk=>rfl
 | x :: h,k+1,hk=>by
  show x :: putH (h++l) k c = x :: (putH h k c++l)
  rw [putH_at l c (by simpa using hk)]
theorem lookH_pA (l:List Chunk) (c:Chunk) (h:List Chunk) (m j:Nat):lookH (putH h m c++l) (h.length+j) = lookH l j:=by
 have:=lookH_app l j (putH h m c)
 rwa [putH_len] at this
theorem lookH_pA0 (l:List Chunk) (c:Chunk) (h:List Chunk) (m:Nat):lookH (putH h m c++l) h.length = lookH l 0:=lookH_pA l c h m 0
theorem putH_pA (l:List Chunk) (c d:Chunk) (h:List Chunk) (m j:Nat):putH (putH h m c++l) (h.length+j) d = putH h m c++putH l j d:=by
 have:=putH_app l d j (putH h m c)
 rwa [putH_len] at this
theorem lookH_pB (l:List Chunk) (c:Chunk) {h:List Chunk} {m k:Nat} (hk:k < h.length):lookH (putH h m c++l) k = lookH (putH h m c) k:=lookH_at l (by rw [putH_len]; exact hk)
end Go.Proofs.Ytgocfglmideobaa
set_option linter.all false
set_option maxRecDepth 40000
namespace Go.Proofs.Ytgocfglmideobaa
open Go Go.Sx
theorem res97:Try.f97.results.toList = [.tmp 2]:=rfl
def pl97:Nat→Plan
 | 5=>(.q 0 (.q 1 (.q 2 (.q 5 (.q 6 (.e1 3 [2] (.e1 4 [2] (.e1 7 [4,6] (.q 8 .nil)))))))))
 | _=>.nil
set_option maxHeartbeats 8000000 in
theorem c97 (m:Msg) (hsz:blkM m≤1048576) (l:List SV) (h:List Chunk) (hm:MsgH h m l) (K:Tok→SV→List Chunk→Prop) (hK:OutM (fun _=>False) h (inside m) K):callP Try.prog 97 [.agg l] h K:=by
 have hin:=blk_inside m
 obtain ⟨k,f,v,s,d,b,bs,p,q,key,of⟩:=m
 obtain ⟨T,hT⟩:∃ T,T = inside (.mk k f v s d b bs p q key of):=⟨_,rfl⟩
 rw [← hT] at hK hin
 replace hT:T = p++flat q:=hT
 replace hin:blkL T+q.length+1 = blkM (.mk k f v s d b bs p q key of):=hin
 have hTl:=blkL_len T
 have hTl2:=congrArg List.length hT
 rw [List.length_append] at hTl2
 rw [MsgH] at hm
 obtain ⟨sb,sbs,kp,wp,fp,kq,wq,fq,hl,h1,h2,h3,h4,h5,h6⟩:=hm
 obtain ⟨kb,wb,rfl,hkb⟩:=h1
 obtain ⟨kbs,wbs,fb,rfl,hkbs,hfb⟩:=h2
 unfold dig32 at hl
 subst hl
 refine callP_of_code tabOk Try.func97 (by kernel_rfl) rfl (Nat.le_of_ble_eq_true rfl) (codeP_of_vc (pl:=pl97) tabOk follows_mixed (by kernel_rfl) ?_)
 rw [Try.ntmps97]
 have hkl:=lookH_lt h3 (by simp)
 simp -implicitDefEqProofs (maxSteps:=1000000) (disch:=omega) only [↓zzP,zzA,zzL,zzB,Nat.reduceSub,reduceIte,reduceCtorEq,Nat.reduceLT,↓reduceIte,Nat.reduceEqDiff,Nat.reduceLeDiff,↓gd,↓opP,↓qv,↓ef,↓appS,slot,putS,putO,ofV,fldA,lenS,rdF,Ent.row,ldS,sz,srcS,tupS,stor,notInt,res97,h3,lookH_at]
 repeat (refine ⟨by omega,?_⟩)
 refine codeP_loop (pl:=pl97) tabOk follows_mixed (by kernel_rfl) (fun z st=>∃ (i:Nat) (L:List Msg) (H:List Chunk) (m:Nat) (g:Nat→List SV) (j:Nat→Value),i+z = q.length∧L++flat (q.drop i) = T∧Ext (fun _=>False) h H∧h.length≤m∧lookH H m = .row true L.length 73 (fun i=>.agg (g i))∧MsgsH h L g∧st = ⟨⟨26,[(2,.v (.slice none 0 0)),(3,.osl m 0 0 73 L.length),(10,.osl kq 0 0 74 q.length),(11,.int .i64 (q.length:Nat)),(12,.int .i64 (i:Nat))],j⟩,H,[]⟩) ?_ ?_
 ·refine into_sim (sim_two (chSim_row rfl fun i _=>rfl)) ?_
  exact into_keep [(2,.v (.slice none 0 0)),(3,.osl (h.length+1) 0 0 73 p.length),(10,.osl kq 0 0 74 q.length),(11,.int .i64 (q.length:Nat)),(12,.int .i64 (0:Nat))] (by simp [sameT,slot,lkL]) fun j=>⟨q.length,0,p,_,h.length+1,fp,j,by omega,hT.symm,(Ext.refl _ _).app _,by omega,lookH_app _ 1 _,h4,rfl⟩
 ·rintro z st ⟨i,L,H,m,g,j,hiz,hL,hE,hm,hrow,hMs,rfl⟩
  have hhl:=hE.1
  by_cases hi:i < q.length
  ·have g1:decide ((i:Int) < (q.length:Nat)) = true:=decide_eq_true (by omega)
   have a1:IntKind.i64.wrap ((i:Int)+1) = ((i+1:Nat):Int):=by rw [wrap64 (by omega) (by omega)]; omega
   have hr1:=hE.look h5 (by simp) fun h=>h
   unfold flat at hL
   rw [List.drop_eq_getElem_cons hi,List.flatMap_cons] at hL
   have hl2:=congrArg List.length hL
   simp only [List.length_append,List.length_cons] at hl2
   obtain ⟨lm,xkl,wl,fl,hfi,hM,hrl,hls⟩:=h6.get hi
   obtain ⟨xk,xf,xv,xs,xd,xkb,xnb,xkbs,xnbs,xkp,xnp,xkq,xnq,xkey,xof,hlm⟩:=hM.open
   rw [hlm] at hM hfi
   simp only [List.cons_append,List.nil_append] at hfi
   obtain ⟨xnl,hxnl⟩:∃ x,x = q[i].2.length:=⟨_,rfl⟩
   rw [← hxnl] at hfi hrl hl2
   have hlm:=lookH_lt hrow (by simp)
   have hkl2:=lookH_lt hrl (by simp)
   have hkl3:xkl < H.length:=by omega
   have hq1:lookH (putH H m .none) xkl = .row wl xnl 73 fun i=>.agg (fl i):=by rw [lookH_put_ne _ (by omega)]; exact hE.look hrl (by simp) fun h=>h
   simp -implicitDefEqProofs (maxSteps:=1000000) (disch:=omega) only [↓zzP,zzA,zzL,zzB,Nat.reduceSub,reduceIte,reduceCtorEq,Nat.reduceMul,Nat.reduceLT,↓reduceIte,Nat.reduceEqDiff,Nat.reduceLeDiff,Nat.reduceAdd,Array.reduceGetElem?,↓gd,↓opP,↓qv,↓ef,↓bslS,↓stS,↓appS,slot,putS,putO,ofV,fldA,idxA,rdF,Ent.row,ldS,sz,wrF,srcS,binH,binS2,binS,stor,qn,ldN,notInt,pl97,g1,hr1,hfi,hrow,lookH_at,putH_at,putH_len,lookH_pA,lookH_pA0,putH_pA,lookH_pB,hq1]
   repeat (refine ⟨by omega,?_⟩)
   obtain ⟨L2,hL2⟩:∃ L2,L2 = L++(q[i].1 :: q[i].2):=⟨_,rfl⟩
   have hn2:L.length+1+xnl = L2.length:=by rw [hL2,List.length_append,List.length_cons,hxnl]; omega
   obtain ⟨LX,hLX⟩:∃ LX:List SV,LX = [.int .i64 xk,.int .i64 xf,.int .i64 xv,.int .i64 xs,.fam 32 1 fun i=>.int .u8 (nat (xd i)),.osl xkb 0 0 1 xnb,.osl xkbs 0 0 1 xnbs,.osl xkp 0 0 73 xnp,.osl xkq 0 0 74 xnq,.int .i64 xkey,.fam 32 1 fun i=>.int .u8 (nat (xof i))]:=⟨_,rfl⟩
   refine into_sim (sim_4 (c':=.row true L2.length 73 fun i=>.agg (if i < L.length+1 then (if i < L.length then g i else LX) else fl (i - (L.length+1)))) (chSim_row hn2 fun i hi=>?_)) ?_
   ·by_cases c1:i < L.length+1
    ·rw [if_pos c1,if_pos c1]
     by_cases c2:i < L.length
     ·rw [if_pos c2,if_pos c2]
     ·rw [if_neg c2,if_neg c2,hLX,show i - L.length = 0 by omega]; rfl
    ·rw [if_neg c1,if_neg c1]
   rw [a1,hn2]
   rw [← hLX] at hM
   have hM2:MsgsH h L2 fun i=>if i < L.length+1 then (if i < L.length then g i else LX) else fl (i - (L.length+1)):=by
    rw [hL2]
    refine MsgsH.app hMs (b:=q[i].1 :: q[i].2) (g:=fun i=>if i = 0 then LX else fl (i - 1)) ?_ (fun i hi=>by rw [if_pos (by omega),if_pos hi]) (fun i hi=>?_)
    ·rw [MsgsH]
     exact ⟨by rw [if_pos rfl]; exact hM,MsgsH.mk fun i hi=>by rw [if_neg (by omega)]; exact hls.get hi⟩
    ·by_cases c:i = 0
     ·rw [if_pos (by omega),if_neg (by omega),if_pos c]
     ·rw [if_neg (by omega),if_neg c,show L.length+i - (L.length+1) = i - 1 by omega]
   exact into_keep [(2,.v (.slice none 0 0)),(3,.osl (H.length+3) 0 0 73 L2.length),(10,.osl kq 0 0 74 q.length),(11,.int .i64 (q.length:Nat)),(12,.int .i64 (i+1:Nat))] (by simp [sameT,slot,lkL]) fun j=>⟨z - 1,by omega,i+1,L2,_,H.length+3,_,j,by omega,by rw [hL2,List.append_assoc]; exact hL,(hE.put _ (.inr hm)).app _,by omega,lookH_pA _ _ _ _ 3,hM2,rfl⟩
  ·have g1:decide ((i:Int) < (q.length:Nat)) = false:=decide_eq_false (by omega)
   have hd:q.drop i = []:=List.drop_of_length_le (by omega)
   rw [hd] at hL
   unfold flat at hL
   rw [List.flatMap_nil,List.append_nil] at hL
   subst hL
   simp -implicitDefEqProofs (maxSteps:=1000000) (disch:=omega) only [↓zzP,zzA,zzL,reduceIte,reduceCtorEq,Nat.reduceLT,↓reduceIte,Nat.reduceEqDiff,↓gd,↓opP,↓qv,slot,putS,putO,binH,binS2,binS,g1]
   repeat (refine ⟨by omega,?_⟩)
   exact intoR_refl hhl (hK _ _ _ hE hm hrow (hMs.ext hE))
end Go.Proofs.Ytgocfglmideobaa
set_option linter.all false
set_option maxRecDepth 40000
namespace Go.Proofs.Ytgocfglmideobaa
open Go Go.Sx
theorem res48:Try.f48.results.toList = [.tmp 6]:=rfl
theorem res11:Try.f11.results.toList = [.tmp 2]:=rfl
abbrev CntAt (m:Msg):Prop:=∀ (l:List SV) (h:List Chunk),MsgH h m l→∀ (dp n kn:Nat),dp≤6→n≤150→lookH h kn = .cells true [.int .i64 (n:Nat)]→∀ (K:Tok→SV→List Chunk→Prop),
 (∀ n',cntM dp m n = some n'→∀ H,Ext (fun j=>j = kn) h H→lookH H kn = .cells true [.int .i64 (n':Nat)]→n'≤150→K .mk (.bool true) H) →
 (cntM dp m n = none→∀ H,Ext (fun j=>j = kn) h H→K .mk (.bool false) H)→callP Try.prog 48 [.agg l,.int .i64 (dp:Nat),.ptr kn 0] h K
set_option maxHeartbeats 8000000 in
theorem c48S (m:Msg) (hsz:blkM m≤1048576) (IH:∀ x ∈ inside m,CntAt x):CntAt m:=by
 intro l h hm dp n kn hdp hn hk K hK1 hK2
 have hci:=cntM_inside dp m n
 have hIn:=c97 m hsz
 have hm0:=hm
 obtain ⟨T,hT⟩:∃ T,T = inside m:=⟨_,rfl⟩
 have hbT:T.length≤1048576:=by
  have e1:=blk_inside m
  have e2:=blkL_len (inside m)
  rw [hT]
  omega
 rw [← hT] at hIn hci IH
 obtain ⟨k,f,v,s,d,b,bs,p,q,key,of⟩:=m
 replace hci:cntM dp (.mk k f v s d b bs p q key of) n = if dp > 5 ∨ n+1 > 150 ∨ b.length > 9000 ∨ bs.length > 520 then none else cntL (dp+1) T (n+1):=hci
 rw [MsgH] at hm
 obtain ⟨sb,sbs,kp,wp,fp,kq,wq,fq,hl,h1,h2,h3,h4,h5,h6⟩:=hm
 obtain ⟨kb,wb,rfl,hkb⟩:=h1
 obtain ⟨kbs,wbs,fb,rfl,hkbs,hfb⟩:=h2
 unfold dig32 at hl
 subst hl
 obtain ⟨R,hR⟩:∃ R,R = cntM dp (.mk k f v s d b bs p q key of) n:=⟨_,rfl⟩
 rw [← hR] at hci hK1 hK2
 have hkl:=lookH_lt hk (by simp)
 have a1:IntKind.i64.wrap ((n:Int)+1) = ((n+1:Nat):Int):=by rw [wrap64 (by omega) (by omega)]; omega
 have hk1:lookH (putH h kn (.cells true [.int .i64 ((n+1:Nat):Int)])) kn = .cells true [.int .i64 ((n+1:Nat):Int)]:=lookH_put_same _ hkl
 have hEk:∀ x,Ext (fun j=>j = kn) h (putH h kn (.cells true [.int .i64 ((n+1:Nat):Int)])++x):=fun x=>((Ext.refl (fun j=>j = kn) h).put (p:=kn) _ (.inl rfl)).app x
 refine callP_of_code tabOk Try.func48 (by kernel_rfl) rfl (Nat.le_of_ble_eq_true rfl) ?_
 rw [Try.ntmps48]
 refine codeP_seq (pl:=np) tabOk follows_mixed (by kernel_rfl) _ ?_ (fun s h=>h)
 simp -implicitDefEqProofs (maxSteps:=1000000) (disch:=omega) only [↓zzP,zzA,zzL,zzB,reduceIte,Nat.reduceLT,↓reduceIte,Nat.reduceAdd,↓gd,↓opP,↓qv,↓ef,slot,putS,putO,ofV,tupS,stor,res48]
 repeat (refine ⟨by omega,?_⟩)
 refine into_refl ?_
 refine codeP_seq (pl:=np) tabOk follows_mixed (by kernel_rfl) (fun st=>∃ (j:Nat→Value),st = ⟨⟨48,[(1,.int .i64 (dp:Nat)),(2,.ptr kn 0),(3,.ptr h.length 0),(6,.bool false)],j⟩,putH h kn (.cells true [.int .i64 ((n+1:Nat):Int)])++[Chunk.cells true [.int .i64 k,.int .i64 f,.int .i64 v,.int .i64 s,.fam 32 1 fun i=>.int .u8 (nat (d i)),.osl kb 0 0 1 b.length,.osl kbs 0 0 1 bs.length,.osl kp 0 0 73 p.length,.osl kq 0 0 74 q.length,.int .i64 key,.fam 32 1 fun i=>.int .u8 (nat (of i))]],[]⟩) ?_ ?_
 ·simp -implicitDefEqProofs (maxSteps:=1000000) (disch:=omega) only [↓zzP,zzA,zzB,reduceIte,reduceCtorEq,Nat.reduceLT,↓reduceIte,Nat.reduceEqDiff,Nat.reduceLeDiff,↓gd,↓opP,↓qv,↓ef,↓stS,slot,putS,putO,ofV,rdF,Ent.row,ldS,sz,wrF,binH,binS2,binS,stor,hk,lookH_at,putH_at,a1]
  repeat (refine ⟨by omega,?_⟩)
  exact into_keep [(1,.int .i64 (dp:Nat)),(2,.ptr kn 0),(3,.ptr h.length 0),(6,.bool false)] (by simp [sameT,slot,lkL]) fun j=>⟨j,rfl⟩
 rintro _ ⟨j0,rfl⟩
 obtain ⟨NG,hNG⟩:∃ N:Prop,N ↔ ¬ (dp > 5 ∨ n+1 > 150 ∨ b.length > 9000 ∨ bs.length > 520):=⟨_,Iff.rfl⟩
 refine codeP_seq (pl:=np) tabOk follows_mixed (by kernel_rfl) (fun st=>∃ (j:Nat→Value),NG∧st = ⟨⟨48,[(1,.int .i64 (dp:Nat)),(2,.ptr kn 0),(3,.ptr h.length 0),(6,.bool false)],j⟩,putH h kn (.cells true [.int .i64 ((n+1:Nat):Int)])++[Chunk.cells true [.int .i64 k,.int .i64 f,.int .i64 v,.int .i64 s,.fam 32 1 fun i=>.int .u8 (nat (d i)),.osl kb 0 0 1 b.length,.osl kbs 0 0 1 bs.length,.osl kp 0 0 73 p.length,.osl kq 0 0 74 q.length,.int .i64 key,.fam 32 1 fun i=>.int .u8 (nat (of i))]],[]⟩) ?_ ?_
 ·have bad:(dp > 5 ∨ n+1 > 150 ∨ b.length > 9000 ∨ bs.length > 520)→IntoR h.length (.bool false) (putH h kn (.cells true [.int .i64 ((n+1:Nat):Int)])++[Chunk.cells true [.int .i64 k,.int .i64 f,.int .i64 v,.int .i64 s,.fam 32 1 fun i=>.int .u8 (nat (d i)),.osl kb 0 0 1 b.length,.osl kbs 0 0 1 bs.length,.osl kp 0 0 73 p.length,.osl kq 0 0 74 q.length,.int .i64 key,.fam 32 1 fun i=>.int .u8 (nat (of i))]]) K:=fun c=>by
   rw [if_pos c] at hci
   exact intoR_refl (by simp [putH_len]) (hK2 hci _ (hEk _))
  by_cases g1:dp > 5
  ·have z1:decide ((dp:Int) > 5) = true:=decide_eq_true (by omega)
   simp -implicitDefEqProofs (maxSteps:=1000000) (disch:=omega) only [↓zzP,zzA,zzL,reduceIte,reduceCtorEq,Nat.reduceLT,↓reduceIte,Nat.reduceEqDiff,Array.reduceGetElem?,↓gd,↓opP,↓qv,slot,putS,putO,ofV,binH,binS2,binS,z1]
   repeat (refine ⟨by omega,?_⟩)
   exact bad (.inl g1)
  have z1:decide ((dp:Int) > 5) = false:=decide_eq_false (by omega)
  by_cases g2:n+1 > 150
  ·have z2:decide (((n+1:Nat):Int) > 150) = true:=decide_eq_true (by omega)
   simp -implicitDefEqProofs (maxSteps:=1000000) (disch:=omega) only [↓zzP,zzA,zzL,zzB,reduceIte,reduceCtorEq,Nat.reduceLT,↓reduceIte,Nat.reduceEqDiff,Array.reduceGetElem?,↓gd,↓opP,↓qv,slot,putS,putO,ofV,rdF,Ent.row,ldS,binH,binS2,binS,z1,hk1,lookH_pB,z2]
   repeat (refine ⟨by omega,?_⟩)
   exact bad (.inr (.inl g2))
  have z2:decide (((n+1:Nat):Int) > 150) = false:=decide_eq_false (by omega)
  by_cases g3:b.length > 9000
  ·have z3:decide ((b.length:Int) > 9000) = true:=decide_eq_true (by omega)
   simp -implicitDefEqProofs (maxSteps:=1000000) (disch:=omega) only [↓zzP,zzA,zzL,zzB,Nat.reduceSub,reduceIte,reduceCtorEq,Nat.reduceLT,↓reduceIte,Nat.reduceEqDiff,Nat.reduceLeDiff,Array.reduceGetElem?,↓gd,↓opP,↓qv,slot,putS,putO,ofV,fldA,lenS,rdF,Ent.row,ldS,sz,binH,binS2,binS,z1,hk1,lookH_pB,lookH_pA0,z2,z3]
   repeat (refine ⟨by omega,?_⟩)
   exact bad (.inr (.inr (.inl g3)))
  have z3:decide ((b.length:Int) > 9000) = false:=decide_eq_false (by omega)
  by_cases g4:bs.length > 520
  ·have z4:decide ((bs.length:Int) > 520) = true:=decide_eq_true (by omega)
   simp -implicitDefEqProofs (maxSteps:=1000000) (disch:=omega) only [↓zzP,zzA,zzL,zzB,Nat.reduceSub,reduceIte,reduceCtorEq,Nat.reduceLT,↓reduceIte,Nat.reduceEqDiff,Nat.reduceLeDiff,Array.reduceGetElem?,↓gd,↓opP,↓qv,slot,putS,putO,ofV,fldA,lenS,rdF,Ent.row,ldS,sz,binH,binS2,binS,z1,hk1,lookH_pB,lookH_pA0,z2,z3,z4]
   repeat (refine ⟨by omega,?_⟩)
   exact bad (.inr (.inr (.inr g4)))
  have z4:decide ((bs.length:Int) > 520) = false:=decide_eq_false (by omega)
  simp -implicitDefEqProofs (maxSteps:=1000000) (disch:=omega) only [↓zzP,zzA,zzL,zzB,Nat.reduceSub,reduceIte,reduceCtorEq,Nat.reduceLT,↓reduceIte,Nat.reduceEqDiff,Nat.reduceLeDiff,Array.reduceGetElem?,↓gd,↓opP,↓qv,slot,putS,putO,ofV,fldA,lenS,rdF,Ent.row,ldS,sz,binH,binS2,binS,z1,hk1,lookH_pB,lookH_pA0,z2,z3,z4]
  repeat (refine ⟨by omega,?_⟩)
  exact into_keep [(1,.int .i64 (dp:Nat)),(2,.ptr kn 0),(3,.ptr h.length 0),(6,.bool false)] (by simp [sameT,slot,lkL]) fun j=>⟨j,hNG.2 (by omega),rfl⟩
 rintro _ ⟨j1,hng,rfl⟩
 have ng:=hNG.1 hng
 rw [if_neg ng] at hci
 refine codeP_of_vc (pl:=np) tabOk follows_mixed (by kernel_rfl) ?_
 have hxR:ExtR h (putH h kn (.cells true [.int .i64 ((n+1:Nat):Int)])++[Chunk.cells true [.int .i64 k,.int .i64 f,.int .i64 v,.int .i64 s,.fam 32 1 fun i=>.int .u8 (nat (d i)),.osl kb 0 0 1 b.length,.osl kbs 0 0 1 bs.length,.osl kp 0 0 73 p.length,.osl kq 0 0 74 q.length,.int .i64 key,.fam 32 1 fun i=>.int .u8 (nat (of i))]]):=ext_rows (hEk _) fun k' e w n' s' f' hh=>by rw [e,hk] at hh; cases hh
 simp -implicitDefEqProofs (maxSteps:=1000000) (disch:=omega) only [↓zzP,zzA,Nat.reduceSub,reduceIte,reduceCtorEq,Nat.reduceLT,↓reduceIte,Nat.reduceEqDiff,Nat.reduceLeDiff,↓gd,↓opP,↓qv,slot,putS,putO,rdF,Ent.row,ldS,sz,lookH_pA0]
 repeat (refine ⟨by omega,?_⟩)
 refine hIn _ _ (hm0.extR hxR) _ ?_
 intro H0 m g hE0 hm1 hrow0 hMs0
 have hk2:lookH H0 kn = .cells true [.int .i64 ((n+1:Nat):Int)]:=hE0.look (by rw [lookH_pB _ _ hkl]; exact hk1) (by simp) fun h=>h
 have hEa:=(hEk [Chunk.cells true [.int .i64 k,.int .i64 f,.int .i64 v,.int .i64 s,.fam 32 1 fun i=>.int .u8 (nat (d i)),.osl kb 0 0 1 b.length,.osl kbs 0 0 1 bs.length,.osl kp 0 0 73 p.length,.osl kq 0 0 74 q.length,.int .i64 key,.fam 32 1 fun i=>.int .u8 (nat (of i))]]).trans (hE0.mono fun _ h=>h.elim)
 rw [List.length_append,putH_len] at hm1
 obtain ⟨H00,hH00⟩:∃ H00,H00 = H0:=⟨_,rfl⟩
 have hrow:lookH H00 m = .row true T.length 73 (fun i=>.agg (g i)):=by rw [hH00]; exact hrow0
 have hMs:MsgsH H00 T g:=by rw [hH00]; exact hMs0
 have hk3:lookH H00 kn = .cells true [.int .i64 ((n+1:Nat):Int)]:=by rw [hH00]; exact hk2
 have hl0:h.length≤H00.length:=by rw [hH00]; exact hEa.1
 clear hrow0 hMs0
 simp -implicitDefEqProofs (maxSteps:=1000000) (disch:=omega) only [↓zzP,zzA,reduceIte,reduceCtorEq,Nat.reduceLT,↓reduceIte,↓gd,↓opP,↓qv,slot,putS,putO,ofV,lenS]
 repeat (refine ⟨by omega,?_⟩)
 refine codeP_loop (pl:=np) tabOk follows_mixed (by kernel_rfl) (fun z st=>∃ (i:Nat) (H:List Chunk) (ni:Nat) (j:Nat→Value),i+z = T.length∧R = cntL (dp+1) (T.drop i) ni∧ni≤150∧Ext (fun j=>j = kn) h H∧Ext (fun j=>j = kn) H00 H∧lookH H kn = .cells true [.int .i64 (ni:Nat)]∧st = ⟨⟨48,[(1,.int .i64 (dp:Nat)),(2,.ptr kn 0),(6,.bool false),(35,.osl m 0 0 73 T.length),(36,.int .i64 (T.length:Nat)),(37,.int .i64 (i:Nat))],j⟩,H,[]⟩) ?_ ?_
 ·exact into_keep [(1,.int .i64 (dp:Nat)),(2,.ptr kn 0),(6,.bool false),(35,.osl m 0 0 73 T.length),(36,.int .i64 (T.length:Nat)),(37,.int .i64 (0:Nat))] (by simp [sameT,slot,lkL]) fun j=>⟨T.length,0,H0,n+1,j,by omega,hci,by omega,hEa,by rw [hH00]; exact Ext.refl _ _,hk2,rfl⟩
 ·rintro z st ⟨i,H,ni,j,hiz,hRi,hni,hE,hEH,hkH,rfl⟩
  by_cases hi:i < T.length
  ·have g1:decide ((i:Int) < (T.length:Nat)) = true:=decide_eq_true (by omega)
   have a2:IntKind.i64.wrap ((i:Int)+1) = ((i+1:Nat):Int):=by rw [wrap64 (by omega) (by omega)]; omega
   have a3:IntKind.i64.wrap ((dp:Int)+1) = ((dp+1:Nat):Int):=by rw [wrap64 (by omega) (by omega)]; omega
   have hr1:=hEH.look hrow (by simp) fun e=>by rw [e,hk3] at hrow; cases hrow
   have hEr:ExtR H00 H:=ext_rows hEH fun k' e w n' s' f' hh=>by rw [e,hk3] at hh; cases hh
   rw [List.drop_eq_getElem_cons hi,cntL] at hRi
   have hM:=(hMs.get hi).extR hEr
   have hIH:=IH T[i] (List.getElem_mem hi)
   obtain ⟨xk,xf,xv,xs,xd,xkb,xnb,xkbs,xnbs,xkp,xnp,xkq,xnq,xkey,xof,hfi⟩:=hM.open
   rw [hfi] at hM
   have hlk:=lookH_lt hkH (by simp)
   simp -implicitDefEqProofs (maxSteps:=1000000) (disch:=omega) only [↓zzP,zzA,zzL,zzB,Nat.reduceSub,reduceIte,reduceCtorEq,Nat.reduceLT,↓reduceIte,Nat.reduceEqDiff,Nat.reduceLeDiff,Nat.reduceAdd,↓gd,↓opP,↓qv,↓ef,↓stS,slot,putS,putO,ofV,idxA,rdF,Ent.row,ldS,sz,wrF,binH,binS2,binS,stor,g1,hr1,hfi,a3]
   repeat (refine ⟨by omega,?_⟩)
   refine hIH _ _ (hM.ext ((Ext.refl _ _).app _)) (dp+1) ni kn (by omega) hni (by rw [lookH_at _ hlk]; exact hkH) _ ?_ ?_
   ·intro n' hn' H2 hE2 hk4 hn5
    rw [hn'] at hRi
    have hE3:=(hE.app [Chunk.cells true [.int .i64 xk,.int .i64 xf,.int .i64 xv,.int .i64 xs,.fam 32 1 fun i=>.int .u8 (nat (xd i)),.osl xkb 0 0 1 xnb,.osl xkbs 0 0 1 xnbs,.osl xkp 0 0 73 xnp,.osl xkq 0 0 74 xnq,.int .i64 xkey,.fam 32 1 fun i=>.int .u8 (nat (xof i))]]).trans (hE2.mono fun _ h=>h)
    have hEH3:=(hEH.app [Chunk.cells true [.int .i64 xk,.int .i64 xf,.int .i64 xv,.int .i64 xs,.fam 32 1 fun i=>.int .u8 (nat (xd i)),.osl xkb 0 0 1 xnb,.osl xkbs 0 0 1 xnbs,.osl xkp 0 0 73 xnp,.osl xkq 0 0 74 xnq,.int .i64 xkey,.fam 32 1 fun i=>.int .u8 (nat (xof i))]]).trans (hE2.mono fun _ h=>h)
    simp -implicitDefEqProofs (maxSteps:=1000000) (disch:=omega) only [↓zzP,zzA,reduceIte,Nat.reduceLT,↓reduceIte,Nat.reduceEqDiff,↓gd,↓opP,↓qv,slot,putS,putO,ofV,unS,binH,binS2,binS,a2]
    repeat (refine ⟨by omega,?_⟩)
    exact into_keep [(1,.int .i64 (dp:Nat)),(2,.ptr kn 0),(6,.bool false),(35,.osl m 0 0 73 T.length),(36,.int .i64 (T.length:Nat)),(37,.int .i64 (i+1:Nat))] (by simp [sameT,slot,lkL]) fun j=>⟨z - 1,by omega,i+1,H2,n',j,by omega,hRi,hn5,hE3,hEH3,hk4,rfl⟩
   ·intro hn' H2 hE2
    rw [hn'] at hRi
    have hE3:=(hE.app [Chunk.cells true [.int .i64 xk,.int .i64 xf,.int .i64 xv,.int .i64 xs,.fam 32 1 fun i=>.int .u8 (nat (xd i)),.osl xkb 0 0 1 xnb,.osl xkbs 0 0 1 xnbs,.osl xkp 0 0 73 xnp,.osl xkq 0 0 74 xnq,.int .i64 xkey,.fam 32 1 fun i=>.int .u8 (nat (xof i))]]).trans (hE2.mono fun _ h=>h)
    simp -implicitDefEqProofs (maxSteps:=1000000) (disch:=omega) only [↓zzP,zzA,reduceIte,reduceCtorEq,Nat.reduceLT,↓reduceIte,↓gd,↓opP,↓qv,slot,putS,putO,ofV,unS]
    repeat (refine ⟨by omega,?_⟩)
    exact intoR_refl hE3.1 (hK2 hRi _ hE3)
  ·have g1:decide ((i:Int) < (T.length:Nat)) = false:=decide_eq_false (by omega)
   have hd:T.drop i = []:=List.drop_of_length_le (by omega)
   rw [hd,cntL] at hRi
   simp -implicitDefEqProofs (maxSteps:=1000000) (disch:=omega) only [↓zzP,zzA,zzL,reduceIte,reduceCtorEq,Nat.reduceLT,↓reduceIte,Nat.reduceEqDiff,↓gd,↓opP,↓qv,slot,putS,putO,ofV,binH,binS2,binS,g1]
   repeat (refine ⟨by omega,?_⟩)
   exact intoR_refl hE.1 (hK1 _ hRi _ hE hkH hni)
theorem c48:∀ (N:Nat) (m:Msg),blkM m≤N→blkM m≤1048576→CntAt m
 | 0,m,h,_=>by have:=blkM_pos m; omega
 | N+1,m,h,hs=>c48S m hs fun x hx=>by
  have h1:=blkL_mem x hx
  have h2:=blk_inside m
  exact c48 N x (by omega) (by omega)
set_option maxHeartbeats 4000000 in
theorem c11 (m:Msg) (hsz:blkM m≤1048576) (l:List SV) (h:List Chunk) (hm:MsgH h m l) (K:Tok→SV→List Chunk→Prop) (hK:K .mk (.bool (cntM 1 m 0).isSome) h):callP Try.prog 11 [.agg l] h K:=by
 refine callP_good fun hgood=>?_
 obtain ⟨xk,xf,xv,xs,xd,xkb,xnb,xkbs,xnbs,xkp,xnp,xkq,xnq,xkey,xof,rfl⟩:=hm.open
 refine callP_of_code tabOk Try.func11 (by kernel_rfl) rfl (Nat.le_of_ble_eq_true rfl) (codeP_of_vc (pl:=np) tabOk follows_mixed (by kernel_rfl) ?_)
 rw [Try.ntmps11]
 simp -implicitDefEqProofs (maxSteps:=1000000) (disch:=omega) only [↓zzP,zzA,zzL,zzB,Nat.reduceSub,reduceIte,reduceCtorEq,Nat.reduceLT,↓reduceIte,Nat.reduceEqDiff,Nat.reduceLeDiff,↓gd,↓opP,↓qv,↓ef,↓stS,slot,putS,putO,ofV,rdF,Ent.row,ldS,sz,wrF,tupS,stor,res11]
 repeat (refine ⟨by omega,?_⟩)
 have hE0:Ext (fun _=>False) h (h++[Chunk.cells true [.int .i64 xk,.int .i64 xf,.int .i64 xv,.int .i64 xs,.fam 32 1 fun i=>.int .u8 (nat (xd i)),.osl xkb 0 0 1 xnb,.osl xkbs 0 0 1 xnbs,.osl xkp 0 0 73 xnp,.osl xkq 0 0 74 xnq,.int .i64 xkey,.fam 32 1 fun i=>.int .u8 (nat (xof i))],.cells true [.int .i64 0]]):=(Ext.refl _ _).app _
 have fin:∀ H,Ext (fun j=>j = h.length+1) (h++[Chunk.cells true [.int .i64 xk,.int .i64 xf,.int .i64 xv,.int .i64 xs,.fam 32 1 fun i=>.int .u8 (nat (xd i)),.osl xkb 0 0 1 xnb,.osl xkbs 0 0 1 xnbs,.osl xkp 0 0 73 xnp,.osl xkq 0 0 74 xnq,.int .i64 xkey,.fam 32 1 fun i=>.int .u8 (nat (xof i))],.cells true [.int .i64 0]]) H→H = h++H.drop h.length:=fun H hE=>ext_eq ⟨Nat.le_trans hE0.1 hE.1,fun k hk hn=>by
  rw [hE.2 k (Nat.lt_of_lt_of_le hk hE0.1) (by omega)]
  exact hE0.2 k hk hn⟩
 refine c48 _ m (Nat.le_refl _) hsz _ _ (hm.ext hE0) 1 0 (h.length+1) (by omega) (by omega) (lookH_app _ 1 _) _ ?_ ?_
 ·intro n' hn' H hE _ _
  rw [hn'] at hK
  simp -implicitDefEqProofs (maxSteps:=1000000) (disch:=omega) only [↓zzP,zzA,reduceIte,Nat.reduceLT,↓reduceIte,↓gd,↓opP,↓qv,slot,putS,putO]
  repeat (refine ⟨by omega,?_⟩)
  rw [fin H hE]
  exact intoR_drop hgood trivial hK
 ·intro hn' H hE
  rw [hn'] at hK
  simp -implicitDefEqProofs (maxSteps:=1000000) (disch:=omega) only [↓zzP,zzA,reduceIte,Nat.reduceLT,↓reduceIte,↓gd,↓opP,↓qv,slot,putS,putO]
  repeat (refine ⟨by omega,?_⟩)
  rw [fin H hE]
  exact intoR_drop hgood trivial hK
end Go.Proofs.Ytgocfglmideobaa
set_option linter.all false
set_option maxRecDepth 40000
namespace Go.Proofs.Ytgocfglmideobaa
open Go Go.Sx
theorem lkL_map (ρ:Env) (j:Nat→Value):∀ (l l':List (Nat × SV)),(l'.map fun p=>(p.1,den ρ p.2)) = (l.map fun p=>(p.1,den ρ p.2))→∀ i,den ρ (lkL l' j i) = den ρ (lkL l j i)
 | [],[],_,_=>rfl
 | [],_ :: _,h,_=>by simp at h
 | _ :: _,[],h,_=>by simp at h
 | (k,v) :: l,(k',v') :: l',h,i=>by
  simp only [List.map_cons,List.cons.injEq,Prod.mk.injEq] at h
  obtain ⟨⟨rfl,h1⟩,h2⟩:=h
  simp only [lkL]
  split
  ·exact h1
  ·exact lkL_map ρ j l l' h2 i
theorem into_nil {nf n:Nat} {l:List (Nat × SV)} {j:Nat→Value} {h:List Chunk} {d:List Deferred} {J:St→Prop} (l':List (Nat × SV)) (s:Nat) (f:Nat→SV)
  (hl:∀ ρ:Env,ρ h.length = ⟨0,0,0,true,none⟩→(l'.map fun p=>(p.1,den ρ p.2)) = (l.map fun p=>(p.1,den ρ p.2))) (ho:okE (h.length+1) n l') (hJ:Into nf ⟨⟨n,l',j⟩,h++[.row true 0 s f],d⟩ J):Into nf ⟨⟨n,l,j⟩,h,d⟩ J:=fun C ρ w hC hM hok=>by
 have hM1:Models C (upd ρ h.length ⟨0,0,0,true,none⟩) (h++[.row true 0 s f]) w:=hM.alloc (Keep.refl _ _) (fun h=>by cases h) ⟨fun i hi=>absurd hi (by omega),fun i hi=>absurd hi (by omega)⟩ (by simp [Holds,upd])
 have ha:Agree h.length ρ (upd ρ h.length ⟨0,0,0,true,none⟩):=fun k hk=>by simp [upd,show k ≠ h.length by omega]
 obtain ⟨ρ',st',h1,h2,h3,h4⟩:=hJ C _ w hC hM1 ⟨hok.1,by simpa using ho⟩
 refine ⟨ρ',st',h1,h2,h3,?_⟩
 rw [← h4]
 have e:tmpsD ρ ⟨n,l,j⟩ = tmpsD (upd ρ h.length ⟨0,0,0,true,none⟩) ⟨n,l',j⟩:=by
  rw [← tmpsD_agree ha hok]
  unfold tmpsD
  apply List.map_congr_left
  intro i _
  exact (lkL_map _ j l l' (hl _ (by simp [upd])) i).symm
 simp only [act,e]
theorem callP_nil {P:Pr} {f:FuncId} {args args':List SV} {h:List Chunk} {K:Tok→SV→List Chunk→Prop} (s:Nat) (F:Nat→SV) (ha:∀ ρ:Env,ρ h.length = ⟨0,0,0,true,none⟩→denL ρ args' = denL ρ args) (ho:okL (h.length+1) args') (hc:callP P f args' (h++[.row true 0 s F]) K):callP P f args h K:=by
 intro C ρ w hk hM hok
 have hM1:Models C (Sx.upd ρ h.length ⟨0,0,0,true,none⟩) (h++[.row true 0 s F]) w:=hM.alloc (Keep.refl _ _) (fun h=>by cases h) ⟨fun i hi=>absurd hi (by omega),fun i hi=>absurd hi (by omega)⟩ (by simp [Holds,Sx.upd])
 have hag:Agree h.length ρ (Sx.upd ρ h.length ⟨0,0,0,true,none⟩):=fun k hk=>by simp [Sx.upd,show k ≠ h.length by omega]
 have hd:denL ρ args = denL (Sx.upd ρ h.length ⟨0,0,0,true,none⟩) args':=by
  rw [ha _ (by simp [Sx.upd])]
  exact (denL_agree hag args hok).symm
 have fin:∀ (ρ':Env) (sv:SV) (h':List Chunk),Agree (h++[Chunk.row true 0 s F]).length (Sx.upd ρ h.length ⟨0,0,0,true,none⟩) ρ'→(h++[Chunk.row true 0 s F]).length≤h'.length→Agree h.length ρ ρ'∧h.length≤h'.length:=fun ρ' sv h' h1 h2=>by
  rw [List.length_append,List.length_singleton] at h1 h2
  exact ⟨fun k hk=>(h1 k (by omega)).trans (hag k hk),by omega⟩
 rw [hd]
 rcases hc C _ w hk hM1 (by simpa using ho) with ⟨w',ρ',sv,h',q1,q2,q3,q4,q5,q6⟩ | ⟨q1,q2⟩
 ·obtain ⟨p1,p2⟩:=fin ρ' sv h' q4 q6
  exact .inl ⟨w',ρ',sv,h',q1,q2,q3,p1,q5,p2⟩
 ·refine .inr ⟨q1,fun F n hF hro=>CallsIn.mono (q2 F n hF hro) ?_⟩
  rintro e w' ⟨ρ',sv,h',rfl,r2,r3,r4,r5,r6⟩
  obtain ⟨p1,p2⟩:=fin ρ' sv h' r4 r6
  exact ⟨ρ',sv,h',rfl,r2,r3,p1,r5,p2⟩
theorem callP_emp {P:Pr} {f:FuncId} {k s:Nat} {rest:List SV} {h:List Chunk} {K:Tok→SV→List Chunk→Prop} (hc:∀ a c,callP P f (.v (.slice a 0 c) :: rest) h K):callP P f (.osl k 0 0 s 0 :: rest) h K:=by
 intro C ρ w hk hM hok
 obtain ⟨a,c,e⟩:∃ a c,den ρ (.osl k 0 0 s 0) = .slice a 0 c:=⟨_,_,rfl⟩
 have:=hc a c C ρ w hk hM ⟨trivial,hok.2⟩
 have e2:denL ρ (.osl k 0 0 s 0 :: rest) = denL ρ (.v (.slice a 0 c) :: rest):=by
  simp only [denL,e]
  rfl
 rw [e2]
 exact this
theorem extR_unput {H:List Chunk} {m:Nat}:ExtR (putH H m .none) H:=fun k w n s f hk=>by
 by_cases e:k = m
 ·subst e
  by_cases hl:k < H.length
  ·rw [lookH_put_same _ hl] at hk; cases hk
  ·have h1:lookH (putH H k .none) k = .none:=Classical.byContradiction fun hne=>by
    have:=lookH_lt (h:=putH H k .none) (p:=k) rfl hne
    rw [putH_len] at this
    exact hl this
   rw [h1] at hk; cases hk
 ·rwa [lookH_put_ne _ e] at hk
def fresh (n:Nat) (H:List Chunk):List Chunk:=List.replicate n .none++H.drop n
theorem lookH_rep:∀ (n k:Nat) (l:List Chunk),k < n→lookH (List.replicate n .none++l) k = .none
 | 0,k,l,h=>absurd h (Nat.not_lt_zero _)
 | n+1,0,l,h=>rfl
 | n+1,k+1,l,h=>lookH_rep n k l (by omega)
theorem lookH_drop:∀ (n k:Nat) (H:List Chunk),lookH (H.drop n) k = lookH H (n+k)
 | 0,k,H=>by simp
 | n+1,k,[]=>by simp [lookH]
 | n+1,k,c :: H=>by
  rw [List.drop_succ_cons,lookH_drop n k H,show n+1+k = (n+k)+1 by omega]
  rfl
theorem fresh_look (n k:Nat) (H:List Chunk):lookH (fresh n H) k = if k < n then .none else lookH H k:=by
 unfold fresh
 by_cases h:k < n
 ·rw [if_pos h,lookH_rep n k _ h]
 ·rw [if_neg h]
  have:=lookH_app (H.drop n) (k - n) (List.replicate n .none)
  rw [List.length_replicate,show n+(k - n) = k by omega] at this
  rw [this,lookH_drop,show n+(k - n) = k by omega]
theorem extR_fresh (n:Nat) (H:List Chunk):ExtR (fresh n H) H:=fun k w m s f hk=>by
 rw [fresh_look] at hk
 split at hk
 ·cases hk
 ·exact hk
theorem extR_f1 {n m:Nat} {H:List Chunk}:ExtR (fresh n (putH H m .none)) (fresh n H):=fun k w a s f hk=>by
 rw [fresh_look] at hk ⊢
 split at hk
 ·cases hk
 ·rw [if_neg (by assumption)]
  exact extR_unput _ _ _ _ _ hk
theorem extR_f2 {n m:Nat} {H H1:List Chunk} (hE:Ext (fun _=>False) H H1) (x:List Chunk):ExtR (fresh n (putH H m .none)) (fresh n (putH H1 m .none++x)):=fun k w a s f hk=>by
 rw [fresh_look] at hk ⊢
 split at hk
 ·cases hk
 ·rename_i c
  rw [if_neg c]
  have e:k ≠ m:=fun e=>by
   have h1:=extR_unput _ _ _ _ _ hk
   subst e
   rw [lookH_put_same _ (lookH_lt h1 (by simp))] at hk
   cases hk
  rw [lookH_put_ne _ e] at hk
  have h1:=hE.look hk (by simp) fun h=>h
  rw [lookH_at _ (by rw [putH_len]; exact lookH_lt h1 (by simp)),lookH_put_ne _ e]
  exact h1
theorem extR_f3 {n a m:Nat} {H1:List Chunk} (hn:n≤a) (hm:m < a) (x:List Chunk):ExtR (fresh a H1) (fresh n (putH H1 m .none++x)):=fun k w b s f hk=>by
 rw [fresh_look] at hk ⊢
 split at hk
 ·cases hk
 ·rename_i c
  rw [if_neg (by omega),lookH_at _ (by rw [putH_len]; exact lookH_lt hk (by simp)),lookH_put_ne _ (by omega)]
  exact hk
theorem extR_f4 {n:Nat} {H H1:List Chunk} (hE:Ext (fun _=>False) H H1):ExtR (fresh n H) (fresh n H1):=fun k w a s f hk=>by
 rw [fresh_look] at hk ⊢
 split at hk
 ·cases hk
 ·rw [if_neg (by assumption)]
  exact hE.look hk (by simp) fun h=>h
theorem extR_f5 {n a:Nat} {H1:List Chunk} (hn:n≤a):ExtR (fresh a H1) (fresh n H1):=fun k w b s f hk=>by
 rw [fresh_look] at hk ⊢
 split at hk
 ·cases hk
 ·rw [if_neg (by omega)]
  exact hk
theorem extR_app (H x:List Chunk):ExtR H (H++x):=fun k w n s f hk=>by rw [lookH_at _ (lookH_lt hk (by simp))]; exact hk
theorem extR_cells {n k:Nat} {H:List Chunk} {wr:Bool} {fs:List SV} (c:Chunk) (hk:lookH H k = .cells wr fs):ExtR (fresh n H) (fresh n (putH H k c)):=fun j w b s f hj=>by
 rw [fresh_look] at hj ⊢
 split at hj
 ·cases hj
 ·rw [if_neg (by assumption),lookH_put_ne _ fun e=>by rw [e,hk] at hj; cases hj]
  exact hj
theorem into_bind {nf:Nat} {st:St} {J' J:St→Prop} (h:Into nf st J') (hj:∀ st,J' st→Into nf st J):Into nf st J:=fun C ρ w hC hM hok=>by
 obtain ⟨ρ1,st1,h1,h2,h3,h4⟩:=h C ρ w hC hM hok
 obtain ⟨ρ2,st2,g1,g2,g3,g4⟩:=hj _ h1 C ρ1 w hC h2 h3
 exact ⟨ρ2,st2,g1,g2,g3,h4.trans g4⟩
abbrev OutO (H:List Chunk) (l:List Msg) (K:Tok→SV→List Chunk→Prop):Prop :=
 ∀ H' k' f,Ext (fun _=>False) H H'→H.length≤k'→lookH H' k' = .row true l.length 73 (fun i=>.agg (f i))→MsgsH (fresh H.length H') l f→K .mk (.osl k' 0 0 73 l.length) H'
abbrev OutW (H:List Chunk) (m:Msg) (K:Tok→SV→List Chunk→Prop):Prop :=
 ∀ H' l',Ext (fun _=>False) H H'→MsgH (fresh H.length H') m l'→K .mk (.agg l') H'
end Go.Proofs.Ytgocfglmideobaa
set_option linter.all false
set_option maxRecDepth 100000
namespace Go.Proofs.Ytgocfglmideobaa
open Go Go.Sx Go.RowKit Go.WideShapes Go.ChangeShapes
theorem cut_step {α:Type} (cs:List α) (o s:Nat):(cs.drop o).take s++cs.drop (o+s) = cs.drop o:=by
 rw [← List.drop_drop,List.take_append_drop]
theorem fam_cells (ρ:Env) (n:Nat) (D:Nat→BitVec 8):(den ρ (.fam n 1 fun i=>.int .u8 (nat (D i)))).cells.toList = (List.range n).map fun i=>Value.int .u8 (nat (D i)):=by
 rw [cells_fam]
 generalize List.range n = l
 induction l with
 | nil=>rfl
 | cons a l ih=>rw [List.flatMap_cons,ih]; rfl
theorem row_bytes {H:Type} {enc:TypeId × Value→H} {W:World} {t n fuel:Nat} {cs:List Value} {x:DataW H × List MemPlace} (ht:Try.prog.underlying t = some (.array n 5)) (hct:Try.prog.cellsOf t = n)
  (h:DataW.trod enc Try.prog W 0 (fun _=>true) true fuel t cs = some x):∃ D:Nat→BitVec 8,cs = (List.range n).map fun i=>Value.int .u8 (nat (D i)):=by
 have hc:Try.prog.cellsOf 5 = 1:=by kernel_rfl
 obtain ⟨xs,m,_,_,hl,hxl,hx⟩:=DataW.trod_array ht h
 rw [hct] at hl
 have hz:∀ i,i < n→∃ z:BitVec 8,cs[i]? = some (.int .u8 (nat z)):=fun i hi=>by
  have h1:=hx i hi
  rw [List.getElem?_eq_getElem (by omega),hc,Nat.mul_one] at h1
  obtain ⟨z,h2,_,h3⟩:=DataW.trod_int Try.underlying5 h1
  refine ⟨BitVec.ofInt 8 z,?_⟩
  rw [← wf_u8 h3]
  have h4:((cs.drop i).take 1)[0]? = some (.int .u8 z):=by rw [h2]; rfl
  simpa [List.getElem?_take,List.getElem?_drop] using h4
 obtain ⟨D,hD⟩:=Go.Deep.choose_lt (α:=BitVec 8) hz
 refine ⟨D,List.ext_getElem? fun i=>?_⟩
 rcases Nat.lt_or_ge i n with hi | hi
 ·rw [hD i hi]
  simp [hi]
 ·rw [List.getElem?_eq_none (by omega),List.getElem?_eq_none (by simpa using hi)]
def bulk {H:Type} (d:DataW H):Nat:=Rows.uptoBulk d
theorem bulk_all {H:Type}:∀ l:List (DataW H),Rows.uptoBulkAll l = (l.map bulk).sum
 | []=>by simp [Rows.uptoBulkAll]
 | d :: l=>by simp [Rows.uptoBulkAll,bulk_all l,bulk]
theorem bulk_slice {H:Type} (l r:List (DataW H)):(l.map bulk).sum+1≤bulk (.slice l r):=by
 rw [← bulk_all]
 simp only [bulk,Rows.uptoBulk]
 omega
theorem bulk_agg {H:Type} (l:List (DataW H)):bulk (.agg l) = (l.map bulk).sum+1:=by
 rw [← bulk_all]
 simp only [bulk,Rows.uptoBulk]
theorem rng_wf {a:Int} (h:(Lit.int .i64 a).wf = true):rng a:=by
 have hb:-9223372036854775808≤a∧a≤9223372036854775807:=by simpa [Lit.wf,IntKind.min,IntKind.max,IntKind.signed,IntKind.bits] using h
 unfold rng
 omega
theorem rwIn_extR {h h':List Chunk} (hE:RwIn h h'):ExtR h h':=hE
def RelB (_:List Chunk) (b:By) (sv:SV):Prop:=sv = .int .u8 (nat b)
def RelBs (h:List Chunk) (b:List By) (sv:SV):Prop:=rowB h sv b
def RelM (h:List Chunk) (m:Msg) (sv:SV):Prop:=∃ l,sv = .agg l∧MsgH h m l∧wfM m
def RelP (h:List Chunk) (x:Msg × List Msg) (sv:SV):Prop:=∃ l,sv = .agg l∧(∃ lm kl wl fl,l = lm++[.osl kl 0 0 73 x.2.length]∧MsgH h x.1 lm∧lookH h kl = .row wl x.2.length 73 (fun i=>.agg (fl i))∧MsgsH h x.2 fl)∧wfM x.1∧wfL x.2
def unagg:SV→List SV | .agg l=>l | _=>[]
def fixB (X:List By) (_:Nat→SV) (i:Nat):SV:=.int .u8 (nat (X.getD i 0))
def fixBs (_:List (List By)) (F:Nat→SV) (i:Nat):SV:=F i
def fixA {α:Type} (_:List α) (F:Nat→SV) (i:Nat):SV:=.agg (unagg (F i))
theorem wfL.mk:∀ {l:List Msg},(∀ i (hi:i < l.length),wfM l[i])→wfL l
 | [],_=>by rw [wfL]; trivial
 | m :: l,h=>by
  rw [wfL]
  exact ⟨h 0 (by simp),wfL.mk fun i hi=>h (i+1) (by simpa using hi)⟩
theorem wfQ.mk:∀ {l:List (Msg × List Msg)},(∀ i (hi:i < l.length),wfM l[i].1∧wfL l[i].2)→wfQ l
 | [],_=>by rw [wfQ]; trivial
 | (m,p) :: l,h=>by
  rw [wfQ]
  have h0:=h 0 (by simp)
  exact ⟨⟨h0.1,h0.2⟩,wfQ.mk fun i hi=>h (i+1) (by simpa using hi)⟩
theorem PrepsH.mk {h:List Chunk}:∀ {p:List (Msg × List Msg)} {f:Nat→List SV},(∀ i (hi:i < p.length),∃ lm kl wl fl,f i = lm++[.osl kl 0 0 73 p[i].2.length]∧MsgH h p[i].1 lm∧lookH h kl = .row wl p[i].2.length 73 (fun i=>.agg (fl i))∧MsgsH h p[i].2 fl)→PrepsH h p f
 | [],_,_=>by rw [PrepsH]; trivial
 | (m,l) :: r,f,H=>by
  rw [PrepsH]
  exact ⟨H 0 (by simp),PrepsH.mk fun i hi=>H (i+1) (by simpa using hi)⟩
theorem blkL_sum:∀ l:List Msg,blkL l = (l.map blkM).sum
 | []=>by simp [blkL]
 | m :: l=>by simp [blkL,blkL_sum l]
theorem blkQ_sum:∀ l:List (Msg × List Msg),blkQ l = (l.map fun x=>1+(blkM x.1+blkL x.2)).sum
 | []=>by simp [blkQ]
 | (m,p) :: l=>by simp [blkQ,blkQ_sum l]
section
variable {H:Type} {enc:TypeId × Value→H} {W:World}
theorem opn_byte {fuel:Nat} {cs:List Value} {y:DataW H × List MemPlace} (h:DataW.trod enc Try.prog W 0 (fun _=>true) true fuel 5 cs = some y) (b:Nat):Opn W RelB (fun _=>0) cs b:=fun k0=>by
 obtain ⟨z,rfl,_,h3⟩:=DataW.trod_int Try.underlying5 h
 refine ⟨[],[],BitVec.ofInt 8 z,.int .u8 z,Lies.nil _ _,by rw [RelB,← wf_u8 h3],trivial,trivial,rfl,fun ρ _=>rfl,Nat.zero_le _⟩
theorem opn_bytes {fuel:Nat} {cs:List Value} {x:DataW H × List MemPlace} (h:DataW.trod enc Try.prog W 0 (fun _=>true) true fuel 24 cs = some x):Opn W RelBs (fun _=>0) cs (bulk x.1):=fun k0=>by
 have hc:Try.prog.cellsOf 5 = 1:=by kernel_rfl
 obtain ⟨ps,hh,X,sv,h1,⟨k,F,e1,e2,e3⟩,h3,h4,h5,h6,h7⟩:=opn_slice (N:=bulk x.1) bulk bulk_slice (Rel:=RelB) (fun _ _ _ _ _ h=>h) (β:=fun _=>0) (s:=1) (by omega) fixB (fun _ X F hF i hi=>by rw [hF i hi,fixB]; simp [hi]) Try.underlying24 hc h (Nat.le_refl _) (fun fuel cs y hy _ _=>opn_byte hy _) k0
 exact ⟨ps,hh,X,sv,h1,⟨k,false,e1,e2⟩,h3,h4,h5,h6,Nat.zero_le _⟩
theorem RelBs.mono (h h':List Chunk) (b:List By) (sv:SV) (hE:RwIn h h') (hb:RelBs h b sv):RelBs h' b sv:=rowB.extR hb (rwIn_extR hE)
theorem RelM.mono (h h':List Chunk) (b:Msg) (sv:SV) (hE:RwIn h h') (hb:RelM h b sv):RelM h' b sv:=by
 obtain ⟨l,h1,h2,h3⟩:=hb
 exact ⟨l,h1,h2.extR (rwIn_extR hE),h3⟩
theorem RelP.mono (h h':List Chunk) (b:Msg × List Msg) (sv:SV) (hE:RwIn h h') (hb:RelP h b sv):RelP h' b sv:=by
 obtain ⟨l,h1,⟨lm,kl,wl,fl,h2,h3,h4,h5⟩,h6⟩:=hb
 exact ⟨l,h1,⟨lm,kl,wl,fl,h2,h3.extR (rwIn_extR hE),hE _ _ _ _ _ h4,MsgsH.extR (rwIn_extR hE) h5⟩,h6⟩
theorem opn_bytess {fuel:Nat} {cs:List Value} {x:DataW H × List MemPlace} (h:DataW.trod enc Try.prog W 0 (fun _=>true) true fuel 25 cs = some x):Opn W (RowR 1 RelBs fixBs) (fun _=>0) cs (bulk x.1):=fun k0=>by
 have hc:Try.prog.cellsOf 24 = 1:=by kernel_rfl
 obtain ⟨ps,hh,X,sv,h1,h2,h3,h4,h5,h6,h7⟩:=opn_slice (N:=bulk x.1) bulk bulk_slice (Rel:=RelBs) RelBs.mono (β:=fun _=>0) (s:=1) (by omega) fixBs (fun _ X F _ i _=>rfl) Try.underlying25 hc h (Nat.le_refl _) (fun fuel cs y hy _ _=>opn_bytes hy) k0
 exact ⟨ps,hh,X,sv,h1,h2,h3,h4,h5,h6,Nat.zero_le _⟩
theorem opn_msgs {N fuel:Nat} {cs:List Value} {x:DataW H × List MemPlace} (IH:∀ fuel cs y,DataW.trod enc Try.prog W 0 (fun _=>true) true fuel 31 cs = some y→bulk y.1 < N→Opn W RelM blkM cs (bulk y.1)) (h:DataW.trod enc Try.prog W 0 (fun _=>true) true fuel 26 cs = some x) (hN:bulk x.1≤N):Opn W (RowR 73 RelM fixA) blkL cs (bulk x.1):=fun k0=>by
 have hc:Try.prog.cellsOf 31 = 73:=by kernel_rfl
 obtain ⟨ps,hh,X,sv,h1,h2,h3,h4,h5,h6,h7⟩:=opn_slice bulk bulk_slice (Rel:=RelM) RelM.mono (β:=blkM) (s:=73) (by omega) fixA (fun _ X F hF i hi=>by obtain ⟨l,e,_⟩:=hF i hi; rw [fixA,e]; rfl) Try.underlying26 hc h hN (fun fuel cs y hy _ hb=>IH fuel cs y hy hb) k0
 exact ⟨ps,hh,X,sv,h1,h2,h3,h4,h5,h6,by rw [blkL_sum]; exact h7⟩
theorem rowR_msgs {h:List Chunk} {X:List Msg} {sv:SV} (hr:RowR 73 RelM fixA h X sv):∃ k f,sv = .osl k 0 0 73 X.length∧lookH h k = .row false X.length 73 (fun i=>.agg (f i))∧MsgsH h X f∧wfL X:=by
 obtain ⟨k,F,h1,h2,h3⟩:=hr
 refine ⟨k,fun i=>unagg (F i),h1,h2,MsgsH.mk fun i hi=>?_,wfL.mk fun i hi=>?_⟩
 ·obtain ⟨l,e,hm,_⟩:=h3 i hi
  rw [e]
  exact hm
 ·obtain ⟨l,e,_,hw⟩:=h3 i hi
  exact hw
theorem opn_prep {N fuel:Nat} {cs:List Value} {x:DataW H × List MemPlace} (IH:∀ fuel cs y,DataW.trod enc Try.prog W 0 (fun _=>true) true fuel 31 cs = some y→bulk y.1 < N→Opn W RelM blkM cs (bulk y.1)) (h:DataW.trod enc Try.prog W 0 (fun _=>true) true fuel 45 cs = some x) (hN:bulk x.1≤N):Opn W RelP (fun x=>1+(blkM x.1+blkL x.2)) cs (bulk x.1):=fun k0=>by
 obtain ⟨y0,y1,n,rfl,hl,h0,h1⟩:=trod_struct2 Try.underlying45 h
 have hcm:Try.prog.cellsOf 31 = 73:=by kernel_rfl
 have hcs:Try.prog.cellsOf 26 = 1:=by kernel_rfl
 have hcp:Try.prog.cellsOf 45 = 74:=by kernel_rfl
 change DataW.trod enc Try.prog W 0 (fun _=>true) true n 31 ((cs.drop 0).take (Try.prog.cellsOf 31)) = some y0 at h0
 change DataW.trod enc Try.prog W 0 (fun _=>true) true n 26 ((cs.drop 73).take (Try.prog.cellsOf 26)) = some y1 at h1
 rw [hcp] at hl
 rw [hcm] at h0
 rw [hcs] at h1
 have hb:bulk (DataW.agg [y0.1,y1.1]) = bulk y0.1+bulk y1.1+1:=by rw [bulk_agg]; simp
 rw [hb] at hN ⊢
 have ecs:cs = (cs.drop 0).take 73++(cs.drop 73).take 1:=by
  have e1:=cut_step cs 0 73
  have e2:=cut_step cs 73 1
  rw [show cs.drop (73+1) = [] from List.drop_of_length_le (by omega),List.append_nil] at e2
  rw [e2,e1]
  rfl
 obtain ⟨ps,hh,m,sv,hL,⟨l,rfl,hm,hw⟩,hok,hst,hsz,hD,hB⟩:=IH _ _ _ h0 (by omega) k0
 obtain ⟨qs,hh',X,sv',hL',hR',hok',hst',hsz',hD',hB'⟩:=opn_msgs IH h1 (by omega) (k0+hh.length)
 obtain ⟨k,f,rfl,hrow,hMs,hwL⟩:=rowR_msgs (hR'.mono RelM.mono (sp_right hh hh' rfl))
 refine ⟨ps++qs,hh++hh',(m,X),.agg (l++[.osl k 0 0 73 X.length]),hL.app hL',⟨_,rfl,⟨l,k,false,f,rfl,hm.extR (rwIn_extR (sp_left _ _ _)),hrow,hMs⟩,hw,hwL⟩,?_,?_,?_,fun ρ hA=>?_,?_⟩
 ·rw [List.length_append,← Nat.add_assoc]
  simp only [ok] at hok hok' ⊢
  rw [okL_append]
  exact ⟨okL_mono (by omega) _ hok,by simpa [okL,ok] using hok'⟩
 ·simp only [stor] at hst ⊢
  rw [storL_append]
  exact ⟨hst,by simp [storL,stor]⟩
 ·simp only [sz] at hsz ⊢
  rw [szL_append,hsz]
  simp [szL,sz]
  omega
 ·have e1:=hD ρ hA.left
  have e2:=hD' ρ (hA.right hL.len)
  have e3:(den ρ (.agg (l++[.osl k 0 0 73 X.length]))).cells.toList = (den ρ (.agg l)).cells.toList++(den ρ (.osl k 0 0 73 X.length)).cells.toList:=by
   show denC ρ (l++[.osl k 0 0 73 X.length]) = denC ρ l++_
   rw [denC_append]
   simp [denC]
  rw [e3,e1,e2,← ecs]
 ·show 1+(blkM m+blkL X)≤_
  omega
theorem opn_preps {N fuel:Nat} {cs:List Value} {x:DataW H × List MemPlace} (IH:∀ fuel cs y,DataW.trod enc Try.prog W 0 (fun _=>true) true fuel 31 cs = some y→bulk y.1 < N→Opn W RelM blkM cs (bulk y.1)) (h:DataW.trod enc Try.prog W 0 (fun _=>true) true fuel 27 cs = some x) (hN:bulk x.1≤N):Opn W (RowR 74 RelP fixA) blkQ cs (bulk x.1):=fun k0=>by
 have hc:Try.prog.cellsOf 45 = 74:=by kernel_rfl
 obtain ⟨ps,hh,X,sv,h1,h2,h3,h4,h5,h6,h7⟩:=opn_slice bulk bulk_slice (Rel:=RelP) RelP.mono (β:=fun x=>1+(blkM x.1+blkL x.2)) (s:=74) (by omega) fixA (fun _ X F hF i hi=>by obtain ⟨l,e,_⟩:=hF i hi; rw [fixA,e]; rfl) Try.underlying27 hc h hN (fun fuel cs y hy _ hb=>opn_prep IH hy (Nat.le_of_lt hb)) k0
 exact ⟨ps,hh,X,sv,h1,h2,h3,h4,h5,h6,by rw [blkQ_sum]; exact h7⟩
theorem rowR_preps {h:List Chunk} {X:List (Msg × List Msg)} {sv:SV} (hr:RowR 74 RelP fixA h X sv):∃ k f,sv = .osl k 0 0 74 X.length∧lookH h k = .row false X.length 74 (fun i=>.agg (f i))∧PrepsH h X f∧wfQ X:=by
 obtain ⟨k,F,h1,h2,h3⟩:=hr
 refine ⟨k,fun i=>unagg (F i),h1,h2,PrepsH.mk fun i hi=>?_,wfQ.mk fun i hi=>?_⟩
 ·obtain ⟨l,e,hm,_⟩:=h3 i hi
  rw [e]
  exact hm
 ·obtain ⟨l,e,_,hw⟩:=h3 i hi
  exact hw
theorem rowR_bytess {h:List Chunk} {X:List (List By)} {sv:SV} (hr:RowR 1 RelBs fixBs h X sv):rowBs h sv X:=by
 obtain ⟨k,F,h1,h2,h3⟩:=hr
 exact ⟨k,false,_,h1,h2,fun i hi=>by
  have:=h3 i hi
  rw [show X.getD i [] = X[i] from by simp [hi]]
  exact this⟩
set_option maxHeartbeats 2000000 in
theorem opn_msgS {N fuel:Nat} {cs:List Value} {x:DataW H × List MemPlace} (IH:∀ fuel cs y,DataW.trod enc Try.prog W 0 (fun _=>true) true fuel 31 cs = some y→bulk y.1 < N→Opn W RelM blkM cs (bulk y.1)) (h:DataW.trod enc Try.prog W 0 (fun _=>true) true fuel 31 cs = some x) (hN:bulk x.1≤N):Opn W RelM blkM cs (bulk x.1):=fun k0=>by
 obtain ⟨xs,n,_,rfl,hl,hlen,hf⟩:=DataW.trod_struct Try.underlying31 h
 have hcm:Try.prog.cellsOf 31 = 73:=by kernel_rfl
 have hc1:Try.prog.cellsOf 3 = 1:=by kernel_rfl
 have hc2:Try.prog.cellsOf 2 = 1:=by kernel_rfl
 have hc3:Try.prog.cellsOf 23 = 32:=by kernel_rfl
 have hc4:Try.prog.cellsOf 24 = 1:=by kernel_rfl
 have hc5:Try.prog.cellsOf 25 = 1:=by kernel_rfl
 have hc6:Try.prog.cellsOf 26 = 1:=by kernel_rfl
 have hc7:Try.prog.cellsOf 27 = 1:=by kernel_rfl
 have hc8:Try.prog.cellsOf 29 = 33:=by kernel_rfl
 obtain ⟨y0,y1,y2,y3,y4,y5,y6,y7,y8,y9,rfl⟩:∃ y0 y1 y2 y3 y4 y5 y6 y7 y8 y9,xs = [y0,y1,y2,y3,y4,y5,y6,y7,y8,y9]:=by
  match xs,hlen with
  | [y0,y1,y2,y3,y4,y5,y6,y7,y8,y9],_=>exact ⟨y0,y1,y2,y3,y4,y5,y6,y7,y8,y9,rfl⟩
 rw [hcm] at hl
 have h0:DataW.trod enc Try.prog W 0 (fun _=>true) true n 3 ((cs.drop 0).take (Try.prog.cellsOf 3)) = some y0:=hf 0 _ rfl
 have h1:DataW.trod enc Try.prog W 0 (fun _=>true) true n 3 ((cs.drop 1).take (Try.prog.cellsOf 3)) = some y1:=hf 1 _ rfl
 have h2:DataW.trod enc Try.prog W 0 (fun _=>true) true n 2 ((cs.drop 2).take (Try.prog.cellsOf 2)) = some y2:=hf 2 _ rfl
 have h3:DataW.trod enc Try.prog W 0 (fun _=>true) true n 2 ((cs.drop 3).take (Try.prog.cellsOf 2)) = some y3:=hf 3 _ rfl
 have h4:DataW.trod enc Try.prog W 0 (fun _=>true) true n 23 ((cs.drop 4).take (Try.prog.cellsOf 23)) = some y4:=hf 4 _ rfl
 have h5:DataW.trod enc Try.prog W 0 (fun _=>true) true n 24 ((cs.drop 36).take (Try.prog.cellsOf 24)) = some y5:=hf 5 _ rfl
 have h6:DataW.trod enc Try.prog W 0 (fun _=>true) true n 25 ((cs.drop 37).take (Try.prog.cellsOf 25)) = some y6:=hf 6 _ rfl
 have h7:DataW.trod enc Try.prog W 0 (fun _=>true) true n 26 ((cs.drop 38).take (Try.prog.cellsOf 26)) = some y7:=hf 7 _ rfl
 have h8:DataW.trod enc Try.prog W 0 (fun _=>true) true n 27 ((cs.drop 39).take (Try.prog.cellsOf 27)) = some y8:=hf 8 _ rfl
 have h9:DataW.trod enc Try.prog W 0 (fun _=>true) true n 29 ((cs.drop 40).take (Try.prog.cellsOf 29)) = some y9:=hf 9 _ rfl
 rw [hc1] at h0 h1
 rw [hc2] at h2 h3
 rw [hc3] at h4
 rw [hc4] at h5
 rw [hc5] at h6
 rw [hc6] at h7
 rw [hc7] at h8
 rw [hc8] at h9
 obtain ⟨k,e0,_,w0⟩:=DataW.trod_int Try.underlying3 h0
 obtain ⟨f,e1,_,w1⟩:=DataW.trod_int Try.underlying3 h1
 obtain ⟨v,e2,_,w2⟩:=DataW.trod_int Try.underlying2 h2
 obtain ⟨s,e3,_,w3⟩:=DataW.trod_int Try.underlying2 h3
 obtain ⟨d,e4⟩:=row_bytes Try.underlying23 hc3 h4
 obtain ⟨z0,z1,n',_,hl9,g0,g1⟩:=trod_struct2 Try.underlying29 h9
 change DataW.trod enc Try.prog W 0 (fun _=>true) true n' 3 ((((cs.drop 40).take 33).drop 0).take (Try.prog.cellsOf 3)) = some z0 at g0
 change DataW.trod enc Try.prog W 0 (fun _=>true) true n' 23 ((((cs.drop 40).take 33).drop 1).take (Try.prog.cellsOf 23)) = some z1 at g1
 rw [hc1] at g0
 rw [hc3] at g1
 obtain ⟨key,e9,_,w9⟩:=DataW.trod_int Try.underlying3 g0
 obtain ⟨of,e10⟩:=row_bytes Try.underlying23 hc3 g1
 have hb:bulk (DataW.agg ([y0,y1,y2,y3,y4,y5,y6,y7,y8,y9].map (·.1))) = bulk y0.1+(bulk y1.1+(bulk y2.1+(bulk y3.1+(bulk y4.1+(bulk y5.1+(bulk y6.1+(bulk y7.1+(bulk y8.1+bulk y9.1))))))))+1:=by rw [bulk_agg]; simp
 simp only [hb] at hN ⊢
 obtain ⟨p1,H1,b,sb,L1,R1,ok1,st1,sz1,D1,_⟩:=opn_bytes h5 k0
 obtain ⟨p2,H2,bs,sbs,L2,R2,ok2,st2,sz2,D2,_⟩:=opn_bytess h6 (k0+H1.length)
 obtain ⟨p3,H3,p,sp3,L3,R3,ok3,st3,sz3,D3,B3⟩:=opn_msgs IH h7 (by omega) (k0+H1.length+H2.length)
 obtain ⟨p4,H4,q,sp4,L4,R4,ok4,st4,sz4,D4,B4⟩:=opn_preps IH h8 (by omega) (k0+H1.length+H2.length+H3.length)
 have q1:RwIn (sp k0 H1) (sp k0 (H1++(H2++(H3++H4)))):=sp_left _ _ _
 have q2:RwIn (sp (k0+H1.length) H2) (sp k0 (H1++(H2++(H3++H4)))):=fun _ _ _ _ _ e=>sp_right _ _ rfl _ _ _ _ _ (sp_left _ _ (H3++H4) _ _ _ _ _ e)
 have q3:RwIn (sp (k0+H1.length+H2.length) H3) (sp k0 (H1++(H2++(H3++H4)))):=fun _ _ _ _ _ e=>sp_right _ _ rfl _ _ _ _ _ (sp_right _ _ rfl _ _ _ _ _ (sp_left _ _ H4 _ _ _ _ _ e))
 have q4:RwIn (sp (k0+H1.length+H2.length+H3.length) H4) (sp k0 (H1++(H2++(H3++H4)))):=fun _ _ _ _ _ e=>sp_right _ _ rfl _ _ _ _ _ (sp_right _ _ rfl _ _ _ _ _ (sp_right _ _ rfl _ _ _ _ _ e))
 obtain ⟨kp,fp,rfl,hkp,hMp,hwp⟩:=rowR_msgs (R3.mono RelM.mono q3)
 obtain ⟨kq,fq,rfl,hkq,hMq,hwq⟩:=rowR_preps (R4.mono RelP.mono q4)
 have hB:=RelBs.mono _ _ _ _ q1 R1
 have hBs:=rowR_bytess (R2.mono RelBs.mono q2)
 have hlen4:(H1++(H2++(H3++H4))).length = H1.length+(H2.length+(H3.length+H4.length)):=by simp
 refine ⟨p1++(p2++(p3++p4)),H1++(H2++(H3++H4)),.mk k f v s d b bs p q key of,.agg [.int .i64 k,.int .i64 f,.int .i64 v,.int .i64 s,dig32 d,sb,sbs,.osl kp 0 0 73 p.length,.osl kq 0 0 74 q.length,.int .i64 key,dig32 of],
  L1.app (L2.app (L3.app L4)),⟨_,rfl,by rw [MsgH]; exact ⟨sb,sbs,kp,false,fp,kq,false,fq,rfl,hB,hBs,hkp,hMp,hkq,hMq⟩,by rw [wfM]; exact ⟨rng_wf w0,rng_wf w1,rng_wf w2,rng_wf w3,rng_wf w9,hwp,hwq⟩⟩,?_,?_,?_,fun ρ hA=>?_,?_⟩
 ·rw [hlen4]
  simp only [ok] at ok3 ok4
  simp only [ok,okL,dig32,and_true,true_and]
  refine ⟨fun i _=>by simp [sz,ok],ok_mono (by omega) _ ok1,ok_mono (by omega) _ ok2,by omega,by omega,fun i _=>by simp [sz,ok]⟩
 ·simp only [stor,storL,dig32,and_true,true_and]
  exact ⟨fun _ _=>trivial,st1,st2,fun _ _=>trivial⟩
 ·rw [List.length_take,List.length_drop] at sz1 sz2
  simp only [sz,szL,dig32]
  omega
 ·have a1:=D1 ρ hA.left
  have a2:=D2 ρ (hA.right L1.len).left
  have a3:=D3 ρ ((hA.right L1.len).right L2.len).left
  have a4:=D4 ρ (((hA.right L1.len).right L2.len).right L3.len)
  have ecs:cs = (cs.drop 0).take 1++((cs.drop 1).take 1++((cs.drop 2).take 1++((cs.drop 3).take 1++((cs.drop 4).take 32++((cs.drop 36).take 1++((cs.drop 37).take 1++((cs.drop 38).take 1++((cs.drop 39).take 1++(cs.drop 40).take 33)))))))):=by
   have t9:(cs.drop 40).take 33 = cs.drop 40:=List.take_of_length_le (by rw [List.length_drop]; omega)
   rw [t9,cut_step cs 39 1,cut_step cs 38 1,cut_step cs 37 1,cut_step cs 36 1,cut_step cs 4 32,cut_step cs 3 1,cut_step cs 2 1,cut_step cs 1 1,cut_step cs 0 1]
   rfl
  have esg:(cs.drop 40).take 33 = (((cs.drop 40).take 33).drop 0).take 1++(((cs.drop 40).take 33).drop 1).take 32:=by
   have t9:(((cs.drop 40).take 33).drop 1).take 32 = ((cs.drop 40).take 33).drop 1:=List.take_of_length_le (by rw [List.length_drop,List.length_take,List.length_drop]; omega)
   rw [t9,cut_step _ 0 1]
   rfl
  rw [ecs,esg,e0,e1,e2,e3,e4,e9,e10,← a1,← a2,← a3,← a4]
  show denC ρ _ = _
  simp only [denC,dig32,fam_cells,List.append_nil]
  rfl
 ·show blkM (.mk k f v s d b bs p q key of)≤_
  rw [blkM]
  have hp0:0 < bulk y0.1:=by unfold bulk; cases y0.1 with
   | lit l=>cases l <;> simp [Rows.uptoBulk]
   | _=>simp [Rows.uptoBulk]
  omega
theorem opn_msg:∀ (N fuel:Nat) (cs:List Value) (y:DataW H × List MemPlace),DataW.trod enc Try.prog W 0 (fun _=>true) true fuel 31 cs = some y→bulk y.1≤N→Opn W RelM blkM cs (bulk y.1)
 | 0,fuel,cs,y,h,hb=>by
  have:1≤bulk y.1:=by
   obtain ⟨xs,n,_,rfl,_⟩:=DataW.trod_struct Try.underlying31 h
   rw [bulk_agg]
   omega
  omega
 | N+1,fuel,cs,y,h,hb=>opn_msgS (N:=N+1) (fun fuel cs y hy hlt=>opn_msg N fuel cs y hy (by omega)) h hb
end
end Go.Proofs.Ytgocfglmideobaa
set_option linter.all false
set_option maxRecDepth 40000
namespace Go.Proofs.Ytgocfglmideobaa
open Go Go.Sx
def tEnd:List By→Nat
 | []=>0
 | b :: l=>if 128≤b.toNat then tEnd l+1 else 0
theorem tEnd_le:∀ l:List By,tEnd l≤l.length
 | []=>Nat.le_refl _
 | b :: l=>by
  rw [tEnd,List.length_cons]
  have:=tEnd_le l
  split <;> omega
def tv (bs:List By) (k:Nat):Nat→BitVec 64
 | 0=>0
 | c+1=>tv bs k c <<< 7 ||| (bs.getD (k - c) 0 &&& 127#8).setWidth 64
def tk (bs:List By):Except Int (BitVec 64 × Nat) :=
 if tEnd bs = bs.length then .error 3 else
 if tEnd bs > 9 ∨ (tEnd bs = 9∧1 < (bs.getD 9 0).toNat) ∨ (0 < tEnd bs∧bs.getD (tEnd bs) 0 = 0) then .error 4 else
 .ok (tv bs (tEnd bs) (tEnd bs+1),tEnd bs+1)
theorem tk_err {bs:List By} {e:Int} (h:tk bs = .error e):e = 3 ∨ e = 4:=by
 unfold tk at h
 split at h
 ·cases h; exact .inl rfl
 ·split at h
  ·cases h; exact .inr rfl
  ·cases h
theorem tk_ok {bs:List By} {n:BitVec 64} {u:Nat} (h:tk bs = .ok (n,u)):0 < u∧u≤bs.length∧u≤10:=by
 unfold tk at h
 have:=tEnd_le bs
 split at h
 ·cases h
 ·split at h
  ·cases h
  ·cases h
   omega
theorem ge128 (b:By):decide (nat b ≥ 128) = decide (128≤b.toNat):=by
 apply decide_eq_decide.2
 unfold nat
 omega
theorem tEnd_hi {bs:List By} {i:Nat} (hi:i < bs.length) (hb:128≤(bs.getD i 0).toNat):tEnd (bs.drop i) = tEnd (bs.drop (i+1))+1:=by
 rw [List.drop_eq_getElem_cons hi,tEnd]
 have e:bs.getD i 0 = bs[i]:=by simp [hi]
 rw [e] at hb
 rw [if_pos hb]
theorem tEnd_lo {bs:List By} {i:Nat} (hi:i < bs.length) (hb:¬ 128≤(bs.getD i 0).toNat):tEnd (bs.drop i) = 0:=by
 rw [List.drop_eq_getElem_cons hi,tEnd]
 have e:bs.getD i 0 = bs[i]:=by simp [hi]
 rw [e] at hb
 rw [if_neg hb]
end Go.Proofs.Ytgocfglmideobaa
set_option linter.all false
set_option maxRecDepth 40000
namespace Go.Proofs.Ytgocfglmideobaa
open Go Go.ChangeShapes Go.WideShapes Go.ChangeAt Go.RowKit
open Go.Sx
section
variable {H:Type} {enc:TypeId × Value→H} {W:World}
theorem bulk_pos (d:DataW H):1≤bulk d:=by
 unfold bulk
 cases d with
 | lit l=>cases l <;> simp [Rows.uptoBulk]
 | _=>simp [Rows.uptoBulk]
theorem opn_byte1 {fuel:Nat} {cs:List Value} {y:DataW H × List MemPlace} (h:DataW.trod enc Try.prog W 0 (fun _=>true) true fuel 5 cs = some y):Opn W RelB (fun _=>1) cs (bulk y.1):=fun k0=>by
 obtain ⟨ps,hh,x,sv,h1,h2,h3,h4,h5,h6,_⟩:=opn_byte h 0 k0
 exact ⟨ps,hh,x,sv,h1,h2,h3,h4,h5,h6,bulk_pos _⟩
theorem sum_ones {α:Type}:∀ l:List α,(l.map fun _=>1).sum = l.length
 | []=>rfl
 | a :: l=>by rw [List.map_cons,List.sum_cons,sum_ones l,List.length_cons]; omega
theorem opn_bytes1 {fuel:Nat} {cs:List Value} {x:DataW H × List MemPlace} (h:DataW.trod enc Try.prog W 0 (fun _=>true) true fuel 24 cs = some x):Opn W RelBs List.length cs (bulk x.1):=fun k0=>by
 have hc:Try.prog.cellsOf 5 = 1:=by kernel_rfl
 obtain ⟨ps,hh,X,sv,h1,⟨k,F,e1,e2,e3⟩,h3,h4,h5,h6,h7⟩:=opn_slice (N:=bulk x.1) bulk bulk_slice (Rel:=RelB) (fun _ _ _ _ _ h=>h) (β:=fun _=>1) (s:=1) (by omega) fixB (fun _ X F hF i hi=>by rw [hF i hi,fixB]; simp [hi]) Try.underlying24 hc h (Nat.le_refl _) (fun fuel cs y hy _ _=>opn_byte1 hy) k0
 exact ⟨ps,hh,X,sv,h1,⟨k,false,e1,e2⟩,h3,h4,h5,h6,by have h8:(X.map fun _=>1).sum≤bulk x.1:=h7; rw [sum_ones] at h8; exact h8⟩
theorem open_bytesK {base:Nat} {v:Value} {d:DataW H} {pl:List MemPlace} (hv:Value.okWide Try.prog W .any base 24 v) (h:DataW.Trod enc Try.prog W 0 (fun _=>true) true 24 v d pl) (k0:Nat) :
  ∃ (ps:List Sx.Place) (hh:List Chunk) (b:List By) (sv:SV),Lies W k0 ps hh∧RelBs (sp k0 hh) b sv∧ok (k0+hh.length) sv∧(∀ ρ,At ρ k0 ps→v = den ρ sv)∧b.length≤Rows.uptoBulk d:=by
 obtain ⟨a,len,cap,rfl⟩:=okWide_slice Try.underlying24 hv
 obtain ⟨fuel,hf⟩:=h
 obtain ⟨ps,hh,b,sv,hL,hR,hok,_,_,hD,hB⟩:=opn_bytes1 hf k0
 refine ⟨ps,hh,b,sv,hL,hR,hok,fun ρ hA=>?_,hB⟩
 have h1:=hD ρ hA
 obtain ⟨k,w,rfl,_⟩:=hR
 simpa [den,Value.cells] using h1.symm
theorem open_msgK {base:Nat} {v:Value} {d:DataW H} {pl:List MemPlace} (hv:Value.okWide Try.prog W .any base 31 v) (h:DataW.Trod enc Try.prog W 0 (fun _=>true) true 31 v d pl) (k0:Nat) :
  ∃ (ps:List Sx.Place) (hh:List Chunk) (m:Msg) (sv:SV),Lies W k0 ps hh∧RelM (sp k0 hh) m sv∧ok (k0+hh.length) sv∧(∀ ρ,At ρ k0 ps→v = den ρ sv)∧blkM m≤Rows.uptoBulk d:=by
 obtain ⟨cs,rfl,hs⟩:=okWide_struct Try.underlying31 hv
 obtain ⟨fuel,hf⟩:=h
 obtain ⟨ps,hh,m,sv,hL,hR,hok,_,_,hD,hB⟩:=opn_msg _ _ _ _ hf (Nat.le_refl _) k0
 refine ⟨ps,hh,m,sv,hL,hR,hok,fun ρ hA=>?_,hB⟩
 have h1:=hD ρ hA
 obtain ⟨l,rfl,_⟩:=hR
 show Value.agg cs = Value.agg (denC ρ l).toArray
 congr 1
 apply Array.ext'
 exact h1.symm
end
theorem sp_zero (h:List Chunk):sp 0 h = h:=by simp [sp]
theorem models_at {ps:List Sx.Place}:At (fun k=>ps.getD k ⟨0,0,0,true,none⟩) 0 ps:=fun i p hp=>by simp [hp]
end Go.Proofs.Ytgocfglmideobaa
set_option linter.all false
set_option maxRecDepth 40000
namespace Go.Proofs.Ytgocfglmideobaa
open Go Go.ChangeShapes Go.WideShapes Go.ChangeAt Go.RowKit
open Go.Sx
def RelIs (h:List Chunk) (X:List Int) (sv:SV):Prop:=∃ k,sv = .osl k 0 0 1 X.length∧lookH h k = .row false X.length 1 (fun i=>.int .i64 (X.getD i 0))∧∀ i,i < X.length→rng (X.getD i 0)
theorem RelIs.mono {h h':List Chunk} {X:List Int} {sv:SV} (hE:RwIn h h') (hb:RelIs h X sv):RelIs h' X sv:=by
 obtain ⟨k,h1,h2,h3⟩:=hb
 exact ⟨k,h1,hE _ _ _ _ _ h2,h3⟩
section
variable {H:Type} {enc:TypeId × Value→H} {W:World}
end
theorem RwIn.trans {a b c:List Chunk} (h1:RwIn a b) (h2:RwIn b c):RwIn a c:=fun k w n s f e=>h2 _ _ _ _ _ (h1 _ _ _ _ _ e)
theorem lies3 {W:World} {p1 p2 p3:List Sx.Place} {h1 h2 h3:List Chunk} (a:Lies W 0 p1 h1) (b:Lies W (0+h1.length) p2 h2) (c:Lies W (0+h1.length+h2.length) p3 h3):Lies W 0 (p1++p2++p3) (h1++h2++h3) :=
 (a.app b).app (by rw [List.length_append,← Nat.add_assoc]; exact c)
theorem in3a (h1 h2 h3:List Chunk):RwIn (sp 0 h1) (h1++h2++h3):=by
 have:=RwIn.trans (sp_left 0 h1 h2) (sp_left 0 (h1++h2) h3)
 rwa [sp_zero (h1++h2++h3)] at this
theorem in3b (h1 h2 h3:List Chunk):RwIn (sp (0+h1.length) h2) (h1++h2++h3):=by
 have:=RwIn.trans (sp_right (k0:=0) h1 h2 rfl) (sp_left 0 (h1++h2) h3)
 rwa [sp_zero (h1++h2++h3)] at this
theorem in3c (h1 h2 h3:List Chunk):RwIn (sp (0+h1.length+h2.length) h3) (h1++h2++h3):=by
 have:=sp_right (k0:=0) (n:=h1.length+h2.length) (h1++h2) h3 (by rw [List.length_append])
 rwa [sp_zero (h1++h2++h3),← Nat.add_assoc] at this
theorem at3a {ρ:Env} {p1 p2 p3:List Sx.Place} (h:At ρ 0 (p1++p2++p3)):At ρ 0 p1:=h.left.left
theorem at3b {ρ:Env} {p1 p2 p3:List Sx.Place} {n:Nat} (h:At ρ 0 (p1++p2++p3)) (h1:p1.length = n):At ρ (0+n) p2:=h.left.right h1
theorem at3c {ρ:Env} {p1 p2 p3:List Sx.Place} {n m:Nat} (h:At ρ 0 (p1++p2++p3)) (h1:p1.length = n) (h2:p2.length = m):At ρ (0+n+m) p3:=by
 have:=h.right (n:=n+m) (by rw [List.length_append,h1,h2])
 rwa [← Nat.add_assoc] at this
end Go.Proofs.Ytgocfglmideobaa
set_option linter.all false
set_option maxRecDepth 40000
namespace Go.Proofs.Ytgocfglmideobaa
open Go Go.Sx
theorem res144:Try.f144.results.toList = [.tmp 2]:=rfl
abbrev OwnAt (m:Msg):Prop:=may m = 0→∀ (l:List SV) (h:List Chunk),MsgH h m l→∀ (K:Tok→SV→List Chunk→Prop),OutW h m K→callP Try.prog 98 [.agg l] h K
theorem sim_3 {A:List Chunk} {c1 c2 c c':Chunk} (hc:chSim c c'):Sim (A++[c1,c2,c]) (A++[c1,c2,c']):=by
 have:=sim_last (A:=A++[c1,c2]) hc
 simpa using this
set_option maxHeartbeats 8000000 in
theorem c144 (p:List Msg) (hO:∀ m ∈ p,OwnAt m∧may m = 0) (hpl:p.length≤64) (kp:Nat) (wp:Bool) (fp:Nat→List SV) (h:List Chunk) (hr:lookH h kp = .row wp p.length 73 fun i=>.agg (fp i)) (hp:MsgsH h p fp) (K:Tok→SV→List Chunk→Prop) (hK:OutO h p K):callP Try.prog 144 [.osl kp 0 0 73 p.length] h K:=by
 refine callP_of_code tabOk Try.func144 (by kernel_rfl) rfl (Nat.le_of_ble_eq_true rfl) (codeP_of_vc (pl:=np) tabOk follows_mixed (by kernel_rfl) ?_)
 rw [Try.ntmps144]
 simp -implicitDefEqProofs (maxSteps:=1000000) (disch:=omega) only [↓zzP,zzA,reduceIte,reduceCtorEq,Nat.reduceLT,↓reduceIte,↓gd,↓opP,↓qv,slot,putS,putO,ofV,lenS,tupS,res144]
 repeat (refine ⟨by omega,?_⟩)
 refine codeP_loop (pl:=np) tabOk follows_mixed (by kernel_rfl) (fun z st=>∃ (i:Nat) (H:List Chunk) (m:Nat) (G:Nat→List SV) (j:Nat→Value),i+z = p.length∧Ext (fun _=>False) h H∧h.length≤m∧lookH H m = .row true i 73 (fun i=>.agg (G i))∧(∀ i' (hi:i' < p.length),i' < i→MsgH (fresh h.length (putH H m .none)) p[i'] (G i'))∧st = ⟨⟨19,[(2,.v (.slice none 0 0)),(3,.osl m 0 0 73 (i)),(6,.osl kp 0 0 73 p.length),(7,.int .i64 (p.length:Nat)),(8,.int .i64 (i:Nat))],j⟩,H,[]⟩) ?_ ?_
 ·refine into_bind (J':=fun st=>∃ j,st = ⟨⟨19,[(2,.v (.slice none 0 0)),(3,.v (.slice none 0 0)),(6,.osl kp 0 0 73 p.length),(7,.int .i64 (p.length:Nat)),(8,.int .i64 (0:Nat))],j⟩,h,[]⟩) (into_keep [(2,.v (.slice none 0 0)),(3,.v (.slice none 0 0)),(6,.osl kp 0 0 73 p.length),(7,.int .i64 (p.length:Nat)),(8,.int .i64 (0:Nat))] (by simp [sameT,slot,lkL]) fun j=>⟨j,rfl⟩) ?_
  rintro _ ⟨j,rfl⟩
  refine into_nil [(2,.v (.slice none 0 0)),(3,.osl h.length 0 0 73 0),(6,.osl kp 0 0 73 p.length),(7,.int .i64 (p.length:Nat)),(8,.int .i64 (0:Nat))] 73 (fun i=>.agg ((fun _=>[]) i)) ?_ ?_ ?_
  ·intro ρ hρ
   simp [den,hρ]
  ·have:=lookH_lt hr (by simp)
   simp [okE,ok]
   omega
  exact into_refl ⟨p.length,0,_,h.length,fun _=>[],j,by omega,(Ext.refl _ _).app _,Nat.le_refl _,lookH_end _ _,fun i' _ hi=>absurd hi (Nat.not_lt_zero _),rfl⟩
 ·rintro z st ⟨i,H,m,G,j,hiz,hE,hm,hrow,hG,rfl⟩
  have hhl:=hE.1
  by_cases hi:i < p.length
  ·have g1:decide ((i:Int) < (p.length:Nat)) = true:=decide_eq_true (by omega)
   have a1:IntKind.i64.wrap ((i:Int)+1) = ((i+1:Nat):Int):=by rw [wrap64 (by omega) (by omega)]; omega
   have hr1:=hE.look hr (by simp) fun h=>h
   have hM:=hp.get hi
   obtain ⟨hOw,hmay⟩:=hO p[i] (List.getElem_mem hi)
   obtain ⟨xk,xf,xv,xs,xd,xkb,xnb,xkbs,xnbs,xkp,xnp,xkq,xnq,xkey,xof,hfi⟩:=hM.open
   rw [hfi] at hM
   simp -implicitDefEqProofs (maxSteps:=1000000) (disch:=omega) only [↓zzP,zzA,zzL,zzB,Nat.reduceSub,reduceIte,reduceCtorEq,Nat.reduceLT,↓reduceIte,Nat.reduceEqDiff,Nat.reduceLeDiff,Nat.reduceAdd,↓gd,↓opP,↓qv,↓ef,↓stS,slot,putS,putO,idxA,rdF,Ent.row,ldS,sz,wrF,binH,binS2,binS,stor,g1,hr1,hfi]
   repeat (refine ⟨by omega,?_⟩)
   have hE0:Ext (fun _=>False) h (H++[Chunk.cells true [.int .i64 xk,.int .i64 xf,.int .i64 xv,.int .i64 xs,.fam 32 1 fun i=>.int .u8 (nat (xd i)),.osl xkb 0 0 1 xnb,.osl xkbs 0 0 1 xnbs,.osl xkp 0 0 73 xnp,.osl xkq 0 0 74 xnq,.int .i64 xkey,.fam 32 1 fun i=>.int .u8 (nat (xof i))]]):=hE.app _
   have hmlt:=lookH_lt hrow (by simp)
   refine hOw hmay _ _ (hM.ext hE0) _ ?_
   intro H1 l1 hE1 hM1
   obtain ⟨yk,yf,yv,ys,yd,ykb,ynb,ykbs,ynbs,ykp,ynp,ykq,ynq,ykey,yof,hl1⟩:=(hM1.extR (extR_fresh _ _)).open
   have hrow1:lookH H1 m = .row true i 73 (fun i=>.agg (G i)):=hE1.look (by rw [lookH_at _ hmlt]; exact hrow) (by simp) fun h=>h
   have hlt1:=lookH_lt hrow1 (by simp)
   rw [hl1]
   simp -implicitDefEqProofs (maxSteps:=1000000) (disch:=omega) only [↓zzP,zzA,zzL,zzB,reduceIte,Nat.reduceMul,Nat.reduceLT,↓reduceIte,Nat.reduceEqDiff,Nat.reduceLeDiff,Nat.reduceAdd,↓gd,↓opP,↓qv,↓ef,↓bslS,↓appS,slot,putS,putO,ofV,sz,srcS,binH,binS2,binS,stor,notInt,hrow1,lookH_at,putH_at,a1]
   repeat (refine ⟨by omega,?_⟩)
   rw [hl1] at hM1
   obtain ⟨LX,hLX⟩:∃ LX:List SV,LX = [.int .i64 yk,.int .i64 yf,.int .i64 yv,.int .i64 ys,.fam 32 1 fun i=>.int .u8 (nat (yd i)),.osl ykb 0 0 1 ynb,.osl ykbs 0 0 1 ynbs,.osl ykp 0 0 73 ynp,.osl ykq 0 0 74 ynq,.int .i64 ykey,.fam 32 1 fun i=>.int .u8 (nat (yof i))]:=⟨_,rfl⟩
   refine into_sim (sim_two (c':=.row true (i+1) 73 fun j=>.agg (if j < i then G j else LX)) (chSim_row rfl fun j hj=>?_)) ?_
   ·by_cases c2:j < i
    ·rw [if_pos c2,if_pos c2]
    ·rw [if_neg c2,if_neg c2,hLX,show j - i = 0 by omega]; rfl
   rw [← hLX] at hM1
   have hE2:=hE0.trans hE1
   have hl1':=hE1.1
   rw [List.length_append,List.length_singleton] at hl1'
   refine into_keep [(2,.v (.slice none 0 0)),(3,.osl (H1.length+1) 0 0 73 (i+1)),(6,.osl kp 0 0 73 p.length),(7,.int .i64 (p.length:Nat)),(8,.int .i64 (i+1:Nat))] (by simp [sameT,slot,lkL]) fun j=>⟨z - 1,by omega,i+1,_,H1.length+1,_,j,by omega,(hE2.put _ (.inr hm)).app _,by omega,lookH_pA _ _ _ _ 1,fun i' hi' hlt=>?_,rfl⟩
   rw [putH_pA]
   by_cases c2:i' < i
   ·rw [if_pos c2]
    exact (hG i' hi' c2).extR (extR_f2 (((Ext.refl _ _).app _).trans hE1) _)
   ·obtain rfl:i' = i:=by omega
    rw [if_neg c2]
    exact hM1.extR (extR_f3 (by have:=hE0.1; omega) (by rw [List.length_append]; omega) _)
  ·have g1:decide ((i:Int) < (p.length:Nat)) = false:=decide_eq_false (by omega)
   obtain rfl:i = p.length:=by omega
   simp -implicitDefEqProofs (maxSteps:=1000000) (disch:=omega) only [↓zzP,zzA,zzL,reduceIte,reduceCtorEq,Nat.reduceLT,↓reduceIte,Nat.reduceEqDiff,↓gd,↓opP,↓qv,slot,putS,putO,binH,binS2,binS,g1]
   repeat (refine ⟨by omega,?_⟩)
   exact intoR_refl hhl (hK _ _ _ hE hm hrow (MsgsH.mk fun i' hi'=>(hG i' hi' hi').extR extR_f1))
end Go.Proofs.Ytgocfglmideobaa
set_option linter.all false
set_option maxRecDepth 40000
namespace Go.Proofs.Ytgocfglmideobaa
open Go Go.Sx
theorem res98:Try.f98.results.toList = [.cell 2 31]:=rfl
def pl98:Nat→Plan
 | 14=>(.q 0 (.q 1 (.q 2 (.q 4 (.q 5 (.e1 3 [2] (.e1 6 [2,3,5] (.q 7 (.e1 8 [3,6] (.e1 9 [3,5,6] (.q 10 .nil)))))))))))
 | _=>.nil
set_option maxHeartbeats 4000000 in
theorem c98e (k f v s key:Int) (d of:Nat→By) (kb kbs kp kq:Nat) (wb wbs wp wq:Bool) (Fb Fbs Fq:Nat→SV) (fp:Nat→List SV) (h:List Chunk) (hb:lookH h kb = .row wb 0 1 Fb) (hbs:lookH h kbs = .row wbs 0 1 Fbs) (hp:lookH h kp = .row wp 0 73 (fun i=>.agg (fp i))) (hq:lookH h kq = .row wq 0 74 Fq) (K:Tok→SV→List Chunk→Prop)
  (hK:∀ (H':List Chunk) (n1 n2:Nat) (f2:Nat→List SV),Ext (fun _=>False) h H'→lookH H' n1 = .row true 0 1 (fun i=>Fb i)→lookH H' n2 = .row true 0 73 (fun i=>.agg (f2 i))→K .mk (.agg [.int .i64 k,.int .i64 f,.int .i64 v,.int .i64 s,.fam 32 1 fun i=>.int .u8 (nat (d i)),.osl n1 0 0 1 0,.v (.slice none 0 0),.osl n2 0 0 73 0,.v (.slice none 0 0),.int .i64 key,.fam 32 1 fun i=>.int .u8 (nat (of i))]) H'):callP Try.prog 98 [.agg [.int .i64 k,.int .i64 f,.int .i64 v,.int .i64 s,.fam 32 1 fun i=>.int .u8 (nat (d i)),.osl kb 0 0 1 0,.osl kbs 0 0 1 0,.osl kp 0 0 73 0,.osl kq 0 0 74 0,.int .i64 key,.fam 32 1 fun i=>.int .u8 (nat (of i))]] h K:=by
 refine callP_of_code tabOk Try.func98 (by kernel_rfl) rfl (Nat.le_of_ble_eq_true rfl) (codeP_of_vc (pl:=pl98) tabOk follows_mixed (by kernel_rfl) ?_)
 rw [Try.ntmps98]
 have l1:=lookH_lt hb (by simp)
 have l2:=lookH_lt hbs (by simp)
 have l3:=lookH_lt hp (by simp)
 have l4:=lookH_lt hq (by simp)
 simp -implicitDefEqProofs (maxSteps:=1000000) (disch:=omega) only [↓zzP,zzA,zzL,zzB,Nat.reduceSub,reduceIte,reduceCtorEq,Nat.reduceLT,Int.reduceLE,↓reduceIte,Nat.reduceEqDiff,Nat.reduceLeDiff,Nat.reduceAdd,↓gd,↓opP,↓qv,↓ef,↓stS,↓appS,slot,putS,putO,ofV,fldA,lenS,asRow,rdF,Ent.row,ldS,sz,wrF,srcS,tupS,stor,notInt,res98,hb,lookH_at]
 repeat (refine ⟨by omega,?_⟩)
 obtain ⟨H1,hH1⟩:∃ H1,H1 = h++[.cells true [.int .i64 k,.int .i64 f,.int .i64 v,.int .i64 s,.fam 32 1 fun i=>.int .u8 (nat (d i)),.osl (h.length+2) 0 0 1 0,.osl kbs 0 0 1 0,.osl kp 0 0 73 0,.osl kq 0 0 74 0,.int .i64 key,.fam 32 1 fun i=>.int .u8 (nat (of i))],Chunk.cells true [.int .i64 0,.int .i64 0,.int .i64 0,.int .i64 0,.fam 32 1 fun _=>.int .u8 0,.v (.slice none 0 0),.v (.slice none 0 0),.v (.slice none 0 0),.v (.slice none 0 0),.int .i64 0,.fam 32 1 fun _=>.int .u8 0],.row true 0 1 fun i=>Fb i]:=⟨_,rfl⟩
 have hE1:Ext (fun _=>False) h H1:=by rw [hH1]; exact (Ext.refl _ _).app _
 have e0:lookH H1 h.length = .cells true [.int .i64 k,.int .i64 f,.int .i64 v,.int .i64 s,.fam 32 1 fun i=>.int .u8 (nat (d i)),.osl (h.length+2) 0 0 1 0,.osl kbs 0 0 1 0,.osl kp 0 0 73 0,.osl kq 0 0 74 0,.int .i64 key,.fam 32 1 fun i=>.int .u8 (nat (of i))]:=by rw [hH1]; exact lookH_app0 _ _
 have e1:lookH H1 (h.length+1) = Chunk.cells true [.int .i64 0,.int .i64 0,.int .i64 0,.int .i64 0,.fam 32 1 fun _=>.int .u8 0,.v (.slice none 0 0),.v (.slice none 0 0),.v (.slice none 0 0),.v (.slice none 0 0),.int .i64 0,.fam 32 1 fun _=>.int .u8 0]:=by rw [hH1]; exact lookH_app _ 1 _
 have e2:lookH H1 (h.length+2) = .row true 0 1 fun i=>Fb i:=by rw [hH1]; exact lookH_app _ 2 _
 rw [← hH1]
 refine codeP_loop (pl:=pl98) tabOk follows_mixed (by kernel_rfl) (fun z st=>∃ (j:Nat→Value),st = ⟨⟨53,[(1,.ptr h.length 0),(2,.ptr (h.length+1) 0),(3,.v (.slice none 0 0)),(14,.osl kbs 0 0 1 0),(15,.int .i64 0),(16,.int .i64 0)],j⟩,H1,[]⟩) ?_ ?_
 ·exact into_keep [(1,.ptr h.length 0),(2,.ptr (h.length+1) 0),(3,.v (.slice none 0 0)),(14,.osl kbs 0 0 1 0),(15,.int .i64 0),(16,.int .i64 0)] (by simp [sameT,slot,lkL]) fun j=>⟨0,j,rfl⟩
 rintro z st ⟨j,rfl⟩
 have m0:=lookH_lt e0 (by simp)
 have m1:=lookH_lt e1 (by simp)
 have m2:=lookH_lt e2 (by simp)
 simp -implicitDefEqProofs (maxSteps:=1000000) (disch:=omega) only [↓zzP,zzA,zzL,zzB,Nat.reduceSub,reduceIte,reduceCtorEq,Nat.reduceLT,↓reduceIte,Nat.reduceEqDiff,Nat.reduceLeDiff,Int.reduceLT,↓gd,↓opP,↓qv,↓ef,↓stS,slot,putS,putO,fldA,rdF,Ent.row,ldS,sz,wrF,binH,binS2,binS,stor,Value.oneCell',e0,lookH_put_same]
 repeat (refine ⟨by omega,?_⟩)
 obtain ⟨H2,hH2⟩:∃ H2,H2 = putH H1 h.length (.cells true [.int .i64 k,.int .i64 f,.int .i64 v,.int .i64 s,.fam 32 1 fun i=>.int .u8 (nat (d i)),.osl (h.length+2) 0 0 1 0,.v (.slice none 0 0),.osl kp 0 0 73 0,.osl kq 0 0 74 0,.int .i64 key,.fam 32 1 fun i=>.int .u8 (nat (of i))]):=⟨_,rfl⟩
 have hE2:Ext (fun _=>False) h H2:=by rw [hH2]; exact hE1.put _ (.inr (Nat.le_refl _))
 have f0:lookH H2 h.length = .cells true [.int .i64 k,.int .i64 f,.int .i64 v,.int .i64 s,.fam 32 1 fun i=>.int .u8 (nat (d i)),.osl (h.length+2) 0 0 1 0,.v (.slice none 0 0),.osl kp 0 0 73 0,.osl kq 0 0 74 0,.int .i64 key,.fam 32 1 fun i=>.int .u8 (nat (of i))]:=by rw [hH2]; exact lookH_put_same _ m0
 have f1:lookH H2 (h.length+1) = Chunk.cells true [.int .i64 0,.int .i64 0,.int .i64 0,.int .i64 0,.fam 32 1 fun _=>.int .u8 0,.v (.slice none 0 0),.v (.slice none 0 0),.v (.slice none 0 0),.v (.slice none 0 0),.int .i64 0,.fam 32 1 fun _=>.int .u8 0]:=by rw [hH2,lookH_put_ne _ (by omega)]; exact e1
 have f2:lookH H2 (h.length+2) = .row true 0 1 fun i=>Fb i:=by rw [hH2,lookH_put_ne _ (by omega)]; exact e2
 rw [← hH2]
 refine c144 [] (fun m hm=>by simp at hm) (by simp) kp wp fp _ (hE2.look hp (by simp) fun h=>h) (by rw [MsgsH]; trivial) _ ?_
 intro H3 n2 f3 hE3 hk3 hrow3 _
 have g0:=hE3.look f0 (by simp) fun h=>h
 have g1:=hE3.look f1 (by simp) fun h=>h
 have g2:=hE3.look f2 (by simp) fun h=>h
 have m3:=lookH_lt g0 (by simp)
 have m4:=lookH_lt g1 (by simp)
 have hE4:=hE2.trans hE3
 replace hrow3:lookH H3 n2 = .row true 0 73 fun i=>.agg (f3 i):=hrow3
 have hn2:n2 ≠ h.length:=fun e=>by rw [e,g0] at hrow3; cases hrow3
 have hn3:n2 ≠ h.length+1:=fun e=>by rw [e,g1] at hrow3; cases hrow3
 simp -implicitDefEqProofs (maxSteps:=1000000) (disch:=omega) only [↓zzP,zzA,zzL,zzB,Nat.reduceSub,reduceIte,reduceCtorEq,Nat.reduceLT,↓reduceIte,Nat.reduceEqDiff,Nat.reduceLeDiff,↓gd,↓opP,↓qv,↓ef,↓stS,slot,putS,putO,ofV,fldA,lenS,rdF,Ent.row,ldS,sz,wrF,stor,g0,lookH_put_same]
 repeat (refine ⟨by omega,?_⟩)
 obtain ⟨H5,hH5⟩:∃ H5,H5 = putH H3 h.length (.cells true [.int .i64 k,.int .i64 f,.int .i64 v,.int .i64 s,.fam 32 1 fun i=>.int .u8 (nat (d i)),.osl (h.length+2) 0 0 1 0,.v (.slice none 0 0),.osl n2 0 0 73 0,.osl kq 0 0 74 0,.int .i64 key,.fam 32 1 fun i=>.int .u8 (nat (of i))]):=⟨_,rfl⟩
 have hE5:Ext (fun _=>False) h H5:=by rw [hH5]; exact hE4.put _ (.inr (Nat.le_refl _))
 have k0:lookH H5 h.length = .cells true [.int .i64 k,.int .i64 f,.int .i64 v,.int .i64 s,.fam 32 1 fun i=>.int .u8 (nat (d i)),.osl (h.length+2) 0 0 1 0,.v (.slice none 0 0),.osl n2 0 0 73 0,.osl kq 0 0 74 0,.int .i64 key,.fam 32 1 fun i=>.int .u8 (nat (of i))]:=by rw [hH5]; exact lookH_put_same _ m3
 have k1:lookH H5 (h.length+1) = Chunk.cells true [.int .i64 0,.int .i64 0,.int .i64 0,.int .i64 0,.fam 32 1 fun _=>.int .u8 0,.v (.slice none 0 0),.v (.slice none 0 0),.v (.slice none 0 0),.v (.slice none 0 0),.int .i64 0,.fam 32 1 fun _=>.int .u8 0]:=by rw [hH5,lookH_put_ne _ (by omega)]; exact g1
 have k2:lookH H5 (h.length+2) = .row true 0 1 fun i=>Fb i:=by rw [hH5,lookH_put_ne _ (by omega)]; exact g2
 have k3:lookH H5 n2 = .row true 0 73 fun i=>.agg (f3 i):=by rw [hH5,lookH_put_ne _ hn2]; exact hrow3
 rw [← hH5]
 refine codeP_loop (pl:=pl98) tabOk follows_mixed (by kernel_rfl) (fun z st=>∃ (j:Nat→Value),st = ⟨⟨53,[(1,.ptr h.length 0),(2,.ptr (h.length+1) 0),(6,.v (.slice none 0 0)),(33,.osl kq 0 0 74 0),(34,.int .i64 0),(35,.int .i64 0)],j⟩,H5,[]⟩) ?_ ?_
 ·exact into_keep [(1,.ptr h.length 0),(2,.ptr (h.length+1) 0),(6,.v (.slice none 0 0)),(33,.osl kq 0 0 74 0),(34,.int .i64 0),(35,.int .i64 0)] (by simp [sameT,slot,lkL]) fun j=>⟨0,j,rfl⟩
 rintro z st ⟨j,rfl⟩
 have m5:=lookH_lt k0 (by simp)
 have m6:=lookH_lt k1 (by simp)
 have n4:¬ h.length+1 = h.length:=by omega
 have k4:lookH (putH H5 h.length (.cells true [.int .i64 k,.int .i64 f,.int .i64 v,.int .i64 s,.fam 32 1 fun i=>.int .u8 (nat (d i)),.osl (h.length+2) 0 0 1 0,.v (.slice none 0 0),.osl n2 0 0 73 0,.v (.slice none 0 0),.int .i64 key,.fam 32 1 fun i=>.int .u8 (nat (of i))])) (h.length+1) = Chunk.cells true [.int .i64 0,.int .i64 0,.int .i64 0,.int .i64 0,.fam 32 1 fun _=>.int .u8 0,.v (.slice none 0 0),.v (.slice none 0 0),.v (.slice none 0 0),.v (.slice none 0 0),.int .i64 0,.fam 32 1 fun _=>.int .u8 0]:=by rw [lookH_put_ne _ (by omega)]; exact k1
 have m7:h.length+1 < (putH H5 h.length (.cells true [.int .i64 k,.int .i64 f,.int .i64 v,.int .i64 s,.fam 32 1 fun i=>.int .u8 (nat (d i)),.osl (h.length+2) 0 0 1 0,.v (.slice none 0 0),.osl n2 0 0 73 0,.v (.slice none 0 0),.int .i64 key,.fam 32 1 fun i=>.int .u8 (nat (of i))])).length:=by rw [putH_len]; exact m6
 simp -implicitDefEqProofs (maxSteps:=1000000) (disch:=omega) only [↓zzP,zzA,zzL,zzB,Nat.reduceSub,reduceIte,reduceCtorEq,Nat.reduceLT,↓reduceIte,Nat.reduceEqDiff,Nat.reduceLeDiff,Int.reduceLT,Nat.reduceAdd,↓gd,↓opP,↓qv,↓ef,↓stS,slot,putS,putO,fldA,rdF,Ent.row,ldS,sz,wrF,binH,binS2,binS,stor,Value.oneCell',k0,k4,lookH_put_same]
 repeat (refine ⟨by omega,?_⟩)
 refine intoR_refl ?_ (hK _ _ _ f3 ((hE5.put _ (.inr (Nat.le_refl _))).put _ (.inr (Nat.le_succ _))) ?_ ?_)
 ·rw [putH_len,putH_len]
  exact hE5.1
 ·rw [lookH_put_ne _ (by omega),lookH_put_ne _ (by omega)]
  exact k2
 ·rw [lookH_put_ne _ hn3,lookH_put_ne _ hn2]
  exact k3
end Go.Proofs.Ytgocfglmideobaa
set_option linter.all false
set_option maxRecDepth 40000
namespace Go.Proofs.Ytgocfglmideobaa
open Go Go.Sx
theorem res155:Try.f155.results.toList = [.tmp 2,.tmp 3,.tmp 4]:=rfl
theorem res161:Try.f161.results.toList = [.tmp 2,.tmp 3,.tmp 4]:=rfl
set_option maxHeartbeats 8000000 in
theorem c155 (bs:List By) (h:List Chunk) (k d e:Nat) (w:Bool) (N:Nat) (F:Nat→SV) (hr:lookH h k = .row w N 1 F) (hN:e+bs.length≤N) (hF:∀ i,i < bs.length→F (e+i) = .int .u8 (nat (bs.getD i 0))) (hl:bs.length≤35184372088832) (K:Tok→SV→List Chunk→Prop) (hE:∀ er,tk bs = .error er→K .mk (.tup [.int .u64 0,.int .i64 0,.int .i64 er]) h) (hO:∀ n u,tk bs = .ok (n,u)→K .mk (.tup [.int .u64 (nat n),.int .i64 (u:Nat),.int .i64 0]) h):callP Try.prog 155 [.osl k d e 1 bs.length] h K:=by
 refine callP_of_code tabOk Try.func155 (by kernel_rfl) rfl (Nat.le_of_ble_eq_true rfl) (codeP_of_vc (pl:=np) tabOk follows_mixed (by kernel_rfl) ?_)
 rw [Try.ntmps155]
 simp -implicitDefEqProofs (maxSteps:=1000000) (disch:=omega) only [↓zzP,zzA,reduceIte,reduceCtorEq,Nat.reduceLT,↓reduceIte,↓gd,↓opP,↓qv,slot,putS,putO,ofV,tupS,res155]
 repeat (refine ⟨by omega,?_⟩)
 refine codeP_loop (pl:=np) tabOk follows_mixed (by kernel_rfl) (fun z st=>∃ (i:Nat) (j:Nat→Value),i+z = bs.length∧tEnd bs = i+tEnd (bs.drop i)∧st = ⟨⟨68,[(0,.osl k d e 1 bs.length),(2,.int .u64 0),(3,.int .i64 0),(4,.int .i64 0),(5,.int .i64 (i:Nat))],j⟩,h,[]⟩) ?_ ?_
 ·exact into_keep [(0,.osl k d e 1 bs.length),(2,.int .u64 0),(3,.int .i64 0),(4,.int .i64 0),(5,.int .i64 (0:Nat))] (by simp [sameT,slot,lkL]) fun j=>⟨bs.length,0,j,by omega,by simp,rfl⟩
 rintro z st ⟨i,j,hiz,hi,rfl⟩
 have a1:IntKind.i64.wrap ((i:Int)+1) = ((i+1:Nat):Int):=by rw [wrap64 (by omega) (by omega)]; omega
 by_cases c1:i < bs.length
 ·have g1:decide ((i:Int) < (bs.length:Nat)) = true:=decide_eq_true (by omega)
  have hb:=hF i c1
  by_cases c2:128≤(bs.getD i 0).toNat
  ·have g2:decide (nat (bs.getD i 0) ≥ 128) = true:=by rw [ge128]; exact decide_eq_true c2
   rw [tEnd_hi c1 c2] at hi
   simp -implicitDefEqProofs (maxSteps:=1000000) (disch:=omega) only [↓zzP,zzA,zzL,zzB,reduceIte,reduceCtorEq,Nat.reduceLT,↓reduceIte,Nat.reduceEqDiff,Array.reduceGetElem?,↓gd,↓opP,↓qv,slot,putS,putO,ofV,idxA,lenS,rdF,Ent.row,ldS,binH,binS2,binS,g1,hr,hb,g2,a1]
   repeat (refine ⟨by omega,?_⟩)
   exact into_keep [(0,.osl k d e 1 bs.length),(2,.int .u64 0),(3,.int .i64 0),(4,.int .i64 0),(5,.int .i64 (i+1:Nat))] (by simp [sameT,slot,lkL]) fun j=>⟨z - 1,by omega,i+1,j,by omega,by omega,rfl⟩
  ·have g2:decide (nat (bs.getD i 0) ≥ 128) = false:=by rw [ge128]; exact decide_eq_false c2
   rw [tEnd_lo c1 c2,Nat.add_zero] at hi
   subst hi
   have g4:((tEnd bs:Int) == (bs.length:Int)) = false:=by rw [beq_eq_false_iff_ne]; omega
   have e9:(bs.getD (tEnd bs) 0 = 0) ↔ nat (bs.getD (tEnd bs) 0) = 0:=⟨fun h=>by rw [h]; rfl,fun h=>nat_inj.1 (by rw [h]; rfl)⟩
   by_cases bad:tEnd bs > 9 ∨ (tEnd bs = 9∧1 < (bs.getD 9 0).toNat) ∨ (0 < tEnd bs∧bs.getD (tEnd bs) 0 = 0)
   ·have hfin:=hE 4 (by unfold tk; rw [if_neg (by omega),if_pos bad])
    obtain ⟨A,hA⟩:∃ A,decide ((tEnd bs:Int) > 9) = A:=⟨_,rfl⟩
    obtain ⟨B,hB⟩:∃ B,((tEnd bs:Int) == 9) = B:=⟨_,rfl⟩
    obtain ⟨C,hC⟩:∃ C,decide (nat (bs.getD (tEnd bs) 0) > 1) = C:=⟨_,rfl⟩
    obtain ⟨D,hD⟩:∃ D,decide ((tEnd bs:Int) > 0) = D:=⟨_,rfl⟩
    obtain ⟨E,hE'⟩:∃ E,(nat (bs.getD (tEnd bs) 0) == 0) = E:=⟨_,rfl⟩
    have hABC:A = true ∨ (B = true∧C = true) ∨ (D = true∧E = true):=by
     rcases bad with b | ⟨b1,b2⟩ | ⟨b1,b2⟩
     ·exact .inl (by rw [← hA]; exact decide_eq_true (by omega))
     ·refine .inr (.inl ⟨by rw [← hB,b1]; rfl,?_⟩)
      rw [← hC,b1]
      exact decide_eq_true (by unfold nat; omega)
     ·refine .inr (.inr ⟨by rw [← hD]; exact decide_eq_true (by omega),?_⟩)
      rw [← hE']
      exact beq_iff_eq.2 (e9.1 b2)
    have hx:=ge128 0
    cases A <;> cases B <;> cases C <;> cases D <;> cases E <;> simp only [Bool.false_eq_true,false_and,and_false,or_false,or_self,reduceCtorEq] at hABC
    all_goals
     simp -implicitDefEqProofs (maxSteps:=1000000) (disch:=omega) only [↓zzP,zzA,zzL,zzB,reduceIte,reduceCtorEq,Nat.reduceLT,↓reduceIte,Nat.reduceEqDiff,Array.reduceGetElem?,↓gd,↓opP,↓qv,slot,putS,putO,ofV,idxA,lenS,rdF,Ent.row,ldS,binH,binS2,binS,g1,hr,hb,g2,g4,hA,hB,hC,hD,hE']
     repeat (refine ⟨by omega,?_⟩)
     exact intoR_refl (Nat.le_refl _) hfin
   ·have hfin:=hO _ _ (by unfold tk; rw [if_neg (by omega),if_neg bad])
    have hA:decide ((tEnd bs:Int) > 9) = false:=decide_eq_false (by omega)
    have hbC:tEnd bs = 9→decide (nat (bs.getD (tEnd bs) 0) > 1) = false:=fun h=>by
     rw [h]
     exact decide_eq_false (by unfold nat; omega)
    have hbE:0 < tEnd bs→(nat (bs.getD (tEnd bs) 0) == 0) = false:=fun h=>by
     rw [beq_eq_false_iff_ne]
     exact fun h2=>bad (.inr (.inr ⟨h,e9.2 h2⟩))
    obtain ⟨B,hB⟩:∃ B,((tEnd bs:Int) == 9) = B:=⟨_,rfl⟩
    obtain ⟨C,hC⟩:∃ C,decide (nat (bs.getD (tEnd bs) 0) > 1) = C:=⟨_,rfl⟩
    obtain ⟨D,hD⟩:∃ D,decide ((tEnd bs:Int) > 0) = D:=⟨_,rfl⟩
    obtain ⟨E,hE'⟩:∃ E,(nat (bs.getD (tEnd bs) 0) == 0) = E:=⟨_,rfl⟩
    have h1:B = true→C = false:=fun h=>by
     rw [h] at hB
     rw [← hC]
     exact hbC (by have:=beq_iff_eq.1 hB; omega)
    have h2:D = true→E = false:=fun h=>by
     rw [h] at hD
     rw [← hE']
     exact hbE (by have:=of_decide_eq_true hD; omega)
    have h3:B = true→D = true:=fun h=>by
     rw [h] at hB
     rw [← hD]
     exact decide_eq_true (by have:=beq_iff_eq.1 hB; omega)
    clear bad hbC hbE
    cases B <;> cases D <;> simp only [Bool.false_eq_true,false_implies,true_implies,forall_const,reduceCtorEq] at h1 h2 h3
    all_goals
     try subst h1
     try subst h2
     simp -implicitDefEqProofs (maxSteps:=1000000) (disch:=omega) only [↓zzP,zzA,zzL,zzB,reduceIte,reduceCtorEq,Nat.reduceLT,↓reduceIte,Nat.reduceEqDiff,Array.reduceGetElem?,↓gd,↓opP,↓qv,slot,putS,putO,ofV,idxA,lenS,rdF,Ent.row,ldS,binH,binS2,binS,g1,hr,hb,g2,g4,hA,hB,hC,hD,hE']
     repeat (refine ⟨by omega,?_⟩)
     refine codeP_loop (pl:=np) tabOk follows_mixed (by kernel_rfl) (fun z st=>∃ (q:Int) (c:Nat) (j:Nat→Value),q+c = tEnd bs∧z+c = tEnd bs+1∧st = ⟨⟨68,[(0,.osl k d e 1 bs.length),(5,.int .i64 (tEnd bs:Nat)),(6,.int .u64 (nat (tv bs (tEnd bs) c))),(7,.int .i64 q)],j⟩,h,[]⟩) ?_ ?_
     ·exact into_keep [(0,.osl k d e 1 bs.length),(5,.int .i64 (tEnd bs:Nat)),(6,.int .u64 (0)),(7,.int .i64 (tEnd bs:Nat))] (by simp [sameT,slot,lkL]) fun j=>⟨tEnd bs+1,tEnd bs,0,j,by omega,by omega,rfl⟩
     rintro z st ⟨q,c,j,hq,hz,rfl⟩
     by_cases c3:0≤q
     ·obtain ⟨i,rfl⟩:=Int.eq_ofNat_of_zero_le c3
      have hb2:=hF i (by omega)
      have p1:decide (((i:Nat):Int) ≥ 0) = true:=decide_eq_true (by omega)
      have p2:bits .and .u8 (nat (bs.getD i 0)) 127 = nat (bs.getD i 0 &&& 127#8):=and8 _ 127#8
      have p3:IntKind.i64.wrap ((i:Int) - 1) = (i:Int) - 1:=wrap64 (by omega) (by omega)
      have p4:tv bs (tEnd bs) (c+1) = tv bs (tEnd bs) c <<< 7 ||| (bs.getD i 0 &&& 127#8).setWidth 64:=by rw [tv,show tEnd bs - c = i by omega]
      simp -implicitDefEqProofs (maxSteps:=1000000) (disch:=omega) only [↓zzP,zzA,zzB,reduceIte,reduceCtorEq,Nat.reduceLT,Int.reduceLE,↓reduceIte,Nat.reduceEqDiff,Int.reduceToNat,↓gd,↓opP,↓qv,slot,putS,putO,ofV,convS,idxA,rdF,Ent.row,ldS,binH,binS2,binS,p1,p2,p3,hr,hb2]
      repeat (refine ⟨by omega,?_⟩)
      rw [← p4]
      exact into_keep [(0,.osl k d e 1 bs.length),(5,.int .i64 (tEnd bs:Nat)),(6,.int .u64 (nat (tv bs (tEnd bs) (c+1)))),(7,.int .i64 ((i:Int) - 1))] (by simp [sameT,slot,lkL]) fun j=>⟨z - 1,by omega,(i:Int) - 1,c+1,j,by omega,by omega,rfl⟩
     ·have p1:decide (q ≥ 0) = false:=decide_eq_false (by omega)
      obtain rfl:c = tEnd bs+1:=by omega
      have p3:IntKind.i64.wrap ((tEnd bs:Int)+1) = ((tEnd bs+1:Nat):Int):=by rw [wrap64 (by omega) (by omega)]; omega
      simp -implicitDefEqProofs (maxSteps:=1000000) (disch:=omega) only [↓zzP,zzA,zzL,reduceIte,reduceCtorEq,Nat.reduceLT,↓reduceIte,Nat.reduceEqDiff,↓gd,↓opP,↓qv,slot,putS,putO,ofV,binH,binS2,binS,p1,p3]
      repeat (refine ⟨by omega,?_⟩)
      exact intoR_refl (Nat.le_refl _) hfin
 ·have g1:decide ((i:Int) < (bs.length:Nat)) = false:=decide_eq_false (by omega)
  obtain rfl:i = bs.length:=by omega
  rw [List.drop_length,tEnd,Nat.add_zero] at hi
  have g3:((bs.length:Int) == (bs.length:Int)) = true:=beq_self_eq_true _
  simp -implicitDefEqProofs (maxSteps:=1000000) (disch:=omega) only [↓zzP,zzA,zzL,reduceIte,reduceCtorEq,Nat.reduceLT,↓reduceIte,Nat.reduceEqDiff,Array.reduceGetElem?,↓gd,↓opP,↓qv,slot,putS,putO,ofV,lenS,binH,binS2,binS,g1,g3]
  repeat (refine ⟨by omega,?_⟩)
  exact intoR_refl (Nat.le_refl _) (hE 3 (by unfold tk; rw [if_pos hi]))
set_option maxHeartbeats 8000000 in
theorem c161 (bs:List By) (h:List Chunk) (k d e:Nat) (w:Bool) (N:Nat) (F:Nat→SV) (hr:lookH h k = .row w N 1 F) (hN:e+bs.length≤N) (hF:∀ i,i < bs.length→F (e+i) = .int .u8 (nat (bs.getD i 0))) (hl:bs.length≤35184372088832) (K:Tok→SV→List Chunk→Prop) (hE:∀ er,tk bs = .error er→K .mk (.tup [.int .u64 0,.int .i64 0,.int .i64 er]) h) (hO:∀ n u,tk bs = .ok (n,u)→K .mk (.tup [.int .u64 (nat n),.int .i64 (u:Nat),.int .i64 0]) h):callP Try.prog 161 [.osl k d e 1 bs.length] h K:=by
 refine callP_of_code tabOk Try.func161 (by kernel_rfl) rfl (Nat.le_of_ble_eq_true rfl) (codeP_of_vc (pl:=np) tabOk follows_mixed (by kernel_rfl) ?_)
 rw [Try.ntmps161]
 simp -implicitDefEqProofs (maxSteps:=1000000) (disch:=omega) only [↓zzP,zzA,reduceIte,reduceCtorEq,Nat.reduceLT,↓reduceIte,↓gd,↓opP,↓qv,slot,putS,putO,ofV,tupS,res161]
 repeat (refine ⟨by omega,?_⟩)
 refine codeP_loop (pl:=np) tabOk follows_mixed (by kernel_rfl) (fun z st=>∃ (i:Nat) (j:Nat→Value),i+z = bs.length∧tEnd bs = i+tEnd (bs.drop i)∧st = ⟨⟨66,[(0,.osl k d e 1 bs.length),(2,.int .u64 0),(3,.int .i64 0),(4,.int .i64 0),(5,.int .i64 (i:Nat))],j⟩,h,[]⟩) ?_ ?_
 ·exact into_keep [(0,.osl k d e 1 bs.length),(2,.int .u64 0),(3,.int .i64 0),(4,.int .i64 0),(5,.int .i64 (0:Nat))] (by simp [sameT,slot,lkL]) fun j=>⟨bs.length,0,j,by omega,by simp,rfl⟩
 rintro z st ⟨i,j,hiz,hi,rfl⟩
 have a1:IntKind.i64.wrap ((i:Int)+1) = ((i+1:Nat):Int):=by rw [wrap64 (by omega) (by omega)]; omega
 by_cases c1:i < bs.length
 ·have g1:decide ((i:Int) < (bs.length:Nat)) = true:=decide_eq_true (by omega)
  have hb:=hF i c1
  by_cases c2:128≤(bs.getD i 0).toNat
  ·have g2:decide (nat (bs.getD i 0) ≥ 128) = true:=by rw [ge128]; exact decide_eq_true c2
   rw [tEnd_hi c1 c2] at hi
   simp -implicitDefEqProofs (maxSteps:=1000000) (disch:=omega) only [↓zzP,zzA,zzL,zzB,reduceIte,reduceCtorEq,Nat.reduceLT,↓reduceIte,Nat.reduceEqDiff,Array.reduceGetElem?,↓gd,↓opP,↓qv,slot,putS,putO,ofV,idxA,lenS,rdF,Ent.row,ldS,binH,binS2,binS,g1,hr,hb,g2,a1]
   repeat (refine ⟨by omega,?_⟩)
   exact into_keep [(0,.osl k d e 1 bs.length),(2,.int .u64 0),(3,.int .i64 0),(4,.int .i64 0),(5,.int .i64 (i+1:Nat))] (by simp [sameT,slot,lkL]) fun j=>⟨z - 1,by omega,i+1,j,by omega,by omega,rfl⟩
  ·have g2:decide (nat (bs.getD i 0) ≥ 128) = false:=by rw [ge128]; exact decide_eq_false c2
   rw [tEnd_lo c1 c2,Nat.add_zero] at hi
   subst hi
   have g4:((tEnd bs:Int) == (bs.length:Int)) = false:=by rw [beq_eq_false_iff_ne]; omega
   have e9:(bs.getD (tEnd bs) 0 = 0) ↔ nat (bs.getD (tEnd bs) 0) = 0:=⟨fun h=>by rw [h]; rfl,fun h=>nat_inj.1 (by rw [h]; rfl)⟩
   by_cases bad:tEnd bs > 9 ∨ (tEnd bs = 9∧1 < (bs.getD 9 0).toNat) ∨ (0 < tEnd bs∧bs.getD (tEnd bs) 0 = 0)
   ·have hfin:=hE 4 (by unfold tk; rw [if_neg (by omega),if_pos bad])
    obtain ⟨A,hA⟩:∃ A,decide ((tEnd bs:Int) > 9) = A:=⟨_,rfl⟩
    obtain ⟨B,hB⟩:∃ B,((tEnd bs:Int) == 9) = B:=⟨_,rfl⟩
    obtain ⟨C,hC⟩:∃ C,decide (nat (bs.getD (tEnd bs) 0) > 1) = C:=⟨_,rfl⟩
    obtain ⟨D,hD⟩:∃ D,decide ((tEnd bs:Int) > 0) = D:=⟨_,rfl⟩
    obtain ⟨E,hE'⟩:∃ E,(nat (bs.getD (tEnd bs) 0) == 0) = E:=⟨_,rfl⟩
    have hABC:A = true ∨ (B = true∧C = true) ∨ (D = true∧E = true):=by
     rcases bad with b | ⟨b1,b2⟩ | ⟨b1,b2⟩
     ·exact .inl (by rw [← hA]; exact decide_eq_true (by omega))
     ·refine .inr (.inl ⟨by rw [← hB,b1]; rfl,?_⟩)
      rw [← hC,b1]
      exact decide_eq_true (by unfold nat; omega)
     ·refine .inr (.inr ⟨by rw [← hD]; exact decide_eq_true (by omega),?_⟩)
      rw [← hE']
      exact beq_iff_eq.2 (e9.1 b2)
    have hx:=ge128 0
    cases A <;> cases B <;> cases C <;> cases D <;> cases E <;> simp only [Bool.false_eq_true,false_and,and_false,or_false,or_self,reduceCtorEq] at hABC
    all_goals
     simp -implicitDefEqProofs (maxSteps:=1000000) (disch:=omega) only [↓zzP,zzA,zzL,zzB,reduceIte,reduceCtorEq,Nat.reduceLT,↓reduceIte,Nat.reduceEqDiff,Array.reduceGetElem?,↓gd,↓opP,↓qv,slot,putS,putO,ofV,idxA,lenS,rdF,Ent.row,ldS,binH,binS2,binS,g1,hr,hb,g2,g4,hA,hB,hC,hD,hE']
     repeat (refine ⟨by omega,?_⟩)
     exact intoR_refl (Nat.le_refl _) hfin
   ·have hfin:=hO _ _ (by unfold tk; rw [if_neg (by omega),if_neg bad])
    have hA:decide ((tEnd bs:Int) > 9) = false:=decide_eq_false (by omega)
    have hbC:tEnd bs = 9→decide (nat (bs.getD (tEnd bs) 0) > 1) = false:=fun h=>by
     rw [h]
     exact decide_eq_false (by unfold nat; omega)
    have hbE:0 < tEnd bs→(nat (bs.getD (tEnd bs) 0) == 0) = false:=fun h=>by
     rw [beq_eq_false_iff_ne]
     exact fun h2=>bad (.inr (.inr ⟨h,e9.2 h2⟩))
    obtain ⟨B,hB⟩:∃ B,((tEnd bs:Int) == 9) = B:=⟨_,rfl⟩
    obtain ⟨C,hC⟩:∃ C,decide (nat (bs.getD (tEnd bs) 0) > 1) = C:=⟨_,rfl⟩
    obtain ⟨D,hD⟩:∃ D,decide ((tEnd bs:Int) > 0) = D:=⟨_,rfl⟩
    obtain ⟨E,hE'⟩:∃ E,(nat (bs.getD (tEnd bs) 0) == 0) = E:=⟨_,rfl⟩
    have h1:B = true→C = false:=fun h=>by
     rw [h] at hB
     rw [← hC]
     exact hbC (by have:=beq_iff_eq.1 hB; omega)
    have h2:D = true→E = false:=fun h=>by
     rw [h] at hD
     rw [← hE']
     exact hbE (by have:=of_decide_eq_true hD; omega)
    have h3:B = true→D = true:=fun h=>by
     rw [h] at hB
     rw [← hD]
     exact decide_eq_true (by have:=beq_iff_eq.1 hB; omega)
    clear bad hbC hbE
    cases B <;> cases D <;> simp only [Bool.false_eq_true,false_implies,true_implies,forall_const,reduceCtorEq] at h1 h2 h3
    all_goals
     try subst h1
     try subst h2
     simp -implicitDefEqProofs (maxSteps:=1000000) (disch:=omega) only [↓zzP,zzA,zzL,zzB,reduceIte,reduceCtorEq,Nat.reduceLT,↓reduceIte,Nat.reduceEqDiff,Array.reduceGetElem?,↓gd,↓opP,↓qv,slot,putS,putO,ofV,idxA,lenS,rdF,Ent.row,ldS,binH,binS2,binS,g1,hr,hb,g2,g4,hA,hB,hC,hD,hE']
     repeat (refine ⟨by omega,?_⟩)
     refine codeP_loop (pl:=np) tabOk follows_mixed (by kernel_rfl) (fun z st=>∃ (q:Int) (c:Nat) (j:Nat→Value),q+c = tEnd bs∧z+c = tEnd bs+1∧st = ⟨⟨66,[(0,.osl k d e 1 bs.length),(5,.int .i64 (tEnd bs:Nat)),(6,.int .u64 (nat (tv bs (tEnd bs) c))),(7,.int .i64 q)],j⟩,h,[]⟩) ?_ ?_
     ·exact into_keep [(0,.osl k d e 1 bs.length),(5,.int .i64 (tEnd bs:Nat)),(6,.int .u64 (0)),(7,.int .i64 (tEnd bs:Nat))] (by simp [sameT,slot,lkL]) fun j=>⟨tEnd bs+1,tEnd bs,0,j,by omega,by omega,rfl⟩
     rintro z st ⟨q,c,j,hq,hz,rfl⟩
     by_cases c3:0≤q
     ·obtain ⟨i,rfl⟩:=Int.eq_ofNat_of_zero_le c3
      have hb2:=hF i (by omega)
      have p1:decide (((i:Nat):Int) ≥ 0) = true:=decide_eq_true (by omega)
      have p2:bits .and .u8 (nat (bs.getD i 0)) 127 = nat (bs.getD i 0 &&& 127#8):=and8 _ 127#8
      have p3:IntKind.i64.wrap ((i:Int) - 1) = (i:Int) - 1:=wrap64 (by omega) (by omega)
      have p4:tv bs (tEnd bs) (c+1) = tv bs (tEnd bs) c <<< 7 ||| (bs.getD i 0 &&& 127#8).setWidth 64:=by rw [tv,show tEnd bs - c = i by omega]
      simp -implicitDefEqProofs (maxSteps:=1000000) (disch:=omega) only [↓zzP,zzA,zzB,reduceIte,reduceCtorEq,Nat.reduceLT,Int.reduceLE,↓reduceIte,Nat.reduceEqDiff,Int.reduceToNat,↓gd,↓opP,↓qv,slot,putS,putO,ofV,convS,idxA,rdF,Ent.row,ldS,binH,binS2,binS,p1,p2,p3,hr,hb2]
      repeat (refine ⟨by omega,?_⟩)
      rw [← p4]
      exact into_keep [(0,.osl k d e 1 bs.length),(5,.int .i64 (tEnd bs:Nat)),(6,.int .u64 (nat (tv bs (tEnd bs) (c+1)))),(7,.int .i64 ((i:Int) - 1))] (by simp [sameT,slot,lkL]) fun j=>⟨z - 1,by omega,(i:Int) - 1,c+1,j,by omega,by omega,rfl⟩
     ·have p1:decide (q ≥ 0) = false:=decide_eq_false (by omega)
      obtain rfl:c = tEnd bs+1:=by omega
      have p3:IntKind.i64.wrap ((tEnd bs:Int)+1) = ((tEnd bs+1:Nat):Int):=by rw [wrap64 (by omega) (by omega)]; omega
      simp -implicitDefEqProofs (maxSteps:=1000000) (disch:=omega) only [↓zzP,zzA,zzL,reduceIte,reduceCtorEq,Nat.reduceLT,↓reduceIte,Nat.reduceEqDiff,↓gd,↓opP,↓qv,slot,putS,putO,ofV,binH,binS2,binS,p1,p3]
      repeat (refine ⟨by omega,?_⟩)
      exact intoR_refl (Nat.le_refl _) hfin
 ·have g1:decide ((i:Int) < (bs.length:Nat)) = false:=decide_eq_false (by omega)
  obtain rfl:i = bs.length:=by omega
  rw [List.drop_length,tEnd,Nat.add_zero] at hi
  have g3:((bs.length:Int) == (bs.length:Int)) = true:=beq_self_eq_true _
  simp -implicitDefEqProofs (maxSteps:=1000000) (disch:=omega) only [↓zzP,zzA,zzL,reduceIte,reduceCtorEq,Nat.reduceLT,↓reduceIte,Nat.reduceEqDiff,Array.reduceGetElem?,↓gd,↓opP,↓qv,slot,putS,putO,ofV,lenS,binH,binS2,binS,g1,g3]
  repeat (refine ⟨by omega,?_⟩)
  exact intoR_refl (Nat.le_refl _) (hE 3 (by unfold tk; rw [if_pos hi]))
end Go.Proofs.Ytgocfglmideobaa
set_option linter.all false
set_option maxRecDepth 40000
namespace Go.Proofs.Ytgocfglmideobaa
open Go Go.Sx
def unz (u:BitVec 64):Int:=if u.toNat % 2 = 1 then -((u.toNat / 2:Nat):Int) - 1 else ((u.toNat / 2:Nat):Int)
theorem and1 (u:BitVec 64):bits .and .u64 (nat u) 1 = ((u.toNat % 2:Nat):Int):=by
 have e:bits .and .u64 (nat u) 1 = nat (u &&& 1#64):=and64 u 1#64
 rw [e]
 unfold nat
 rw [BitVec.toNat_and,show (1#64).toNat = 1 from rfl,Nat.and_one_is_mod]
theorem shr1 (u:BitVec 64):IntKind.i64.wrap (nat (u >>> 1)) = ((u.toNat / 2:Nat):Int):=by
 have h:=u.isLt
 have e:nat (u >>> 1) = ((u.toNat / 2:Nat):Int):=by
  unfold nat
  rw [BitVec.toNat_ushiftRight,Nat.shiftRight_eq_div_pow]
 rw [e,wrap64 (by omega) (by omega)]
theorem unz_ref (u:BitVec 64) (h:u.toNat % 2 = 1):IntKind.i64.wrap (IntKind.i64.wrap ((0:Int) - IntKind.i64.wrap (nat (u >>> 1))) - 1) = unz u:=by
 have hl:=u.isLt
 rw [shr1,unz,if_pos h]
 have e:IntKind.i64.wrap (0 - ((u.toNat / 2:Nat):Int)) = 0 - ((u.toNat / 2:Nat):Int):=wrap64 (by omega) (by omega)
 have e2:IntKind.i64.wrap (0 - ((u.toNat / 2:Nat):Int) - 1) = 0 - ((u.toNat / 2:Nat):Int) - 1:=wrap64 (by omega) (by omega)
 calc _ = IntKind.i64.wrap (IntKind.i64.wrap (0 - ((u.toNat / 2:Nat):Int)) - 1):=rfl
  _ = 0 - ((u.toNat / 2:Nat):Int) - 1:=by rw [e,e2]
  _ = _:=by omega
theorem unz_ref0 (u:BitVec 64) (h:¬ u.toNat % 2 = 1):IntKind.i64.wrap (nat (u >>> 1)) = unz u:=by
 rw [shr1,unz,if_neg h]
theorem unz_wire (u:BitVec 64):bits .xor .i64 (IntKind.i64.wrap (nat (u >>> 1))) (IntKind.i64.wrap (0 - IntKind.i64.wrap (bits .and .u64 (nat u) 1))) = unz u:=by
 have hl:=u.isLt
 rw [shr1,and1]
 have e0:((u.toNat / 2:Nat):Int) = nat (u >>> 1):=by
  unfold nat
  rw [BitVec.toNat_ushiftRight,Nat.shiftRight_eq_div_pow]
 have hx1:∀ v w:BitVec 64,bits .xor .i64 (nat v) (nat w) = IntKind.i64.wrap (nat (v ^^^ w)):=fun v w=>by
  simp only [bits,ofInt_nat,BitVec.setWidth_eq]
  rfl
 by_cases h:u.toNat % 2 = 1
 ·rw [h,unz,if_pos h,show IntKind.i64.wrap (0 - IntKind.i64.wrap ((1:Nat):Int)) = -1 from rfl,e0]
  have hx2:bits .xor .i64 (nat (u >>> 1)) (-1) = bits .xor .i64 (nat (u >>> 1)) (nat (BitVec.allOnes 64)):=rfl
  rw [hx2,hx1,BitVec.xor_allOnes]
  have hx:nat (~~~(u >>> 1)) = 18446744073709551615 - nat (u >>> 1):=by
   unfold nat
   rw [BitVec.toNat_not]
   have:=(u >>> 1).isLt
   omega
  rw [hx]
  simp only [IntKind.wrap,show IntKind.i64.bits = 64 from rfl,show IntKind.i64.signed = true from rfl,Bool.true_and,decide_eq_true_eq]
  split <;> omega
 ·have h0:u.toNat % 2 = 0:=by omega
  rw [h0,unz,if_neg h,show IntKind.i64.wrap (0 - IntKind.i64.wrap ((0:Nat):Int)) = 0 from rfl,e0]
  have hx2:bits .xor .i64 (nat (u >>> 1)) 0 = bits .xor .i64 (nat (u >>> 1)) (nat 0#64):=rfl
  rw [hx2,hx1,BitVec.xor_zero]
  exact wrap64 (by omega) (by omega)
end Go.Proofs.Ytgocfglmideobaa
set_option linter.all false
set_option maxRecDepth 40000
namespace Go.Proofs.Ytgocfglmideobaa
open Go Go.Sx
theorem res154:Try.f154.results.toList = [.tmp 2,.tmp 3,.tmp 4]:=rfl
theorem res160:Try.f160.results.toList = [.tmp 2,.tmp 3,.tmp 4]:=rfl
theorem res156:Try.f156.results.toList = [.tmp 4,.tmp 5,.tmp 6]:=rfl
theorem res162:Try.f162.results.toList = [.tmp 4,.tmp 5,.tmp 6]:=rfl
set_option maxHeartbeats 4000000 in
theorem c154 (bs:List By) (h:List Chunk) (k d e:Nat) (w:Bool) (N:Nat) (F:Nat→SV) (hr:lookH h k = .row w N 1 F) (hN:e+bs.length≤N) (hF:∀ i,i < bs.length→F (e+i) = .int .u8 (nat (bs.getD i 0))) (hl:bs.length≤35184372088832) (K:Tok→SV→List Chunk→Prop) (hE:∀ er,tk bs = .error er→K .mk (.tup [.int .i64 0,.int .i64 0,.int .i64 er]) h) (hO:∀ n u,tk bs = .ok (n,u)→K .mk (.tup [.int .i64 (unz n),.int .i64 (u:Nat),.int .i64 0]) h):callP Try.prog 154 [.osl k d e 1 bs.length] h K:=by
 refine callP_of_code tabOk Try.func154 (by kernel_rfl) rfl (Nat.le_of_ble_eq_true rfl) (codeP_of_vc (pl:=np) tabOk follows_mixed (by kernel_rfl) ?_)
 rw [Try.ntmps154]
 simp -implicitDefEqProofs (maxSteps:=1000000) (disch:=omega) only [↓zzP,zzA,reduceIte,reduceCtorEq,Nat.reduceLT,↓reduceIte,↓gd,↓opP,↓qv,slot,putS,putO,ofV,tupS,res154]
 repeat (refine ⟨by omega,?_⟩)
 refine c155 bs h k d e w N F hr hN hF hl _ (fun er he=>?_) (fun n u he=>?_)
 ·have hfin:=hE er he
  have e0:bits .xor .i64 (IntKind.i64.wrap (shrS .u64 0 1)) (IntKind.i64.wrap (0 - IntKind.i64.wrap (bits .and .u64 0 1))) = 0:=rfl
  simp -implicitDefEqProofs (maxSteps:=1000000) (disch:=omega) only [↓zzP,zzA,reduceIte,Nat.reduceLT,Int.reduceLE,↓reduceIte,Nat.reduceEqDiff,Nat.reduceAdd,↓gd,↓opP,↓qv,slot,putS,putO,ofV,convS,unS,binH,binS2,binS,e0]
  repeat (refine ⟨by omega,?_⟩)
  exact intoR_refl (Nat.le_refl _) hfin
 ·have hfin:=hO n u he
  have e0:=unz_wire n
  simp -implicitDefEqProofs (maxSteps:=1000000) (disch:=omega) only [↓zzP,zzA,reduceIte,Nat.reduceLT,Int.reduceLE,↓reduceIte,Nat.reduceEqDiff,Nat.reduceAdd,Int.reduceToNat,↓gd,↓opP,↓qv,slot,putS,putO,ofV,convS,unS,binH,binS2,binS,e0]
  repeat (refine ⟨by omega,?_⟩)
  exact intoR_refl (Nat.le_refl _) hfin
set_option maxHeartbeats 4000000 in
theorem c160 (bs:List By) (h:List Chunk) (k d e:Nat) (w:Bool) (N:Nat) (F:Nat→SV) (hr:lookH h k = .row w N 1 F) (hN:e+bs.length≤N) (hF:∀ i,i < bs.length→F (e+i) = .int .u8 (nat (bs.getD i 0))) (hl:bs.length≤35184372088832) (K:Tok→SV→List Chunk→Prop) (hE:∀ er,tk bs = .error er→K .mk (.tup [.int .i64 0,.int .i64 0,.int .i64 er]) h) (hO:∀ n u,tk bs = .ok (n,u)→K .mk (.tup [.int .i64 (unz n),.int .i64 (u:Nat),.int .i64 0]) h):callP Try.prog 160 [.osl k d e 1 bs.length] h K:=by
 refine callP_of_code tabOk Try.func160 (by kernel_rfl) rfl (Nat.le_of_ble_eq_true rfl) (codeP_of_vc (pl:=np) tabOk follows_mixed (by kernel_rfl) ?_)
 rw [Try.ntmps160]
 simp -implicitDefEqProofs (maxSteps:=1000000) (disch:=omega) only [↓zzP,zzA,reduceIte,reduceCtorEq,Nat.reduceLT,↓reduceIte,↓gd,↓opP,↓qv,slot,putS,putO,ofV,tupS,res160]
 repeat (refine ⟨by omega,?_⟩)
 refine c161 bs h k d e w N F hr hN hF hl _ (fun er he=>?_) (fun n u he=>?_)
 ·have hfin:=hE er he
  have e0:(bits .and .u64 0 1 == 1) = false:=rfl
  have e1:IntKind.i64.wrap (shrS .u64 0 1) = 0:=rfl
  simp -implicitDefEqProofs (maxSteps:=1000000) (disch:=omega) only [↓zzP,zzA,reduceIte,Nat.reduceLT,Int.reduceLE,↓reduceIte,Nat.reduceEqDiff,Nat.reduceAdd,↓gd,↓opP,↓qv,slot,putS,putO,ofV,convS,binH,binS2,binS,e0,e1]
  repeat (refine ⟨by omega,?_⟩)
  exact intoR_refl (Nat.le_refl _) hfin
 ·have hfin:=hO n u he
  by_cases c:n.toNat % 2 = 1
  ·have e0:(bits .and .u64 (nat n) 1 == 1) = true:=by rw [and1,c]; rfl
   have e1:=unz_ref n c
   simp -implicitDefEqProofs (maxSteps:=1000000) (disch:=omega) only [↓zzP,zzA,reduceIte,Nat.reduceLT,Int.reduceLE,↓reduceIte,Nat.reduceEqDiff,Nat.reduceAdd,Int.reduceToNat,↓gd,↓opP,↓qv,slot,putS,putO,ofV,convS,unS,binH,binS2,binS,e0,e1]
   repeat (refine ⟨by omega,?_⟩)
   exact intoR_refl (Nat.le_refl _) hfin
  ·have e0:(bits .and .u64 (nat n) 1 == 1) = false:=by rw [and1,beq_eq_false_iff_ne]; omega
   have e1:=unz_ref0 n c
   simp -implicitDefEqProofs (maxSteps:=1000000) (disch:=omega) only [↓zzP,zzA,reduceIte,Nat.reduceLT,Int.reduceLE,↓reduceIte,Nat.reduceEqDiff,Nat.reduceAdd,Int.reduceToNat,↓gd,↓opP,↓qv,slot,putS,putO,ofV,convS,binH,binS2,binS,e0,e1]
   repeat (refine ⟨by omega,?_⟩)
   exact intoR_refl (Nat.le_refl _) hfin
def tb (bs:List By) (most:Nat):Except Int (List By × Nat) :=
 match tk bs with
 | .error e=>.error e
 | .ok (n,u)=>if n.toNat > most then .error 2 else if n.toNat > bs.length - u then .error 3 else .ok ((bs.drop u).take n.toNat,u+n.toNat)
theorem tb_e {bs:List By} {most:Nat} {er:Int} (h:tk bs = .error er):tb bs most = .error er:=by unfold tb; rw [h]
theorem tb_o {bs:List By} {most u:Nat} {n:BitVec 64} (h:tk bs = .ok (n,u)):tb bs most = if n.toNat > most then .error 2 else if n.toNat > bs.length - u then .error 3 else .ok ((bs.drop u).take n.toNat,u+n.toNat):=by unfold tb; rw [h]
set_option maxHeartbeats 4000000 in
theorem c156 (bs:List By) (h:List Chunk) (k d e:Nat) (w:Bool) (N:Nat) (F:Nat→SV) (hr:lookH h k = .row w N 1 F) (hN:e+bs.length≤N) (hF:∀ i,i < bs.length→F (e+i) = .int .u8 (nat (bs.getD i 0))) (hl:bs.length≤35184372088832) (most:Nat) (hm:most≤1125899906842624) (K:Tok→SV→List Chunk→Prop) (hE:∀ er,tb bs most = .error er→K .mk (.tup [.v (.slice none 0 0),.int .i64 0,.int .i64 er]) h) (hO:∀ c v,tb bs most = .ok (c,v)→∀ H k',Ext (fun _=>False) h H→h.length≤k'→lookH H k' = .row true c.length 1 (bt c)→K .mk (.tup [.osl k' 0 0 1 c.length,.int .i64 (v:Nat),.int .i64 0]) H):callP Try.prog 156 [.osl k d e 1 bs.length,.int .i64 (most:Nat)] h K:=by
 refine callP_of_code tabOk Try.func156 (by kernel_rfl) rfl (Nat.le_of_ble_eq_true rfl) (codeP_of_vc (pl:=np) tabOk follows_mixed (by kernel_rfl) ?_)
 rw [Try.ntmps156]
 simp -implicitDefEqProofs (maxSteps:=1000000) (disch:=omega) only [↓zzP,zzA,reduceIte,reduceCtorEq,Nat.reduceLT,↓reduceIte,Nat.reduceAdd,↓gd,↓opP,↓qv,slot,putS,putO,ofV,tupS,res156]
 repeat (refine ⟨by omega,?_⟩)
 refine c155 bs h k d e w N F hr hN hF hl _ (fun er he=>?_) (fun n u he=>?_)
 ·have hfin:=hE er (tb_e he)
  have z1:(er != 0) = true:=by rcases tk_err he with rfl | rfl <;> rfl
  simp -implicitDefEqProofs (maxSteps:=1000000) (disch:=omega) only [↓zzP,zzA,reduceIte,Nat.reduceLT,↓reduceIte,Nat.reduceEqDiff,Nat.reduceAdd,↓gd,↓opP,↓qv,slot,putS,putO,ofV,binH,binS2,binS,z1]
  repeat (refine ⟨by omega,?_⟩)
  exact intoR_refl (Nat.le_refl _) hfin
 ·have hu:=tk_ok he
  have ht:=tb_o (most:=most) he
  have z1:((0:Int) != 0) = false:=rfl
  have z2:decide (((most:Nat):Int) < 0) = false:=decide_eq_false (by omega)
  have z3:IntKind.u64.wrap ((most:Nat):Int) = ((most:Nat):Int):=Go.Sx.wrap_small rfl (by omega) (by rw [show IntKind.u64.bits = 64 from rfl]; omega)
  by_cases c1:n.toNat > most
  ·have g1:decide (nat n > ((most:Nat):Int)) = true:=decide_eq_true (by unfold nat; omega)
   rw [if_pos c1] at ht
   simp -implicitDefEqProofs (maxSteps:=1000000) (disch:=omega) only [↓zzP,zzA,zzL,reduceIte,reduceCtorEq,Nat.reduceLT,↓reduceIte,Nat.reduceEqDiff,Nat.reduceAdd,Array.reduceGetElem?,↓gd,↓opP,↓qv,slot,putS,putO,ofV,convS,binH,binS2,binS,z1,z2,z3,g1]
   repeat (refine ⟨by omega,?_⟩)
   exact intoR_refl (Nat.le_refl _) (hE 2 ht)
  ·have g1:decide (nat n > ((most:Nat):Int)) = false:=decide_eq_false (by unfold nat; omega)
   rw [if_neg c1] at ht
   have z4:IntKind.i64.wrap ((bs.length:Int) - (u:Int)) = ((bs.length - u:Nat):Int):=by rw [wrap64 (by omega) (by omega)]; omega
   have z5:IntKind.u64.wrap ((bs.length - u:Nat):Int) = ((bs.length - u:Nat):Int):=Go.Sx.wrap_small rfl (by omega) (by rw [show IntKind.u64.bits = 64 from rfl]; omega)
   by_cases c2:n.toNat > bs.length - u
   ·have g2:decide (nat n > ((bs.length - u:Nat):Int)) = true:=decide_eq_true (by unfold nat; omega)
    rw [if_pos c2] at ht
    simp -implicitDefEqProofs (maxSteps:=1000000) (disch:=omega) only [↓zzP,zzA,zzL,reduceIte,reduceCtorEq,Nat.reduceLT,↓reduceIte,Nat.reduceEqDiff,Nat.reduceAdd,Array.reduceGetElem?,↓gd,↓opP,↓qv,slot,putS,putO,ofV,convS,lenS,binH,binS2,binS,z1,z2,z3,g1,z4,z5,g2]
    repeat (refine ⟨by omega,?_⟩)
    exact intoR_refl (Nat.le_refl _) (hE 3 ht)
   ·have g2:decide (nat n > ((bs.length - u:Nat):Int)) = false:=decide_eq_false (by unfold nat; omega)
    rw [if_neg c2] at ht
    have z6:IntKind.i64.wrap (nat n) = ((n.toNat:Nat):Int):=wrap64 (by unfold nat; omega) (by unfold nat; omega)
    have z7:IntKind.i64.wrap ((u:Int)+((n.toNat:Nat):Int)) = ((u+n.toNat:Nat):Int):=by rw [wrap64 (by omega) (by omega)]; omega
    simp -implicitDefEqProofs (maxSteps:=1000000) (disch:=omega) only [↓zzP,zzA,zzL,reduceIte,reduceCtorEq,Nat.reduceLT,↓reduceIte,Nat.reduceEqDiff,Nat.reduceAdd,Array.reduceGetElem?,↓gd,↓opP,↓qv,↓ef,↓appS,slot,putS,putO,ofV,convS,bnd,slS,lenS,srcS,binH,binS2,binS,notInt,z1,z2,z3,g1,z4,z5,g2,z6,z7,hr]
    repeat (refine ⟨by omega,?_⟩)
    obtain ⟨c,hc⟩:∃ c,c = (bs.drop u).take n.toNat:=⟨_,rfl⟩
    have hcl:c.length = n.toNat:=by rw [hc,List.length_take,List.length_drop]; omega
    rw [← hc] at ht
    have hn:u+n.toNat - u = c.length:=by omega
    rw [hn]
    refine intoR_sim (row_sim (D:=c) rfl fun i hi=>?_) (intoR_refl (by simp) (hO c _ ht _ _ ((Ext.refl _ _).app _) (Nat.le_refl _) (lookH_end _ _)))
    rw [Nat.add_assoc,hF _ (by omega),hc]
    congr 2
    simp [List.getD,List.getElem?_take,List.getElem?_drop,show i < n.toNat by omega]
set_option maxHeartbeats 4000000 in
theorem c162 (bs:List By) (h:List Chunk) (k d e:Nat) (w:Bool) (N:Nat) (F:Nat→SV) (hr:lookH h k = .row w N 1 F) (hN:e+bs.length≤N) (hF:∀ i,i < bs.length→F (e+i) = .int .u8 (nat (bs.getD i 0))) (hl:bs.length≤35184372088832) (most:Nat) (hm:most≤1125899906842624) (K:Tok→SV→List Chunk→Prop) (hE:∀ er,tb bs most = .error er→K .mk (.tup [.v (.slice none 0 0),.int .i64 0,.int .i64 er]) h) (hO:∀ c v,tb bs most = .ok (c,v)→∀ H k',Ext (fun _=>False) h H→h.length≤k'→lookH H k' = .row true c.length 1 (bt c)→K .mk (.tup [.osl k' 0 0 1 c.length,.int .i64 (v:Nat),.int .i64 0]) H):callP Try.prog 162 [.osl k d e 1 bs.length,.int .i64 (most:Nat)] h K:=by
 refine callP_of_code tabOk Try.func162 (by kernel_rfl) rfl (Nat.le_of_ble_eq_true rfl) (codeP_of_vc (pl:=np) tabOk follows_mixed (by kernel_rfl) ?_)
 rw [Try.ntmps162]
 simp -implicitDefEqProofs (maxSteps:=1000000) (disch:=omega) only [↓zzP,zzA,reduceIte,reduceCtorEq,Nat.reduceLT,↓reduceIte,Nat.reduceAdd,↓gd,↓opP,↓qv,slot,putS,putO,ofV,tupS,res162]
 repeat (refine ⟨by omega,?_⟩)
 refine c161 bs h k d e w N F hr hN hF hl _ (fun er he=>?_) (fun n u he=>?_)
 ·have hfin:=hE er (tb_e he)
  have z1:(er != 0) = true:=by rcases tk_err he with rfl | rfl <;> rfl
  simp -implicitDefEqProofs (maxSteps:=1000000) (disch:=omega) only [↓zzP,zzA,reduceIte,Nat.reduceLT,↓reduceIte,Nat.reduceEqDiff,Nat.reduceAdd,↓gd,↓opP,↓qv,slot,putS,putO,ofV,binH,binS2,binS,z1]
  repeat (refine ⟨by omega,?_⟩)
  exact intoR_refl (Nat.le_refl _) hfin
 ·have hu:=tk_ok he
  have ht:=tb_o (most:=most) he
  have z1:((0:Int) != 0) = false:=rfl
  have z2:decide (((most:Nat):Int) < 0) = false:=decide_eq_false (by omega)
  have z3:IntKind.u64.wrap ((most:Nat):Int) = ((most:Nat):Int):=Go.Sx.wrap_small rfl (by omega) (by rw [show IntKind.u64.bits = 64 from rfl]; omega)
  by_cases c1:n.toNat > most
  ·have g1:decide (nat n > ((most:Nat):Int)) = true:=decide_eq_true (by unfold nat; omega)
   rw [if_pos c1] at ht
   simp -implicitDefEqProofs (maxSteps:=1000000) (disch:=omega) only [↓zzP,zzA,zzL,reduceIte,reduceCtorEq,Nat.reduceLT,↓reduceIte,Nat.reduceEqDiff,Nat.reduceAdd,Array.reduceGetElem?,↓gd,↓opP,↓qv,slot,putS,putO,ofV,convS,binH,binS2,binS,z1,z2,z3,g1]
   repeat (refine ⟨by omega,?_⟩)
   exact intoR_refl (Nat.le_refl _) (hE 2 ht)
  ·have g1:decide (nat n > ((most:Nat):Int)) = false:=decide_eq_false (by unfold nat; omega)
   rw [if_neg c1] at ht
   have z4:IntKind.i64.wrap ((bs.length:Int) - (u:Int)) = ((bs.length - u:Nat):Int):=by rw [wrap64 (by omega) (by omega)]; omega
   have z5:IntKind.u64.wrap ((bs.length - u:Nat):Int) = ((bs.length - u:Nat):Int):=Go.Sx.wrap_small rfl (by omega) (by rw [show IntKind.u64.bits = 64 from rfl]; omega)
   by_cases c2:n.toNat > bs.length - u
   ·have g2:decide (nat n > ((bs.length - u:Nat):Int)) = true:=decide_eq_true (by unfold nat; omega)
    rw [if_pos c2] at ht
    simp -implicitDefEqProofs (maxSteps:=1000000) (disch:=omega) only [↓zzP,zzA,zzL,reduceIte,reduceCtorEq,Nat.reduceLT,↓reduceIte,Nat.reduceEqDiff,Nat.reduceAdd,Array.reduceGetElem?,↓gd,↓opP,↓qv,slot,putS,putO,ofV,convS,lenS,binH,binS2,binS,z1,z2,z3,g1,z4,z5,g2]
    repeat (refine ⟨by omega,?_⟩)
    exact intoR_refl (Nat.le_refl _) (hE 3 ht)
   ·have g2:decide (nat n > ((bs.length - u:Nat):Int)) = false:=decide_eq_false (by unfold nat; omega)
    rw [if_neg c2] at ht
    have z6:IntKind.i64.wrap (nat n) = ((n.toNat:Nat):Int):=wrap64 (by unfold nat; omega) (by unfold nat; omega)
    have z7:IntKind.i64.wrap ((u:Int)+((n.toNat:Nat):Int)) = ((u+n.toNat:Nat):Int):=by rw [wrap64 (by omega) (by omega)]; omega
    simp -implicitDefEqProofs (maxSteps:=1000000) (disch:=omega) only [↓zzP,zzA,zzL,reduceIte,reduceCtorEq,Nat.reduceLT,↓reduceIte,Nat.reduceEqDiff,Nat.reduceAdd,Array.reduceGetElem?,↓gd,↓opP,↓qv,↓ef,↓appS,slot,putS,putO,ofV,convS,bnd,slS,lenS,srcS,binH,binS2,binS,notInt,z1,z2,z3,g1,z4,z5,g2,z6,z7,hr]
    repeat (refine ⟨by omega,?_⟩)
    obtain ⟨c,hc⟩:∃ c,c = (bs.drop u).take n.toNat:=⟨_,rfl⟩
    have hcl:c.length = n.toNat:=by rw [hc,List.length_take,List.length_drop]; omega
    rw [← hc] at ht
    have hn:u+n.toNat - u = c.length:=by omega
    rw [hn]
    refine intoR_sim (row_sim (D:=c) rfl fun i hi=>?_) (intoR_refl (by simp) (hO c _ ht _ _ ((Ext.refl _ _).app _) (Nat.le_refl _) (lookH_end _ _)))
    rw [Nat.add_assoc,hF _ (by omega),hc]
    congr 2
    simp [List.getD,List.getElem?_take,List.getElem?_drop,show i < n.toNat by omega]
end Go.Proofs.Ytgocfglmideobaa
set_option linter.all false
set_option maxRecDepth 40000
namespace Go.Proofs.Ytgocfglmideobaa
open Go Go.Sx
theorem res131:Try.f131.results.toList = [.tmp 6]:=rfl
theorem res126:Try.f126.results.toList = [.tmp 2]:=rfl
theorem res127:Try.f127.results.toList = [.tmp 2]:=rfl
theorem res128:Try.f128.results.toList = [.tmp 2]:=rfl
def RdB (h:List Chunk) (sv:SV) (bs:List By):Prop:=∃ k d e w N F,sv = .osl k d e 1 bs.length∧lookH h k = .row w N 1 F∧e+bs.length≤N∧∀ i,i < bs.length→F (e+i) = .int .u8 (nat (bs.getD i 0))
theorem ne_cr {h:List Chunk} {kr k n s:Nat} {wr w:Bool} {fs:List SV} {F:Nat→SV} (hk:lookH h kr = .cells wr fs) (hr:lookH h k = .row w n s F):k ≠ kr:=fun e=>by rw [e,hk] at hr; cases hr
theorem RdB.put {h:List Chunk} {kr:Nat} {sv:SV} {bs:List By} {wr:Bool} {fs:List SV} (hB:RdB h sv bs) (hk:lookH h kr = .cells wr fs) (c:Chunk):RdB (putH h kr c) sv bs:=by
 obtain ⟨k,d,e,w,N,F,rfl,hr,hN,hF⟩:=hB
 exact ⟨k,d,e,w,N,F,rfl,by rw [lookH_put_ne _ (ne_cr hk hr)]; exact hr,hN,hF⟩
theorem RdB.ext {h H:List Chunk} {sv:SV} {bs:List By} (hB:RdB h sv bs) (hE:ExtR h H):RdB H sv bs:=by
 obtain ⟨k,d,e,w,N,F,rfl,hr,hN,hF⟩:=hB
 exact ⟨k,d,e,w,N,F,rfl,hE _ _ _ _ _ hr,hN,hF⟩
theorem RdB.drop {h:List Chunk} {k e N:Nat} {w:Bool} {F:Nat→SV} {bs:List By} (hr:lookH h k = .row w N 1 F) (hN:e+bs.length≤N) (hF:∀ i,i < bs.length→F (e+i) = .int .u8 (nat (bs.getD i 0))) (u d':Nat) (hu:u≤bs.length):RdB h (.osl k d' (e+u) 1 (bs.length - u)) (bs.drop u):=by
 refine ⟨k,d',e+u,w,N,F,by rw [List.length_drop],hr,by rw [List.length_drop]; omega,fun i hi=>?_⟩
 rw [List.length_drop] at hi
 rw [Nat.add_assoc,hF _ (by omega)]
 congr 2
 simp [List.getD,List.getElem?_drop]
theorem ext_rd {h H:List Chunk} {kr:Nat} {wr:Bool} {fs:List SV} (hE:Ext (fun j=>j = kr) h H) (hk:lookH h kr = .cells wr fs):ExtR h H:=ext_rows hE fun k' e w n' s' f' hh=>by rw [e,hk] at hh; cases hh
theorem c131e (bs:List By) (h:List Chunk) (kr k d e:Nat) (w:Bool) (N:Nat) (F:Nat→SV) (dp er:Int) (hk:lookH h kr = .cells true [.osl k d e 1 bs.length,.int .i64 dp,.int .i64 er]) (u:Nat) (e2:Int) (he:e2 ≠ 0) (K:Tok→SV→List Chunk→Prop) (hK:K .mk (.bool false) (putH h kr (.cells true [.osl k d e 1 bs.length,.int .i64 dp,.int .i64 e2]))):callP Try.prog 131 [.ptr kr 0,.int .i64 (u:Nat),.int .i64 e2] h K:=by
 have z1:(e2 != 0) = true:=bne_iff_ne.2 he
 have hlt:=lookH_lt hk (by simp)
 refine callP_of_code tabOk Try.func131 (by kernel_rfl) rfl (Nat.le_of_ble_eq_true rfl) (codeP_of_vc (pl:=np) tabOk follows_mixed (by kernel_rfl) ?_)
 rw [Try.ntmps131]
 simp -implicitDefEqProofs (maxSteps:=1000000) (disch:=omega) only [↓zzP,zzA,zzL,zzB,Nat.reduceSub,reduceIte,reduceCtorEq,Nat.reduceLT,↓reduceIte,Nat.reduceEqDiff,Nat.reduceLeDiff,Nat.reduceAdd,↓gd,↓opP,↓qv,↓ef,↓stS,slot,putS,putO,ofV,fldA,sz,wrF,binH,binS2,binS,tupS,stor,res131,z1,hk]
 repeat (refine ⟨by omega,?_⟩)
 exact intoR_refl (by rw [putH_len]; exact Nat.le_refl _) hK
theorem c131 (bs:List By) (h:List Chunk) (kr k d e:Nat) (w:Bool) (N:Nat) (F:Nat→SV) (dp er:Int) (hk:lookH h kr = .cells true [.osl k d e 1 bs.length,.int .i64 dp,.int .i64 er]) (hr:lookH h k = .row w N 1 F) (hN:e+bs.length≤N) (hF:∀ i,i < bs.length→F (e+i) = .int .u8 (nat (bs.getD i 0))) (hl:bs.length≤35184372088832)(u:Nat) (hu:u≤bs.length) (K:Tok→SV→List Chunk→Prop) (hK:∀ d',K .mk (.bool true) (putH h kr (.cells true [.osl k d' (e+u) 1 (bs.length - u),.int .i64 dp,.int .i64 er]))):callP Try.prog 131 [.ptr kr 0,.int .i64 (u:Nat),.int .i64 0] h K:=by
 have z1:((0:Int) != 0) = false:=rfl
 have hlt:=lookH_lt hk (by simp)
 refine callP_of_code tabOk Try.func131 (by kernel_rfl) rfl (Nat.le_of_ble_eq_true rfl) (codeP_of_vc (pl:=np) tabOk follows_mixed (by kernel_rfl) ?_)
 rw [Try.ntmps131]
 simp -implicitDefEqProofs (maxSteps:=1000000) (disch:=omega) only [↓zzP,zzA,zzL,zzB,reduceIte,reduceCtorEq,Nat.reduceLT,↓reduceIte,Nat.reduceEqDiff,Nat.reduceLeDiff,Nat.reduceAdd,↓gd,↓opP,↓qv,↓ef,↓stS,slot,putS,putO,ofV,fldA,bnd,slS,rdF,Ent.row,ldS,sz,wrF,binH,binS2,binS,tupS,stor,res131,z1,hk,hr]
 repeat (refine ⟨by omega,?_⟩)
 exact intoR_refl (by rw [putH_len]; exact Nat.le_refl _) (hK _)
def pKind (bs:List By):Except Int (Int × List By):=match bs with | []=>.error 3 | b :: r=>.ok ((b.toNat:Int),r)
def pInt (bs:List By):Except Int (Int × List By):=match tk bs with | .error e=>.error e | .ok (n,u)=>.ok (unz n,bs.drop u)
def pNum (bs:List By):Except Int (Int × List By):=match tk bs with | .error e=>.error e | .ok (n,u)=>if n.toNat > 4611686018427387904 then .error 4 else .ok ((n.toNat:Int),bs.drop u)
theorem pInt_e {bs:List By} {er:Int} (h:tk bs = .error er):pInt bs = .error er:=by unfold pInt; rw [h]
theorem pInt_o {bs:List By} {n:BitVec 64} {u:Nat} (h:tk bs = .ok (n,u)):pInt bs = .ok (unz n,bs.drop u):=by unfold pInt; rw [h]
theorem pNum_e {bs:List By} {er:Int} (h:tk bs = .error er):pNum bs = .error er:=by unfold pNum; rw [h]
theorem pNum_o {bs:List By} {n:BitVec 64} {u:Nat} (h:tk bs = .ok (n,u)):pNum bs = if n.toNat > 4611686018427387904 then .error 4 else .ok ((n.toNat:Int),bs.drop u):=by unfold pNum; rw [h]
theorem tk_ne {bs:List By} {er:Int} (h:tk bs = .error er):er ≠ 0:=by rcases tk_err h with rfl | rfl <;> decide
set_option maxHeartbeats 4000000 in
theorem c126 (bs:List By) (h:List Chunk) (kr:Nat) (sv:SV) (dp:Int) (hk:lookH h kr = .cells true [sv,.int .i64 dp,.int .i64 0]) (hB:RdB h sv bs) (hl:bs.length≤35184372088832) (K:Tok→SV→List Chunk→Prop) (hE:∀ e2,pKind bs = .error e2→∀ v H sv' bs',Ext (fun j=>j = kr) h H→lookH H kr = .cells true [sv',.int .i64 dp,.int .i64 e2]→RdB H sv' bs'→K .mk (.int .i64 v) H) (hO:∀ x bs',pKind bs = .ok (x,bs')→∀ H sv',Ext (fun j=>j = kr) h H→lookH H kr = .cells true [sv',.int .i64 dp,.int .i64 0]→RdB H sv' bs'→K .mk (.int .i64 x) H):callP Try.prog 126 [.ptr kr 0] h K:=by
 obtain ⟨k,d,e,w,N,F,rfl,hr,hN,hF⟩:=hB
 have hlt:=lookH_lt hk (by simp)
 have hkk:=ne_cr hk hr
 refine callP_of_code tabOk Try.func126 (by kernel_rfl) rfl (Nat.le_of_ble_eq_true rfl) (codeP_of_vc (pl:=np) tabOk follows_mixed (by kernel_rfl) ?_)
 rw [Try.ntmps126]
 cases bs with
 | nil =>
  have z1:((0:Int) == 0) = true:=rfl
  simp -implicitDefEqProofs (maxSteps:=1000000) (disch:=omega) only [↓zzP,zzA,zzL,zzB,Nat.reduceSub,reduceIte,reduceCtorEq,Nat.reduceLT,↓reduceIte,Nat.reduceLeDiff,↓gd,↓opP,↓qv,↓ef,↓stS,slot,putS,putO,ofV,fldA,lenS,rdF,Ent.row,ldS,sz,wrF,binH,binS2,binS,tupS,stor,res126,z1,hk]
  repeat (refine ⟨by omega,?_⟩)
  exact intoR_refl (by rw [putH_len]; exact Nat.le_refl _) (hE 3 rfl 0 _ _ _ ((Ext.refl _ _).put _ (.inl rfl)) (lookH_put_same _ hlt) (RdB.put ⟨k,d,e,w,N,F,rfl,hr,hN,hF⟩ hk _))
 | cons b bs =>
  have z1:(((bs.length+1:Nat):Int) == 0) = false:=by rw [beq_eq_false_iff_ne]; omega
  have z2:IntKind.i64.wrap (nat b) = ((b.toNat:Nat):Int):=by
   have:=b.isLt
   exact wrap64 (by unfold nat; omega) (by unfold nat; omega)
  rw [List.length_cons] at hN hl
  have hb:=hF 0 (by simp)
  rw [Nat.add_zero] at hb
  have hb2:F e = .int .u8 (nat b):=hb
  simp -implicitDefEqProofs (maxSteps:=1000000) (disch:=omega) only [↓zzP,zzA,zzL,zzB,reduceIte,reduceCtorEq,Nat.reduceLT,Int.reduceLE,↓reduceIte,Nat.reduceEqDiff,Nat.reduceLeDiff,Int.reduceToNat,↓gd,↓opP,↓qv,↓ef,↓stS,slot,putS,putO,ofV,convS,fldA,idxA,bnd,slS,lenS,rdF,Ent.row,ldS,sz,wrF,binH,binS2,binS,tupS,stor,res126,z1,z2,hk,hr,hb2]
  repeat (refine ⟨by omega,?_⟩)
  exact intoR_refl (by rw [putH_len]; exact Nat.le_refl _) (hO _ _ rfl _ _ ((Ext.refl _ _).put _ (.inl rfl)) (lookH_put_same _ hlt) (RdB.put (RdB.drop (bs:=b :: bs) hr hN hF 1 e (by simp)) hk _))
set_option maxHeartbeats 4000000 in
theorem c127x (h:List Chunk) (kr k d e n:Nat) (dp er:Int) (hk:lookH h kr = .cells true [.osl k d e 1 n,.int .i64 dp,.int .i64 er]) (he:er ≠ 0) (K:Tok→SV→List Chunk→Prop) (hK:K .mk (.int .i64 0) h):callP Try.prog 127 [.ptr kr 0] h K:=by
 have z1:(er != 0) = true:=bne_iff_ne.2 he
 refine callP_of_code tabOk Try.func127 (by kernel_rfl) rfl (Nat.le_of_ble_eq_true rfl) (codeP_of_vc (pl:=np) tabOk follows_mixed (by kernel_rfl) ?_)
 rw [Try.ntmps127]
 simp -implicitDefEqProofs (maxSteps:=1000000) (disch:=omega) only [↓zzP,zzA,zzL,zzB,Nat.reduceSub,reduceIte,reduceCtorEq,Nat.reduceLT,↓reduceIte,Nat.reduceLeDiff,↓gd,↓opP,↓qv,slot,putS,putO,ofV,fldA,rdF,Ent.row,ldS,sz,binH,binS2,binS,tupS,res127,z1,hk]
 repeat (refine ⟨by omega,?_⟩)
 exact intoR_refl (Nat.le_refl _) hK
set_option maxHeartbeats 4000000 in
theorem c127 (bs:List By) (h:List Chunk) (kr:Nat) (sv:SV) (dp:Int) (hk:lookH h kr = .cells true [sv,.int .i64 dp,.int .i64 0]) (hB:RdB h sv bs) (hl:bs.length≤35184372088832) (K:Tok→SV→List Chunk→Prop) (hE:∀ e2,pInt bs = .error e2→∀ v H sv' bs',Ext (fun j=>j = kr) h H→lookH H kr = .cells true [sv',.int .i64 dp,.int .i64 e2]→RdB H sv' bs'→K .mk (.int .i64 v) H) (hO:∀ x bs',pInt bs = .ok (x,bs')→∀ H sv',Ext (fun j=>j = kr) h H→lookH H kr = .cells true [sv',.int .i64 dp,.int .i64 0]→RdB H sv' bs'→K .mk (.int .i64 x) H):callP Try.prog 127 [.ptr kr 0] h K:=by
 obtain ⟨k,d,e,w,N,F,rfl,hr,hN,hF⟩:=hB
 have hlt:=lookH_lt hk (by simp)
 have hkk:=ne_cr hk hr
 refine callP_of_code tabOk Try.func127 (by kernel_rfl) rfl (Nat.le_of_ble_eq_true rfl) (codeP_of_vc (pl:=np) tabOk follows_mixed (by kernel_rfl) ?_)
 rw [Try.ntmps127]
 have z1:((0:Int) != 0) = false:=rfl
 simp -implicitDefEqProofs (maxSteps:=1000000) (disch:=omega) only [↓zzP,zzA,zzL,zzB,Nat.reduceSub,reduceIte,reduceCtorEq,Nat.reduceLT,↓reduceIte,Nat.reduceLeDiff,↓gd,↓opP,↓qv,slot,putS,putO,ofV,fldA,rdF,Ent.row,ldS,sz,binH,binS2,binS,tupS,res127,z1,hk]
 repeat (refine ⟨by omega,?_⟩)
 refine c154 bs h k d e w N F hr hN hF hl _ (fun er he=>?_) (fun n u he=>?_)
 ·simp -implicitDefEqProofs (maxSteps:=1000000) (disch:=omega) only [↓zzP,zzA,reduceIte,reduceCtorEq,Nat.reduceLT,↓reduceIte,Nat.reduceEqDiff,Nat.reduceAdd,↓gd,↓opP,↓qv,slot,putS,putO]
  repeat (refine ⟨by omega,?_⟩)
  refine c131e bs h kr k d e w N F dp 0 hk 0 er (tk_ne he) _ ?_
  simp -implicitDefEqProofs (maxSteps:=1000000) (disch:=omega) only [↓zzP,zzA,reduceIte,Nat.reduceLT,↓reduceIte,Nat.reduceEqDiff,↓gd,↓opP,↓qv,slot,putS,putO]
  repeat (refine ⟨by omega,?_⟩)
  exact intoR_refl (by rw [putH_len]; exact Nat.le_refl _) (hE er (pInt_e he) 0 _ _ _ ((Ext.refl _ _).put _ (.inl rfl)) (lookH_put_same _ hlt) (RdB.put ⟨k,d,e,w,N,F,rfl,hr,hN,hF⟩ hk _))
 ·have hu:=tk_ok he
  simp -implicitDefEqProofs (maxSteps:=1000000) (disch:=omega) only [↓zzP,zzA,reduceIte,reduceCtorEq,Nat.reduceLT,↓reduceIte,Nat.reduceEqDiff,Nat.reduceAdd,↓gd,↓opP,↓qv,slot,putS,putO]
  repeat (refine ⟨by omega,?_⟩)
  refine c131 bs h kr k d e w N F dp 0 hk hr hN hF hl u hu.2.1 _ fun d'=>?_
  simp -implicitDefEqProofs (maxSteps:=1000000) (disch:=omega) only [↓zzP,zzA,reduceIte,Nat.reduceLT,↓reduceIte,Nat.reduceEqDiff,↓gd,↓opP,↓qv,slot,putS,putO]
  repeat (refine ⟨by omega,?_⟩)
  exact intoR_refl (by rw [putH_len]; exact Nat.le_refl _) (hO _ _ (pInt_o he) _ _ ((Ext.refl _ _).put _ (.inl rfl)) (lookH_put_same _ hlt) (RdB.put (RdB.drop hr hN hF u d' hu.2.1) hk _))
set_option maxHeartbeats 4000000 in
theorem c128x (h:List Chunk) (kr k d e n:Nat) (dp er:Int) (hk:lookH h kr = .cells true [.osl k d e 1 n,.int .i64 dp,.int .i64 er]) (he:er ≠ 0) (K:Tok→SV→List Chunk→Prop) (hK:K .mk (.int .i64 0) h):callP Try.prog 128 [.ptr kr 0] h K:=by
 have z1:(er != 0) = true:=bne_iff_ne.2 he
 refine callP_of_code tabOk Try.func128 (by kernel_rfl) rfl (Nat.le_of_ble_eq_true rfl) (codeP_of_vc (pl:=np) tabOk follows_mixed (by kernel_rfl) ?_)
 rw [Try.ntmps128]
 simp -implicitDefEqProofs (maxSteps:=1000000) (disch:=omega) only [↓zzP,zzA,zzL,zzB,Nat.reduceSub,reduceIte,reduceCtorEq,Nat.reduceLT,↓reduceIte,Nat.reduceLeDiff,↓gd,↓opP,↓qv,slot,putS,putO,ofV,fldA,rdF,Ent.row,ldS,sz,binH,binS2,binS,tupS,res128,z1,hk]
 repeat (refine ⟨by omega,?_⟩)
 exact intoR_refl (Nat.le_refl _) hK
set_option maxHeartbeats 4000000 in
theorem c128 (bs:List By) (h:List Chunk) (kr:Nat) (sv:SV) (dp:Int) (hk:lookH h kr = .cells true [sv,.int .i64 dp,.int .i64 0]) (hB:RdB h sv bs) (hl:bs.length≤35184372088832) (K:Tok→SV→List Chunk→Prop) (hE:∀ e2,pNum bs = .error e2→∀ v H sv' bs',Ext (fun j=>j = kr) h H→lookH H kr = .cells true [sv',.int .i64 dp,.int .i64 e2]→RdB H sv' bs'→K .mk (.int .i64 v) H) (hO:∀ x bs',pNum bs = .ok (x,bs')→∀ H sv',Ext (fun j=>j = kr) h H→lookH H kr = .cells true [sv',.int .i64 dp,.int .i64 0]→RdB H sv' bs'→K .mk (.int .i64 x) H):callP Try.prog 128 [.ptr kr 0] h K:=by
 obtain ⟨k,d,e,w,N,F,rfl,hr,hN,hF⟩:=hB
 have hlt:=lookH_lt hk (by simp)
 have hkk:=ne_cr hk hr
 refine callP_of_code tabOk Try.func128 (by kernel_rfl) rfl (Nat.le_of_ble_eq_true rfl) (codeP_of_vc (pl:=np) tabOk follows_mixed (by kernel_rfl) ?_)
 rw [Try.ntmps128]
 have z1:((0:Int) != 0) = false:=rfl
 simp -implicitDefEqProofs (maxSteps:=1000000) (disch:=omega) only [↓zzP,zzA,zzL,zzB,Nat.reduceSub,reduceIte,reduceCtorEq,Nat.reduceLT,↓reduceIte,Nat.reduceLeDiff,↓gd,↓opP,↓qv,slot,putS,putO,ofV,fldA,rdF,Ent.row,ldS,sz,binH,binS2,binS,tupS,res128,z1,hk]
 repeat (refine ⟨by omega,?_⟩)
 refine c155 bs h k d e w N F hr hN hF hl _ (fun er he=>?_) (fun n u he=>?_)
 ·simp -implicitDefEqProofs (maxSteps:=1000000) (disch:=omega) only [↓zzP,zzA,reduceIte,reduceCtorEq,Nat.reduceLT,↓reduceIte,Nat.reduceEqDiff,Nat.reduceAdd,↓gd,↓opP,↓qv,slot,putS,putO]
  repeat (refine ⟨by omega,?_⟩)
  refine c131e bs h kr k d e w N F dp 0 hk 0 er (tk_ne he) _ ?_
  simp -implicitDefEqProofs (maxSteps:=1000000) (disch:=omega) only [↓zzP,zzA,reduceIte,Nat.reduceLT,↓reduceIte,Nat.reduceEqDiff,Array.reduceGetElem?,↓gd,↓opP,↓qv,slot,putS,putO,ofV,convS]
  repeat (refine ⟨by omega,?_⟩)
  exact intoR_refl (by rw [putH_len]; exact Nat.le_refl _) (hE er (pNum_e he) _ _ _ _ ((Ext.refl _ _).put _ (.inl rfl)) (lookH_put_same _ hlt) (RdB.put ⟨k,d,e,w,N,F,rfl,hr,hN,hF⟩ hk _))
 ·have hu:=tk_ok he
  have hp:=pNum_o he
  simp -implicitDefEqProofs (maxSteps:=1000000) (disch:=omega) only [↓zzP,zzA,reduceIte,reduceCtorEq,Nat.reduceLT,↓reduceIte,Nat.reduceEqDiff,Nat.reduceAdd,↓gd,↓opP,↓qv,slot,putS,putO]
  repeat (refine ⟨by omega,?_⟩)
  refine c131 bs h kr k d e w N F dp 0 hk hr hN hF hl u hu.2.1 _ fun d'=>?_
  by_cases c:n.toNat > 4611686018427387904
  ·have z2:decide (nat n > 4611686018427387904) = true:=decide_eq_true (by unfold nat; omega)
   rw [if_pos c] at hp
   simp -implicitDefEqProofs (maxSteps:=1000000) (disch:=omega) only [↓zzP,zzA,zzL,zzB,Nat.reduceSub,reduceIte,reduceCtorEq,Nat.reduceLT,↓reduceIte,Nat.reduceEqDiff,Nat.reduceLeDiff,Array.reduceGetElem?,↓gd,↓opP,↓qv,↓ef,↓stS,slot,putS,putO,ofV,convS,fldA,sz,wrF,binH,binS2,binS,stor,z2,lookH_put_same]
   repeat (refine ⟨by omega,?_⟩)
   refine intoR_refl (by rw [putH_len,putH_len]; exact Nat.le_refl _) (hE 4 hp _ _ _ _ (((Ext.refl (fun j=>j = kr) h).put (p:=kr) _ (.inl rfl)).put (p:=kr) _ (.inl rfl)) (lookH_put_same _ (by rw [putH_len]; exact hlt)) (RdB.put (RdB.put (RdB.drop hr hN hF u d' hu.2.1) hk _) (lookH_put_same _ hlt) _))
  ·have z2:decide (nat n > 4611686018427387904) = false:=decide_eq_false (by unfold nat; omega)
   have z3:IntKind.i64.wrap (nat n) = ((n.toNat:Nat):Int):=wrap64 (by unfold nat; omega) (by unfold nat; omega)
   rw [if_neg c] at hp
   simp -implicitDefEqProofs (maxSteps:=1000000) (disch:=omega) only [↓zzP,zzA,zzL,reduceIte,Nat.reduceLT,↓reduceIte,Nat.reduceEqDiff,Array.reduceGetElem?,↓gd,↓opP,↓qv,slot,putS,putO,ofV,convS,binH,binS2,binS,z2,z3]
   repeat (refine ⟨by omega,?_⟩)
   exact intoR_refl (by rw [putH_len]; exact Nat.le_refl _) (hO _ _ hp _ _ ((Ext.refl _ _).put _ (.inl rfl)) (lookH_put_same _ hlt) (RdB.put (RdB.drop hr hN hF u d' hu.2.1) hk _))
end Go.Proofs.Ytgocfglmideobaa
set_option linter.all false
set_option maxRecDepth 40000
namespace Go.Proofs.Ytgocfglmideobaa
open Go Go.Sx
theorem res129:Try.f129.results.toList = [.cell 2 23]:=rfl
def pl129:Nat→Plan
 | 2=>(.q 0 (.q 1 (.q 2 (.q 3 (.q 4 (.q 5 (.q 6 (.q 7 (.q 8 (.q 9 (.e1 10 [5,9] (.q 11 (.q 12 (.q 13 (.e1 14 [4,5,9,10,11] .nil)))))))))))))))
 | _=>.nil
def pDig (bs:List By):Except Int ((Nat→By) × List By):=if bs.length < 32 then .error 3 else .ok (fun i=>bs.getD i 0,bs.drop 32)
theorem putH_pA0 (l:List Chunk) (c d:Chunk) (h:List Chunk) (m:Nat):putH (putH h m c++l) h.length d = putH h m c++putH l 0 d:=putH_pA l c d h m 0
theorem intoR_den {nf:Nat} {v v':SV} {h:List Chunk} {K:Tok→SV→List Chunk→Prop} (hd:∀ ρ,den ρ v = den ρ v') (ho:ok h.length v') (hk:IntoR nf v' h K):IntoR nf v h K:=fun C ρ w hC hM hok=>by
 obtain ⟨ρ',v2,h2,q1,q2,q3,q4,q5⟩:=hk C ρ w hC hM ho
 exact ⟨ρ',v2,h2,q1,q2,q3,(hd ρ).trans q4,q5⟩
theorem den_fam {ρ:Env} {n s:Nat} {f g:Nat→SV} (h:∀ i,i < n→f i = g i):den ρ (.fam n s f) = den ρ (.fam n s g):=by
 simp only [den]
 congr 2
 exact Go.Deep.flatMap_congr_range fun i hi=>by rw [h i hi]
set_option maxHeartbeats 4000000 in
theorem c129x (h:List Chunk) (kr k d e n:Nat) (dp er:Int) (hk:lookH h kr = .cells true [.osl k d e 1 n,.int .i64 dp,.int .i64 er]) (he:er ≠ 0) (K:Tok→SV→List Chunk→Prop) (hK:∀ H,Ext (fun _=>False) h H→K .mk (.fam 32 1 fun _=>.int .u8 0) H):callP Try.prog 129 [.ptr kr 0] h K:=by
 have z1:(er != 0) = true:=bne_iff_ne.2 he
 have hlt:=lookH_lt hk (by simp)
 refine callP_of_code tabOk Try.func129 (by kernel_rfl) rfl (Nat.le_of_ble_eq_true rfl) (codeP_of_vc (pl:=pl129) tabOk follows_mixed (by kernel_rfl) ?_)
 rw [Try.ntmps129]
 simp -implicitDefEqProofs (maxSteps:=1000000) (disch:=omega) only [↓zzP,zzA,zzL,zzB,Nat.reduceSub,reduceIte,reduceCtorEq,Nat.reduceLT,↓reduceIte,Nat.reduceEqDiff,Nat.reduceLeDiff,↓gd,↓opP,↓qv,↓ef,↓stS,slot,putS,putO,ofV,fldA,asRow,rdF,Ent.row,ldS,sz,wrF,binH,binS2,binS,tupS,stor,res129,z1,hk,lookH_at]
 repeat (refine ⟨by omega,?_⟩)
 exact intoR_refl (by simp) (hK _ ((Ext.refl _ _).app _))
set_option maxHeartbeats 4000000 in
theorem c129 (bs:List By) (h:List Chunk) (kr:Nat) (sv:SV) (dp:Int) (hk:lookH h kr = .cells true [sv,.int .i64 dp,.int .i64 0]) (hB:RdB h sv bs) (hl:bs.length≤35184372088832) (K:Tok→SV→List Chunk→Prop) (hE:∀ e2,pDig bs = .error e2→∀ H sv' bs',Ext (fun j=>j = kr) h H→lookH H kr = .cells true [sv',.int .i64 dp,.int .i64 e2]→RdB H sv' bs'→K .mk (.fam 32 1 fun _=>.int .u8 0) H) (hO:∀ x bs',pDig bs = .ok (x,bs')→∀ H sv',Ext (fun j=>j = kr) h H→lookH H kr = .cells true [sv',.int .i64 dp,.int .i64 0]→RdB H sv' bs'→K .mk (dig32 x) H):callP Try.prog 129 [.ptr kr 0] h K:=by
 obtain ⟨k,d,e,w,N,F,rfl,hr,hN,hF⟩:=hB
 have hlt:=lookH_lt hk (by simp)
 have hkk:=ne_cr hk hr
 refine callP_of_code tabOk Try.func129 (by kernel_rfl) rfl (Nat.le_of_ble_eq_true rfl) (codeP_of_vc (pl:=pl129) tabOk follows_mixed (by kernel_rfl) ?_)
 rw [Try.ntmps129]
 have z1:((0:Int) != 0) = false:=rfl
 by_cases c:bs.length < 32
 ·have z2:decide ((bs.length:Int) < 32) = true:=decide_eq_true (by omega)
  have hp:pDig bs = .error 3:=by unfold pDig; rw [if_pos c]
  simp -implicitDefEqProofs (maxSteps:=1000000) (disch:=omega) only [↓zzP,zzA,zzL,zzB,Nat.reduceSub,reduceIte,reduceCtorEq,Nat.reduceLT,↓reduceIte,Nat.reduceEqDiff,Nat.reduceLeDiff,↓gd,↓opP,↓qv,↓ef,↓stS,slot,putS,putO,ofV,fldA,lenS,asRow,rdF,Ent.row,ldS,sz,wrF,binH,binS2,binS,tupS,stor,res129,z1,z2,hk,lookH_at,putH_at,lookH_pA,lookH_pA0,putH_pA0]
  repeat (refine ⟨by omega,?_⟩)
  exact intoR_refl (by simp [putH_len]) (hE 3 hp _ _ _ (((Ext.refl (fun j=>j = kr) h).put (p:=kr) _ (.inl rfl)).app _) (by rw [lookH_at _ (by rw [putH_len]; exact hlt),lookH_put_same _ hlt]) (RdB.ext (RdB.put ⟨k,d,e,w,N,F,rfl,hr,hN,hF⟩ hk _) (extR_app _ _)))
 ·have z2:decide ((bs.length:Int) < 32) = false:=decide_eq_false (by omega)
  have hp:pDig bs = .ok (fun i=>bs.getD i 0,bs.drop 32):=by unfold pDig; rw [if_neg c]
  have hkl:=lookH_lt hr (by simp)
  have hst:∀ i,i < 32→stor (F (e+i)):=fun i hi=>by rw [hF i (by omega)]; trivial
  have hr2:∀ c,lookH (putH h kr c) k = .row w N 1 F:=fun c=>by rw [lookH_put_ne _ hkk]; exact hr
  simp -implicitDefEqProofs (maxSteps:=1000000) (disch:=omega) only [↓zzP,zzA,zzL,zzB,Nat.reduceSub,reduceIte,reduceCtorEq,Nat.reduceLT,Int.reduceLE,↓reduceIte,Nat.reduceEqDiff,Nat.reduceLeDiff,Int.reduceToNat,Array.reduceGetElem?,↓gd,↓opP,↓qv,↓ef,↓stS,↓cpS,slot,putS,putO,ofV,fldA,oslN,bnd,slS,lenS,asRow,rdF,Ent.row,ldS,sz,wrF,binH,binS2,binS,tupS,stor,qn,ldN,res129,pl129,z1,z2,hk,hr,lookH_at,putH_at,lookH_pA,lookH_pA0,putH_pA0]
  repeat (refine ⟨by omega,?_⟩)
  refine intoR_den (v':=dig32 fun i=>bs.getD i 0) (fun ρ=>den_fam fun i hi=>hF i (by omega)) (fun i hi=>⟨rfl,trivial⟩) (intoR_refl (by simp [putH_len]) (hO _ _ hp _ _ (((Ext.refl (fun j=>j = kr) h).put (p:=kr) _ (.inl rfl)).app _) (by rw [lookH_at _ (by rw [putH_len]; exact hlt),lookH_put_same _ hlt]) (RdB.ext (RdB.put (RdB.drop hr hN hF 32 e (by omega)) hk _) (extR_app _ _))))
end Go.Proofs.Ytgocfglmideobaa
set_option linter.all false
set_option maxRecDepth 40000
namespace Go.Proofs.Ytgocfglmideobaa
open Go Go.Sx
theorem res130:Try.f130.results.toList = [.tmp 2,.tmp 3,.tmp 4]:=rfl
theorem res157:Try.f157.results.toList = [.tmp 6,.tmp 7,.tmp 8]:=rfl
theorem tb_err {bs:List By} {most:Nat} {er:Int} (h:tb bs most = .error er):er ≠ 0:=by
 unfold tb at h
 split at h
 ·rename_i e he
  cases h
  exact tk_ne he
 ·split at h
  ·cases h; decide
  ·split at h
   ·cases h; decide
   ·cases h
theorem tb_ok {bs:List By} {most v:Nat} {c:List By} (h:tb bs most = .ok (c,v)):0 < v∧v≤bs.length∧c.length < v:=by
 unfold tb at h
 split at h
 ·cases h
 ·rename_i n u he
  have hu:=tk_ok he
  split at h
  ·cases h
  ·split at h
   ·cases h
   ·cases h
    rw [List.length_take,List.length_drop]
    omega
set_option maxHeartbeats 4000000 in
theorem c130 (bs:List By) (h:List Chunk) (k d e:Nat) (w:Bool) (N:Nat) (F:Nat→SV) (hr:lookH h k = .row w N 1 F) (hN:e+bs.length≤N) (hF:∀ i,i < bs.length→F (e+i) = .int .u8 (nat (bs.getD i 0))) (hl:bs.length≤35184372088832) (K:Tok→SV→List Chunk→Prop) (hE:∀ er,tb bs 8192 = .error er→∀ H x v,Ext (fun _=>False) h H→K .mk (.tup [x,.int .i64 v,.int .i64 er]) H) (hO:∀ c v,tb bs 8192 = .ok (c,v)→∀ H sv,Ext (fun _=>False) h H→RelBs (fresh h.length H) c sv→K .mk (.tup [sv,.int .i64 (v:Nat),.int .i64 0]) H):callP Try.prog 130 [.osl k d e 1 bs.length] h K:=by
 refine callP_of_code tabOk Try.func130 (by kernel_rfl) rfl (Nat.le_of_ble_eq_true rfl) (codeP_of_vc (pl:=np) tabOk follows_mixed (by kernel_rfl) ?_)
 rw [Try.ntmps130]
 simp -implicitDefEqProofs (maxSteps:=1000000) (disch:=omega) only [↓zzP,zzA,reduceIte,reduceCtorEq,Nat.reduceLT,↓reduceIte,↓gd,↓opP,↓qv,slot,putS,putO,ofV,tupS,res130]
 repeat (refine ⟨by omega,?_⟩)
 refine c156 bs h k d e w N F hr hN hF hl 8192 (by omega) _ (fun er he=>?_) (fun c v he H k' hE1 hk' hr1=>?_)
 ·simp -implicitDefEqProofs (maxSteps:=1000000) (disch:=omega) only [↓zzP,zzA,reduceIte,Nat.reduceLT,↓reduceIte,Nat.reduceEqDiff,Nat.reduceAdd,↓gd,↓opP,↓qv,slot,putS,putO]
  repeat (refine ⟨by omega,?_⟩)
  exact intoR_refl (Nat.le_refl _) (hE er he _ _ _ (Ext.refl _ _))
 ·simp -implicitDefEqProofs (maxSteps:=1000000) (disch:=omega) only [↓zzP,zzA,reduceIte,Nat.reduceLT,↓reduceIte,Nat.reduceEqDiff,Nat.reduceAdd,↓gd,↓opP,↓qv,slot,putS,putO]
  repeat (refine ⟨by omega,?_⟩)
  exact intoR_refl hE1.1 (hO c v he _ _ hE1 ⟨k',true,rfl,by rw [fresh_look,if_neg (by omega)]; exact hr1⟩)
def lp {α:Type} (q:List By→Except Int (α × Nat)):Nat→List By→Except Int (List α × List By)
 | 0,bs=>.ok ([],bs)
 | n+1,bs=>match q bs with
  | .error e=>.error e
  | .ok (x,k)=>match lp q n (bs.drop k) with
   | .error e=>.error e
   | .ok (xs,r)=>.ok (x :: xs,r)
def tl {α:Type} (q:List By→Except Int (α × Nat)) (most:Nat) (bs:List By):Except Int (List α × List By) :=
 match tk bs with
 | .error e=>.error e
 | .ok (n,u)=>if n.toNat > most then .error 18 else lp q n.toNat (bs.drop u)
theorem tl_e {α:Type} {q:List By→Except Int (α × Nat)} {most:Nat} {bs:List By} {er:Int} (h:tk bs = .error er):tl q most bs = .error er:=by unfold tl; rw [h]
theorem tl_o {α:Type} {q:List By→Except Int (α × Nat)} {most:Nat} {bs:List By} {n:BitVec 64} {u:Nat} (h:tk bs = .ok (n,u)):tl q most bs = if n.toNat > most then .error 18 else lp q n.toNat (bs.drop u):=by unfold tl; rw [h]
def pre {α:Type} (X:List α):Except Int (List α × List By)→Except Int (List α × List By)
 | .error e=>.error e
 | .ok (xs,r)=>.ok (X++xs,r)
theorem pre_nil {α:Type} (x:Except Int (List α × List By)):pre [] x = x:=by cases x <;> rfl
theorem lp_e {α:Type} {q:List By→Except Int (α × Nat)} {n:Nat} {bs:List By} {er:Int} (X:List α) (h:q bs = .error er):pre X (lp q (n+1) bs) = .error er:=by rw [lp,h]; rfl
theorem lp_o {α:Type} {q:List By→Except Int (α × Nat)} {n k:Nat} {bs:List By} {x:α} (X:List α) (h:q bs = .ok (x,k)):pre X (lp q (n+1) bs) = pre (X++[x]) (lp q n (bs.drop k)):=by
 rw [lp,h]
 show pre X (match lp q n (bs.drop k) with | .error e=>.error e | .ok (xs,r)=>.ok (x :: xs,r)) = _
 cases lp q n (bs.drop k) with
 | error e=>rfl
 | ok y=>simp [pre]
end Go.Proofs.Ytgocfglmideobaa
set_option linter.all false
set_option maxRecDepth 40000
namespace Go.Proofs.Ytgocfglmideobaa
open Go Go.Sx
set_option maxHeartbeats 8000000 in
theorem c157 (bs:List By) (h:List Chunk) (k d e:Nat) (w:Bool) (N:Nat) (F:Nat→SV) (hr:lookH h k = .row w N 1 F) (hN:e+bs.length≤N) (hF:∀ i,i < bs.length→F (e+i) = .int .u8 (nat (bs.getD i 0))) (hl:bs.length≤35184372088832) (most:Nat) (hm:most≤1024) (K:Tok→SV→List Chunk→Prop) (hE:∀ er,tl (fun b=>tb b 8192) most bs = .error er→∀ H v,Ext (fun _=>False) h H→K .mk (.tup [.v (.slice none 0 0),.int .i64 v,.int .i64 er]) H) (hO:∀ (X:List (List By)) v,v≤bs.length→tl (fun b=>tb b 8192) most bs = .ok (X,bs.drop v)→∀ H m (F2:Nat→SV),Ext (fun _=>False) h H→h.length≤m→lookH H m = .row true X.length 1 (F2)→(∀ i (hi:i < X.length),RelBs (fresh h.length H) X[i] (F2 i))→K .mk (.tup [.osl m 0 0 1 X.length,.int .i64 (v:Nat),.int .i64 0]) H):callP Try.prog 157 [.osl k d e 1 bs.length,.int .i64 (most:Nat),.fn (.func 130) [] []] h K:=by
 refine callP_of_code tabOk Try.func157 (by kernel_rfl) rfl (Nat.le_of_ble_eq_true rfl) (codeP_of_vc (pl:=np) tabOk follows_mixed (by kernel_rfl) ?_)
 rw [Try.ntmps157]
 simp -implicitDefEqProofs (maxSteps:=1000000) (disch:=omega) only [↓zzP,zzA,reduceIte,reduceCtorEq,Nat.reduceLT,↓reduceIte,Nat.reduceEqDiff,Nat.reduceAdd,↓gd,↓opP,↓qv,slot,putS,putO,ofV,nilS,nilEq,binH,binS2,binS,tupS,res157]
 repeat (refine ⟨by omega,?_⟩)
 refine c155 bs h k d e w N F hr hN hF hl _ (fun er he=>?_) (fun n u he=>?_)
 ·have z1:(er != 0) = true:=bne_iff_ne.2 (tk_ne he)
  simp -implicitDefEqProofs (maxSteps:=1000000) (disch:=omega) only [↓zzP,zzA,reduceIte,Nat.reduceLT,↓reduceIte,Nat.reduceEqDiff,Nat.reduceAdd,↓gd,↓opP,↓qv,slot,putS,putO,ofV,binH,binS2,binS,z1]
  repeat (refine ⟨by omega,?_⟩)
  exact intoR_refl (Nat.le_refl _) (hE er (tl_e he) _ _ (Ext.refl _ _))
 ·have hu:=tk_ok he
  have ht:=tl_o (q:=(fun b=>tb b 8192)) (most:=most) he
  have z1:((0:Int) != 0) = false:=rfl
  have z2:decide (((most:Nat):Int) < 0) = false:=decide_eq_false (by omega)
  have z3:IntKind.u64.wrap ((most:Nat):Int) = ((most:Nat):Int):=Go.Sx.wrap_small rfl (by omega) (by rw [show IntKind.u64.bits = 64 from rfl]; omega)
  by_cases c1:n.toNat > most
  ·have g1:decide (nat n > ((most:Nat):Int)) = true:=decide_eq_true (by unfold nat; omega)
   rw [if_pos c1] at ht
   simp -implicitDefEqProofs (maxSteps:=1000000) (disch:=omega) only [↓zzP,zzA,zzL,reduceIte,reduceCtorEq,Nat.reduceLT,↓reduceIte,Nat.reduceEqDiff,Nat.reduceAdd,Array.reduceGetElem?,↓gd,↓opP,↓qv,slot,putS,putO,ofV,convS,binH,binS2,binS,z1,z2,z3,g1]
   repeat (refine ⟨by omega,?_⟩)
   exact intoR_refl (Nat.le_refl _) (hE 18 ht _ _ (Ext.refl _ _))
  have g1:decide (nat n > ((most:Nat):Int)) = false:=decide_eq_false (by unfold nat; omega)
  rw [if_neg c1] at ht
  simp -implicitDefEqProofs (maxSteps:=1000000) (disch:=omega) only [↓zzP,zzA,zzL,reduceIte,reduceCtorEq,Nat.reduceLT,↓reduceIte,Nat.reduceEqDiff,Nat.reduceAdd,Array.reduceGetElem?,↓gd,↓opP,↓qv,slot,putS,putO,ofV,convS,binH,binS2,binS,z1,z2,z3,g1]
  repeat (refine ⟨by omega,?_⟩)
  refine codeP_loop (pl:=np) tabOk follows_mixed (by kernel_rfl) (fun z st=>∃ (n1 a:Nat) (X:List (List By)) (H:List Chunk) (m:Nat) (G:Nat→SV) (j:Nat→Value),z = n1∧a≤bs.length∧X.length+n1≤most∧pre X (lp (fun b=>tb b 8192) n1 (bs.drop a)) = tl (fun b=>tb b 8192) most bs∧Ext (fun _=>False) h H∧h.length≤m∧lookH H m = .row true X.length 1 (G)∧(∀ i (hi:i < X.length),RelBs (fresh h.length (putH H m .none)) X[i] (G i))∧st = ⟨⟨74,[(0,.osl k d e 1 bs.length),(2,.fn (.func 130) [] []),(9,.int .u64 (n1:Nat)),(10,.int .i64 (a:Nat)),(12,.osl m 0 0 1 X.length)],j⟩,H,[]⟩) ?_ ?_
  ·refine into_bind (J':=fun st=>∃ j,st = ⟨⟨74,[(0,.osl k d e 1 bs.length),(2,.fn (.func 130) [] []),(9,.int .u64 (nat n)),(10,.int .i64 (u:Nat)),(12,.v (.slice none 0 0))],j⟩,h,[]⟩) (into_keep [(0,.osl k d e 1 bs.length),(2,.fn (.func 130) [] []),(9,.int .u64 (nat n)),(10,.int .i64 (u:Nat)),(12,.v (.slice none 0 0))] (by simp [sameT,slot,lkL]) fun j=>⟨j,rfl⟩) ?_
   rintro _ ⟨j,rfl⟩
   refine into_nil [(0,.osl k d e 1 bs.length),(2,.fn (.func 130) [] []),(9,.int .u64 (nat n)),(10,.int .i64 (u:Nat)),(12,.osl h.length 0 0 1 0)] 1 (fun _=>.bool false) ?_ ?_ ?_
   ·intro ρ hρ
    simp [den,hρ]
   ·have:=lookH_lt hr (by simp)
    simp [okE,ok,okL]
    omega
   exact into_refl ⟨n.toNat,n.toNat,u,[],_,h.length,fun _=>.bool false,j,rfl,hu.2.1,by simp; omega,by rw [pre_nil,ht],(Ext.refl _ _).app _,Nat.le_refl _,lookH_end _ _,fun i hi=>absurd hi (Nat.not_lt_zero _),rfl⟩
  ·rintro z st ⟨n1,a,X,H,m,G,j,rfl,ha,hXn,hpre,hE0,hm0,hrow,hG,rfl⟩
   have hhl:=hE0.1
   have hmlt:=lookH_lt hrow (by simp)
   by_cases c2:0 < z
   ·obtain ⟨n2,rfl⟩:∃ n2,z = n2+1:=⟨z - 1,by omega⟩
    have g2:decide (((n2+1:Nat):Int) > 0) = true:=decide_eq_true (by omega)
    have hr1:=hE0.look hr (by simp) fun h=>h
    have hdl:(bs.drop a).length = bs.length - a:=List.length_drop ..
    have z8:IntKind.u64.wrap (((n2+1:Nat):Int) - 1) = (n2:Nat):=by
     rw [show ((n2+1:Nat):Int) - 1 = (n2:Nat) by omega]
     exact Go.Sx.wrap_small rfl (by omega) (by rw [show IntKind.u64.bits = 64 from rfl]; omega)
    obtain ⟨b2,hb2⟩:∃ b,b = bs.drop a:=⟨_,rfl⟩
    rw [← hb2] at hdl hpre
    have hF2:∀ i,i < b2.length→F (e+a+i) = .int .u8 (nat (b2.getD i 0)):=fun i hi=>by
     rw [Nat.add_assoc,hF _ (by omega),hb2]
     congr 2
     simp [List.getD,List.getElem?_drop]
    simp -implicitDefEqProofs (maxSteps:=1000000) (disch:=omega) only [↓zzP,zzA,zzL,reduceIte,reduceCtorEq,Nat.reduceLT,↓reduceIte,Nat.reduceEqDiff,↓gd,↓opP,↓qv,slot,putS,putO,ofV,bnd,slS,binH,binS2,binS,g2,hr1]
    repeat (refine ⟨by omega,?_⟩)
    rw [← hdl]
    refine c130 b2 H k _ (e+a) w N F hr1 (by omega) hF2 (by omega) _ (fun er he2 H1 x v hE1=>?_) (fun c v he2 H1 sv hE1 hrel=>?_)
    ·have z4:(er != 0) = true:=bne_iff_ne.2 (tb_err he2)
     rw [lp_e X he2] at hpre
     skip
     simp -implicitDefEqProofs (maxSteps:=1000000) (disch:=omega) only [↓zzP,zzA,reduceIte,reduceCtorEq,Nat.reduceLT,↓reduceIte,Nat.reduceEqDiff,Nat.reduceAdd,↓gd,↓opP,↓qv,slot,putS,putO,ofV,binH,binS2,binS,z4]
     repeat (refine ⟨by omega,?_⟩)
     exact intoR_refl (hE0.trans hE1).1 (hE er hpre.symm _ _ (hE0.trans hE1))
    ·have hv:=tb_ok he2
     rw [lp_o X he2] at hpre
     obtain ⟨kx,wx,rfl,hrx⟩:=id hrel
     have z4:((0:Int) != 0) = false:=rfl
     have z5:decide (((v:Nat):Int) < 1) = false:=decide_eq_false (by omega)
     have z6:IntKind.i64.wrap ((bs.length:Int) - (a:Int)) = ((b2.length:Nat):Int):=by rw [wrap64 (by omega) (by omega)]; omega
     have z7:decide (((v:Nat):Int) > ((b2.length:Nat):Int)) = false:=decide_eq_false (by omega)
     have z9:IntKind.i64.wrap ((a:Int)+(v:Int)) = ((a+v:Nat):Int):=by rw [wrap64 (by omega) (by omega)]; omega
     have hrow1:lookH H1 m = .row true X.length 1 (G):=hE1.look hrow (by simp) fun h=>h
     have hlt1:=lookH_lt hrow1 (by simp)
     simp -implicitDefEqProofs (maxSteps:=1000000) (disch:=omega) only [↓zzP,zzA,zzL,zzB,reduceIte,reduceCtorEq,Nat.reduceLT,↓reduceIte,Nat.reduceEqDiff,Nat.reduceLeDiff,Nat.reduceAdd,Array.reduceGetElem?,↓gd,↓opP,↓qv,↓ef,↓bslS,↓appS,slot,putS,putO,ofV,lenS,sz,srcS,binH,binS2,binS,stor,notInt,z4,z5,z6,z7,z8,z9,hrow1,lookH_at,putH_at]
     repeat (refine ⟨by omega,?_⟩)
     obtain ⟨LX,hLX⟩:∃ LX:SV,LX = .osl kx 0 0 1 c.length:=⟨_,rfl⟩
     refine into_sim (sim_two (c':=.row true (X.length+1) 1 ((fun j=>if j < X.length then G j else LX))) (chSim_row rfl fun j hj=>?_)) ?_
     ·by_cases c3:j < X.length
      ·rw [if_pos c3,if_pos c3]
      ·rw [if_neg c3,if_neg c3,hLX,show j - X.length = 0 by omega]; rfl
     rw [← hLX] at hrel
     have hE2:=hE0.trans hE1
     have hl1:=hE1.1
     obtain ⟨X2,hX2⟩:∃ X2,X2 = X++[c]:=⟨_,rfl⟩
     have hXl:X.length+1 = X2.length:=by rw [hX2,List.length_append]; rfl
     rw [hXl]
     rw [hb2,List.drop_drop,← hX2] at hpre
     refine into_keep [(0,.osl k d e 1 bs.length),(2,.fn (.func 130) [] []),(9,.int .u64 (n2:Nat)),(10,.int .i64 ((a+v):Nat)),(12,.osl (H1.length+1) 0 0 1 X2.length)] (by simp [sameT,slot,lkL]) fun j=>⟨n2,by omega,n2,a+v,X2,_,H1.length+1,_,j,rfl,by omega,by omega,hpre,(hE2.put _ (.inr hm0)).app _,by omega,lookH_pA _ _ _ _ 1,fun i hi=>?_,rfl⟩
     rw [putH_pA]
     by_cases c3:i < X.length
     ·have e:X2[i] = X[i]:=by simp [hX2,List.getElem_append_left c3]
      rw [e,if_pos c3]
      exact RelBs.mono _ _ _ _ (extR_f2 hE1 _) (hG i c3)
     ·have e:X2[i] = c:=by
       simp only [hX2]
       rw [List.getElem_append_right (by omega)]
       simp
      rw [e,if_neg c3]
      exact RelBs.mono _ _ _ _ (extR_f3 hhl hmlt _) hrel
   ·obtain rfl:z = 0:=by omega
    have g2:decide ((0:Int) > 0) = false:=rfl
    rw [lp] at hpre
    simp only [pre,List.append_nil] at hpre
    simp -implicitDefEqProofs (maxSteps:=1000000) (disch:=omega) only [↓zzP,zzA,zzL,zzB,reduceIte,reduceCtorEq,Nat.reduceLT,↓reduceIte,Nat.reduceEqDiff,↓gd,↓opP,↓qv,slot,putS,putO,ofV,binH,binS2,binS,g2]
    repeat (refine ⟨by omega,?_⟩)
    exact intoR_refl hhl (hO X a ha hpre.symm _ _ _ hE0 hm0 hrow fun i hi=>RelBs.mono _ _ _ _ extR_f1 (hG i hi))
end Go.Proofs.Ytgocfglmideobaa
