/- Texts put together: Contracts of functions that the laws reach, by the symbolic executor. No condition. -/
import Derived.Test.YtgocfglmideobaaMc
import Derived.Test.YtgocfglmideobaaMe
set_option linter.all false
set_option maxRecDepth 40000
namespace Go.Proofs.Ytgocfglmideobaa
open Go Go.Sx
theorem res158:Try.f158.results.toList = [.tmp 6,.tmp 7,.tmp 8]:=rfl
theorem res159:Try.f159.results.toList = [.tmp 6,.tmp 7,.tmp 8]:=rfl
inductive Sl where
 | nil
 | at (k n:Nat)
def Sl.sv (s:Nat):Sl→SV
 | .nil=>.v (.slice none 0 0)
 | .at k n=>.osl k 0 0 s n
theorem Sl.sz (s:Nat) (x:Sl):Sx.sz (x.sv s) = 1:=by cases x <;> rfl
theorem Sl.parts (s:Nat) (x:Sl):Sx.parts (x.sv s) = [x.sv s]:=by cases x <;> rfl
theorem Sl.single (s:Nat) (x:Sl):Sx.single (x.sv s) = true:=by cases x <;> rfl
theorem Sl.stor (s:Nat) (x:Sl):Sx.stor (x.sv s) = True:=by cases x <;> simp [Sl.sv,Sx.stor,Value.oneCell']
def errM (l:List SV):Prop:=∃ (k f v s:Int) (d:Nat→By) (s5 s6 s7 s8:Sl) (key:Int) (of:Nat→By),l = [.int .i64 k,.int .i64 f,.int .i64 v,.int .i64 s,.fam 32 1 fun i=>.int .u8 (nat (d i)),s5.sv 1,s6.sv 1,s7.sv 73,s8.sv 74,.int .i64 key,.fam 32 1 fun i=>.int .u8 (nat (of i))]
def ErrM (x:SV):Prop:=∃ l,x = .agg l∧errM l
def ErrP (x:SV):Prop:=∃ l s9,x = .agg (l++[Sl.sv 73 s9])∧errM l
abbrev QAt {α:Type} (f kr:Nat) (h:List Chunk) (Rel:List Chunk→α→SV→Prop) (Err:SV→Prop) (q:List By→Except Int (α × Nat)):Prop :=
 ∀ (b2:List By) (H:List Chunk) (k d e:Nat) (w:Bool) (N:Nat) (F:Nat→SV),Ext (fun _=>False) h H→lookH H k = .row w N 1 F→e+b2.length≤N→(∀ i,i < b2.length→F (e+i) = .int .u8 (nat (b2.getD i 0)))→b2.length≤35184372088832→∀ (K:Tok→SV→List Chunk→Prop),
 (∀ er,q b2 = .error er→er ≠ 0→∀ H1 x v,Ext (fun _=>False) H H1→Err x→K .mk (.tup [x,.int .i64 v,.int .i64 er]) H1) →
 (∀ c v,q b2 = .ok (c,v)→(0 < v∧v≤b2.length)→∀ H1 sv,Ext (fun _=>False) H H1→Rel (fresh H.length H1) c sv→K .mk (.tup [sv,.int .i64 (v:Nat),.int .i64 0]) H1) →
 callP Try.prog f [.ptr kr 0,.osl k d e 1 b2.length] H K
set_option maxHeartbeats 8000000 in
theorem c158 (bs:List By) (h:List Chunk) (k d e:Nat) (w:Bool) (N:Nat) (F:Nat→SV) (hr:lookH h k = .row w N 1 F) (hN:e+bs.length≤N) (hF:∀ i,i < bs.length→F (e+i) = .int .u8 (nat (bs.getD i 0))) (hl:bs.length≤35184372088832) (kr:Nat) (hkr:kr < h.length) (q:List By→Except Int (Msg × Nat)) (hq:QAt 134 kr h RelM ErrM q) (most:Nat) (hm:most≤1024) (K:Tok→SV→List Chunk→Prop) (hE:∀ er,tl q most bs = .error er→∀ H v,Ext (fun _=>False) h H→K .mk (.tup [.v (.slice none 0 0),.int .i64 v,.int .i64 er]) H) (hO:∀ (X:List Msg) v,v≤bs.length→tl q most bs = .ok (X,bs.drop v)→∀ H m (F2:Nat→List SV),Ext (fun _=>False) h H→h.length≤m→lookH H m = .row true X.length 73 (fun i=>.agg (F2 i))→(∀ i (hi:i < X.length),RelM (fresh h.length H) X[i] (.agg (F2 i)))→K .mk (.tup [.osl m 0 0 73 X.length,.int .i64 (v:Nat),.int .i64 0]) H):callP Try.prog 158 [.osl k d e 1 bs.length,.int .i64 (most:Nat),.fn (.func 134) [.ptr kr 0] []] h K:=by
 refine callP_of_code tabOk Try.func158 (by kernel_rfl) rfl (Nat.le_of_ble_eq_true rfl) (codeP_of_vc (pl:=np) tabOk follows_mixed (by kernel_rfl) ?_)
 rw [Try.ntmps158]
 simp -implicitDefEqProofs (maxSteps:=1000000) (disch:=omega) only [↓zzP,zzA,reduceIte,reduceCtorEq,Nat.reduceLT,↓reduceIte,Nat.reduceEqDiff,Nat.reduceAdd,↓gd,↓opP,↓qv,slot,putS,putO,ofV,nilS,nilEq,binH,binS2,binS,tupS,res158]
 repeat (refine ⟨by omega,?_⟩)
 refine c155 bs h k d e w N F hr hN hF hl _ (fun er he=>?_) (fun n u he=>?_)
 ·have z1:(er != 0) = true:=bne_iff_ne.2 (tk_ne he)
  simp -implicitDefEqProofs (maxSteps:=1000000) (disch:=omega) only [↓zzP,zzA,reduceIte,Nat.reduceLT,↓reduceIte,Nat.reduceEqDiff,Nat.reduceAdd,↓gd,↓opP,↓qv,slot,putS,putO,ofV,binH,binS2,binS,z1]
  repeat (refine ⟨by omega,?_⟩)
  exact intoR_refl (Nat.le_refl _) (hE er (tl_e he) _ _ (Ext.refl _ _))
 ·have hu:=tk_ok he
  have ht:=tl_o (q:=q) (most:=most) he
  have z1:((0:Int) != 0) = false:=rfl
  have z2:decide (((most:Nat):Int) < 0) = false:=decide_eq_false (by omega)
  have z3:IntKind.u64.wrap ((most:Nat):Int) = ((most:Nat):Int):=Go.Sx.wrap_small rfl (by omega) (by rw [show IntKind.u64.bits = 64 from rfl]; omega)
  by_cases c1:n.toNat > most
  ·have g1:decide (nat n > ((most:Nat):Int)) = true:=decide_eq_true (by unfold nat; omega)
   rw [if_pos c1] at ht
   simp -implicitDefEqProofs (maxSteps:=1000000) (disch:=omega) only [↓zzP,zzA,zzL,reduceIte,reduceCtorEq,Nat.reduceLT,↓reduceIte,Nat.reduceEqDiff,Nat.reduceAdd,Array.reduceGetElem?,↓gd,↓opP,↓qv,slot,putS,putO,ofV,convS,binH,binS2,binS,z1,z2,z3,g1]
   repeat (refine ⟨by omega,?_⟩)
   exact intoR_refl (Nat.le_refl _) (hE 18 ht _ _ (Ext.refl _ _))
  have g1:decide (nat n > ((most:Nat):Int)) = false:=decide_eq_false (by unfold nat; omega)
  rw [if_neg c1] at ht
  simp -implicitDefEqProofs (maxSteps:=1000000) (disch:=omega) only [↓zzP,zzA,zzL,reduceIte,reduceCtorEq,Nat.reduceLT,↓reduceIte,Nat.reduceEqDiff,Nat.reduceAdd,Array.reduceGetElem?,↓gd,↓opP,↓qv,slot,putS,putO,ofV,convS,binH,binS2,binS,z1,z2,z3,g1]
  repeat (refine ⟨by omega,?_⟩)
  refine codeP_loop (pl:=np) tabOk follows_mixed (by kernel_rfl) (fun z st=>∃ (n1 a:Nat) (X:List Msg) (H:List Chunk) (m:Nat) (G:Nat→List SV) (j:Nat→Value),z = n1∧a≤bs.length∧X.length+n1≤most∧pre X (lp q n1 (bs.drop a)) = tl q most bs∧Ext (fun _=>False) h H∧h.length≤m∧lookH H m = .row true X.length 73 (fun i=>.agg (G i))∧(∀ i (hi:i < X.length),RelM (fresh h.length (putH H m .none)) X[i] (.agg (G i)))∧st = ⟨⟨74,[(0,.osl k d e 1 bs.length),(2,.fn (.func 134) [.ptr kr 0] []),(9,.int .u64 (n1:Nat)),(10,.int .i64 (a:Nat)),(12,.osl m 0 0 73 X.length)],j⟩,H,[]⟩) ?_ ?_
  ·refine into_bind (J':=fun st=>∃ j,st = ⟨⟨74,[(0,.osl k d e 1 bs.length),(2,.fn (.func 134) [.ptr kr 0] []),(9,.int .u64 (nat n)),(10,.int .i64 (u:Nat)),(12,.v (.slice none 0 0))],j⟩,h,[]⟩) (into_keep [(0,.osl k d e 1 bs.length),(2,.fn (.func 134) [.ptr kr 0] []),(9,.int .u64 (nat n)),(10,.int .i64 (u:Nat)),(12,.v (.slice none 0 0))] (by simp [sameT,slot,lkL]) fun j=>⟨j,rfl⟩) ?_
   rintro _ ⟨j,rfl⟩
   refine into_nil [(0,.osl k d e 1 bs.length),(2,.fn (.func 134) [.ptr kr 0] []),(9,.int .u64 (nat n)),(10,.int .i64 (u:Nat)),(12,.osl h.length 0 0 73 0)] 73 (fun i=>.agg ((fun _=>[]) i)) ?_ ?_ ?_
   ·intro ρ hρ
    simp [den,hρ]
   ·have:=lookH_lt hr (by simp)
    simp [okE,ok,okL]
    omega
   exact into_refl ⟨n.toNat,n.toNat,u,[],_,h.length,fun _=>[],j,rfl,hu.2.1,by simp; omega,by rw [pre_nil,ht],(Ext.refl _ _).app _,Nat.le_refl _,lookH_end _ _,fun i hi=>absurd hi (Nat.not_lt_zero _),rfl⟩
  ·rintro z st ⟨n1,a,X,H,m,G,j,rfl,ha,hXn,hpre,hE0,hm0,hrow,hG,rfl⟩
   have hhl:=hE0.1
   have hmlt:=lookH_lt hrow (by simp)
   by_cases c2:0 < z
   ·obtain ⟨n2,rfl⟩:∃ n2,z = n2+1:=⟨z - 1,by omega⟩
    have g2:decide (((n2+1:Nat):Int) > 0) = true:=decide_eq_true (by omega)
    have hr1:=hE0.look hr (by simp) fun h=>h
    have hdl:(bs.drop a).length = bs.length - a:=List.length_drop ..
    have z8:IntKind.u64.wrap (((n2+1:Nat):Int) - 1) = (n2:Nat):=by
     rw [show ((n2+1:Nat):Int) - 1 = (n2:Nat) by omega]
     exact Go.Sx.wrap_small rfl (by omega) (by rw [show IntKind.u64.bits = 64 from rfl]; omega)
    obtain ⟨b2,hb2⟩:∃ b,b = bs.drop a:=⟨_,rfl⟩
    rw [← hb2] at hdl hpre
    have hF2:∀ i,i < b2.length→F (e+a+i) = .int .u8 (nat (b2.getD i 0)):=fun i hi=>by
     rw [Nat.add_assoc,hF _ (by omega),hb2]
     congr 2
     simp [List.getD,List.getElem?_drop]
    simp -implicitDefEqProofs (maxSteps:=1000000) (disch:=omega) only [↓zzP,zzA,zzL,reduceIte,reduceCtorEq,Nat.reduceLT,↓reduceIte,Nat.reduceEqDiff,↓gd,↓opP,↓qv,slot,putS,putO,ofV,bnd,slS,binH,binS2,binS,g2,hr1]
    repeat (refine ⟨by omega,?_⟩)
    rw [← hdl]
    refine hq b2 H k _ (e+a) w N F hE0 hr1 (by omega) hF2 (by omega) _ (fun er he2 hne H1 x v hE1 herr=>?_) (fun c v he2 hvv H1 sv hE1 hrel=>?_)
    ·have z4:(er != 0) = true:=bne_iff_ne.2 hne
     rw [lp_e X he2] at hpre
     obtain ⟨lx,rfl,yk,yf,yv,ys,yd,s5,s6,s7,s8,ykey,yof,rfl⟩:=herr
     simp -implicitDefEqProofs (maxSteps:=1000000) (disch:=omega) only [↓zzP,zzA,zzL,zzB,Nat.reduceSub,reduceIte,reduceCtorEq,Nat.reduceLT,↓reduceIte,Nat.reduceEqDiff,Nat.reduceLeDiff,Nat.reduceAdd,↓gd,↓opP,↓qv,↓ef,↓stS,slot,putS,putO,ofV,sz,wrF,binH,binS2,binS,stor,z4,Sl.sz,Sl.stor]
     repeat (refine ⟨by omega,?_⟩)
     exact intoR_refl (Nat.le_trans (hE0.trans hE1).1 (by simp)) (hE er hpre.symm _ _ ((hE0.trans hE1).app _))
    ·have hv:=hvv
     rw [lp_o X he2] at hpre
     obtain ⟨lx,rfl,hmx,hwx⟩:=id hrel
     obtain ⟨xk,xf,xv,xs,xd,xkb,xnb,xkbs,xnbs,xkp,xnp,xkq,xnq,xkey,xof,rfl⟩:=hmx.open
     have z4:((0:Int) != 0) = false:=rfl
     have z5:decide (((v:Nat):Int) < 1) = false:=decide_eq_false (by omega)
     have z6:IntKind.i64.wrap ((bs.length:Int) - (a:Int)) = ((b2.length:Nat):Int):=by rw [wrap64 (by omega) (by omega)]; omega
     have z7:decide (((v:Nat):Int) > ((b2.length:Nat):Int)) = false:=decide_eq_false (by omega)
     have z9:IntKind.i64.wrap ((a:Int)+(v:Int)) = ((a+v:Nat):Int):=by rw [wrap64 (by omega) (by omega)]; omega
     have hrow1:lookH H1 m = .row true X.length 73 (fun i=>.agg (G i)):=hE1.look hrow (by simp) fun h=>h
     have hlt1:=lookH_lt hrow1 (by simp)
     simp -implicitDefEqProofs (maxSteps:=1000000) (disch:=omega) only [↓zzP,zzA,zzL,zzB,Nat.reduceSub,reduceIte,reduceCtorEq,Nat.reduceMul,Nat.reduceLT,↓reduceIte,Nat.reduceEqDiff,Nat.reduceLeDiff,Nat.reduceAdd,Array.reduceGetElem?,↓gd,↓opP,↓qv,↓ef,↓bslS,↓stS,↓appS,slot,putS,putO,ofV,lenS,rdF,Ent.row,ldS,sz,wrF,srcS,binH,binS2,binS,stor,notInt,z4,z5,z6,z7,z8,z9,hrow1,lookH_at,putH_at]
     repeat (refine ⟨by omega,?_⟩)
     obtain ⟨LX,hLX⟩:∃ LX:List SV,LX = [.int .i64 xk,.int .i64 xf,.int .i64 xv,.int .i64 xs,.fam 32 1 fun i=>.int .u8 (nat (xd i)),.osl xkb 0 0 1 xnb,.osl xkbs 0 0 1 xnbs,.osl xkp 0 0 73 xnp,.osl xkq 0 0 74 xnq,.int .i64 xkey,.fam 32 1 fun i=>.int .u8 (nat (xof i))]:=⟨_,rfl⟩
     refine into_sim (sim_3 (c':=.row true (X.length+1) 73 (fun j=>.agg (if j < X.length then G j else LX))) (chSim_row rfl fun j hj=>?_)) ?_
     ·by_cases c3:j < X.length
      ·rw [if_pos c3,if_pos c3]
      ·rw [if_neg c3,if_neg c3,hLX,show j - X.length = 0 by omega]; rfl
     rw [← hLX] at hrel
     have hE2:=hE0.trans hE1
     have hl1:=hE1.1
     obtain ⟨X2,hX2⟩:∃ X2,X2 = X++[c]:=⟨_,rfl⟩
     have hXl:X.length+1 = X2.length:=by rw [hX2,List.length_append]; rfl
     rw [hXl]
     rw [hb2,List.drop_drop,← hX2] at hpre
     refine into_keep [(0,.osl k d e 1 bs.length),(2,.fn (.func 134) [.ptr kr 0] []),(9,.int .u64 (n2:Nat)),(10,.int .i64 ((a+v):Nat)),(12,.osl (H1.length+2) 0 0 73 X2.length)] (by simp [sameT,slot,lkL]) fun j=>⟨n2,by omega,n2,a+v,X2,_,H1.length+2,_,j,rfl,by omega,by omega,hpre,(hE2.put _ (.inr hm0)).app _,by omega,lookH_pA _ _ _ _ 2,fun i hi=>?_,rfl⟩
     rw [putH_pA]
     by_cases c3:i < X.length
     ·have e:X2[i] = X[i]:=by simp [hX2,List.getElem_append_left c3]
      rw [e,if_pos c3]
      exact RelM.mono _ _ _ _ (extR_f2 hE1 _) (hG i c3)
     ·have e:X2[i] = c:=by
       simp only [hX2]
       rw [List.getElem_append_right (by omega)]
       simp
      rw [e,if_neg c3]
      exact RelM.mono _ _ _ _ (extR_f3 hhl hmlt _) hrel
   ·obtain rfl:z = 0:=by omega
    have g2:decide ((0:Int) > 0) = false:=rfl
    rw [lp] at hpre
    simp only [pre,List.append_nil] at hpre
    simp -implicitDefEqProofs (maxSteps:=1000000) (disch:=omega) only [↓zzP,zzA,zzL,zzB,reduceIte,reduceCtorEq,Nat.reduceLT,↓reduceIte,Nat.reduceEqDiff,↓gd,↓opP,↓qv,slot,putS,putO,ofV,binH,binS2,binS,g2]
    repeat (refine ⟨by omega,?_⟩)
    exact intoR_refl hhl (hO X a ha hpre.symm _ _ _ hE0 hm0 hrow fun i hi=>RelM.mono _ _ _ _ extR_f1 (hG i hi))
set_option maxHeartbeats 8000000 in
theorem c159 (bs:List By) (h:List Chunk) (k d e:Nat) (w:Bool) (N:Nat) (F:Nat→SV) (hr:lookH h k = .row w N 1 F) (hN:e+bs.length≤N) (hF:∀ i,i < bs.length→F (e+i) = .int .u8 (nat (bs.getD i 0))) (hl:bs.length≤35184372088832) (kr:Nat) (hkr:kr < h.length) (q:List By→Except Int ((Msg × List Msg) × Nat)) (hq:QAt 136 kr h RelP ErrP q) (most:Nat) (hm:most≤1024) (K:Tok→SV→List Chunk→Prop) (hE:∀ er,tl q most bs = .error er→∀ H v,Ext (fun _=>False) h H→K .mk (.tup [.v (.slice none 0 0),.int .i64 v,.int .i64 er]) H) (hO:∀ (X:List (Msg × List Msg)) v,v≤bs.length→tl q most bs = .ok (X,bs.drop v)→∀ H m (F2:Nat→List SV),Ext (fun _=>False) h H→h.length≤m→lookH H m = .row true X.length 74 (fun i=>.agg (F2 i))→(∀ i (hi:i < X.length),RelP (fresh h.length H) X[i] (.agg (F2 i)))→K .mk (.tup [.osl m 0 0 74 X.length,.int .i64 (v:Nat),.int .i64 0]) H):callP Try.prog 159 [.osl k d e 1 bs.length,.int .i64 (most:Nat),.fn (.func 136) [.ptr kr 0] []] h K:=by
 refine callP_of_code tabOk Try.func159 (by kernel_rfl) rfl (Nat.le_of_ble_eq_true rfl) (codeP_of_vc (pl:=np) tabOk follows_mixed (by kernel_rfl) ?_)
 rw [Try.ntmps159]
 simp -implicitDefEqProofs (maxSteps:=1000000) (disch:=omega) only [↓zzP,zzA,reduceIte,reduceCtorEq,Nat.reduceLT,↓reduceIte,Nat.reduceEqDiff,Nat.reduceAdd,↓gd,↓opP,↓qv,slot,putS,putO,ofV,nilS,nilEq,binH,binS2,binS,tupS,res159]
 repeat (refine ⟨by omega,?_⟩)
 refine c155 bs h k d e w N F hr hN hF hl _ (fun er he=>?_) (fun n u he=>?_)
 ·have z1:(er != 0) = true:=bne_iff_ne.2 (tk_ne he)
  simp -implicitDefEqProofs (maxSteps:=1000000) (disch:=omega) only [↓zzP,zzA,reduceIte,Nat.reduceLT,↓reduceIte,Nat.reduceEqDiff,Nat.reduceAdd,↓gd,↓opP,↓qv,slot,putS,putO,ofV,binH,binS2,binS,z1]
  repeat (refine ⟨by omega,?_⟩)
  exact intoR_refl (Nat.le_refl _) (hE er (tl_e he) _ _ (Ext.refl _ _))
 ·have hu:=tk_ok he
  have ht:=tl_o (q:=q) (most:=most) he
  have z1:((0:Int) != 0) = false:=rfl
  have z2:decide (((most:Nat):Int) < 0) = false:=decide_eq_false (by omega)
  have z3:IntKind.u64.wrap ((most:Nat):Int) = ((most:Nat):Int):=Go.Sx.wrap_small rfl (by omega) (by rw [show IntKind.u64.bits = 64 from rfl]; omega)
  by_cases c1:n.toNat > most
  ·have g1:decide (nat n > ((most:Nat):Int)) = true:=decide_eq_true (by unfold nat; omega)
   rw [if_pos c1] at ht
   simp -implicitDefEqProofs (maxSteps:=1000000) (disch:=omega) only [↓zzP,zzA,zzL,reduceIte,reduceCtorEq,Nat.reduceLT,↓reduceIte,Nat.reduceEqDiff,Nat.reduceAdd,Array.reduceGetElem?,↓gd,↓opP,↓qv,slot,putS,putO,ofV,convS,binH,binS2,binS,z1,z2,z3,g1]
   repeat (refine ⟨by omega,?_⟩)
   exact intoR_refl (Nat.le_refl _) (hE 18 ht _ _ (Ext.refl _ _))
  have g1:decide (nat n > ((most:Nat):Int)) = false:=decide_eq_false (by unfold nat; omega)
  rw [if_neg c1] at ht
  simp -implicitDefEqProofs (maxSteps:=1000000) (disch:=omega) only [↓zzP,zzA,zzL,reduceIte,reduceCtorEq,Nat.reduceLT,↓reduceIte,Nat.reduceEqDiff,Nat.reduceAdd,Array.reduceGetElem?,↓gd,↓opP,↓qv,slot,putS,putO,ofV,convS,binH,binS2,binS,z1,z2,z3,g1]
  repeat (refine ⟨by omega,?_⟩)
  refine codeP_loop (pl:=np) tabOk follows_mixed (by kernel_rfl) (fun z st=>∃ (n1 a:Nat) (X:List (Msg × List Msg)) (H:List Chunk) (m:Nat) (G:Nat→List SV) (j:Nat→Value),z = n1∧a≤bs.length∧X.length+n1≤most∧pre X (lp q n1 (bs.drop a)) = tl q most bs∧Ext (fun _=>False) h H∧h.length≤m∧lookH H m = .row true X.length 74 (fun i=>.agg (G i))∧(∀ i (hi:i < X.length),RelP (fresh h.length (putH H m .none)) X[i] (.agg (G i)))∧st = ⟨⟨74,[(0,.osl k d e 1 bs.length),(2,.fn (.func 136) [.ptr kr 0] []),(9,.int .u64 (n1:Nat)),(10,.int .i64 (a:Nat)),(12,.osl m 0 0 74 X.length)],j⟩,H,[]⟩) ?_ ?_
  ·refine into_bind (J':=fun st=>∃ j,st = ⟨⟨74,[(0,.osl k d e 1 bs.length),(2,.fn (.func 136) [.ptr kr 0] []),(9,.int .u64 (nat n)),(10,.int .i64 (u:Nat)),(12,.v (.slice none 0 0))],j⟩,h,[]⟩) (into_keep [(0,.osl k d e 1 bs.length),(2,.fn (.func 136) [.ptr kr 0] []),(9,.int .u64 (nat n)),(10,.int .i64 (u:Nat)),(12,.v (.slice none 0 0))] (by simp [sameT,slot,lkL]) fun j=>⟨j,rfl⟩) ?_
   rintro _ ⟨j,rfl⟩
   refine into_nil [(0,.osl k d e 1 bs.length),(2,.fn (.func 136) [.ptr kr 0] []),(9,.int .u64 (nat n)),(10,.int .i64 (u:Nat)),(12,.osl h.length 0 0 74 0)] 74 (fun i=>.agg ((fun _=>[]) i)) ?_ ?_ ?_
   ·intro ρ hρ
    simp [den,hρ]
   ·have:=lookH_lt hr (by simp)
    simp [okE,ok,okL]
    omega
   exact into_refl ⟨n.toNat,n.toNat,u,[],_,h.length,fun _=>[],j,rfl,hu.2.1,by simp; omega,by rw [pre_nil,ht],(Ext.refl _ _).app _,Nat.le_refl _,lookH_end _ _,fun i hi=>absurd hi (Nat.not_lt_zero _),rfl⟩
  ·rintro z st ⟨n1,a,X,H,m,G,j,rfl,ha,hXn,hpre,hE0,hm0,hrow,hG,rfl⟩
   have hhl:=hE0.1
   have hmlt:=lookH_lt hrow (by simp)
   by_cases c2:0 < z
   ·obtain ⟨n2,rfl⟩:∃ n2,z = n2+1:=⟨z - 1,by omega⟩
    have g2:decide (((n2+1:Nat):Int) > 0) = true:=decide_eq_true (by omega)
    have hr1:=hE0.look hr (by simp) fun h=>h
    have hdl:(bs.drop a).length = bs.length - a:=List.length_drop ..
    have z8:IntKind.u64.wrap (((n2+1:Nat):Int) - 1) = (n2:Nat):=by
     rw [show ((n2+1:Nat):Int) - 1 = (n2:Nat) by omega]
     exact Go.Sx.wrap_small rfl (by omega) (by rw [show IntKind.u64.bits = 64 from rfl]; omega)
    obtain ⟨b2,hb2⟩:∃ b,b = bs.drop a:=⟨_,rfl⟩
    rw [← hb2] at hdl hpre
    have hF2:∀ i,i < b2.length→F (e+a+i) = .int .u8 (nat (b2.getD i 0)):=fun i hi=>by
     rw [Nat.add_assoc,hF _ (by omega),hb2]
     congr 2
     simp [List.getD,List.getElem?_drop]
    simp -implicitDefEqProofs (maxSteps:=1000000) (disch:=omega) only [↓zzP,zzA,zzL,reduceIte,reduceCtorEq,Nat.reduceLT,↓reduceIte,Nat.reduceEqDiff,↓gd,↓opP,↓qv,slot,putS,putO,ofV,bnd,slS,binH,binS2,binS,g2,hr1]
    repeat (refine ⟨by omega,?_⟩)
    rw [← hdl]
    refine hq b2 H k _ (e+a) w N F hE0 hr1 (by omega) hF2 (by omega) _ (fun er he2 hne H1 x v hE1 herr=>?_) (fun c v he2 hvv H1 sv hE1 hrel=>?_)
    ·have z4:(er != 0) = true:=bne_iff_ne.2 hne
     rw [lp_e X he2] at hpre
     obtain ⟨lx,s9,rfl,yk,yf,yv,ys,yd,s5,s6,s7,s8,ykey,yof,rfl⟩:=herr
     simp only [List.cons_append,List.nil_append]
     simp -implicitDefEqProofs (maxSteps:=1000000) (disch:=omega) only [↓zzP,zzA,zzL,zzB,Nat.reduceSub,reduceIte,reduceCtorEq,Nat.reduceLT,↓reduceIte,Nat.reduceEqDiff,Nat.reduceLeDiff,Nat.reduceAdd,↓gd,↓opP,↓qv,↓ef,↓stS,slot,putS,putO,ofV,sz,wrF,binH,binS2,binS,stor,z4,Sl.sz,Sl.stor]
     repeat (refine ⟨by omega,?_⟩)
     exact intoR_refl (Nat.le_trans (hE0.trans hE1).1 (by simp)) (hE er hpre.symm _ _ ((hE0.trans hE1).app _))
    ·have hv:=hvv
     rw [lp_o X he2] at hpre
     obtain ⟨lx,rfl,⟨lm,xkl,wl,fl,rfl,hmx,hrl,hls⟩,hwx⟩:=id hrel
     obtain ⟨xk,xf,xv,xs,xd,xkb,xnb,xkbs,xnbs,xkp,xnp,xkq,xnq,xkey,xof,rfl⟩:=hmx.open
     simp only [List.cons_append,List.nil_append] at hrel ⊢
     have z4:((0:Int) != 0) = false:=rfl
     have z5:decide (((v:Nat):Int) < 1) = false:=decide_eq_false (by omega)
     have z6:IntKind.i64.wrap ((bs.length:Int) - (a:Int)) = ((b2.length:Nat):Int):=by rw [wrap64 (by omega) (by omega)]; omega
     have z7:decide (((v:Nat):Int) > ((b2.length:Nat):Int)) = false:=decide_eq_false (by omega)
     have z9:IntKind.i64.wrap ((a:Int)+(v:Int)) = ((a+v:Nat):Int):=by rw [wrap64 (by omega) (by omega)]; omega
     have hrow1:lookH H1 m = .row true X.length 74 (fun i=>.agg (G i)):=hE1.look hrow (by simp) fun h=>h
     have hlt1:=lookH_lt hrow1 (by simp)
     simp -implicitDefEqProofs (maxSteps:=1000000) (disch:=omega) only [↓zzP,zzA,zzL,zzB,Nat.reduceSub,reduceIte,reduceCtorEq,Nat.reduceMul,Nat.reduceLT,↓reduceIte,Nat.reduceEqDiff,Nat.reduceLeDiff,Nat.reduceAdd,Array.reduceGetElem?,↓gd,↓opP,↓qv,↓ef,↓bslS,↓stS,↓appS,slot,putS,putO,ofV,lenS,rdF,Ent.row,ldS,sz,wrF,srcS,binH,binS2,binS,stor,notInt,z4,z5,z6,z7,z8,z9,hrow1,lookH_at,putH_at]
     repeat (refine ⟨by omega,?_⟩)
     obtain ⟨LX,hLX⟩:∃ LX:List SV,LX = [.int .i64 xk,.int .i64 xf,.int .i64 xv,.int .i64 xs,.fam 32 1 fun i=>.int .u8 (nat (xd i)),.osl xkb 0 0 1 xnb,.osl xkbs 0 0 1 xnbs,.osl xkp 0 0 73 xnp,.osl xkq 0 0 74 xnq,.int .i64 xkey,.fam 32 1 fun i=>.int .u8 (nat (xof i)),.osl xkl 0 0 73 c.2.length]:=⟨_,rfl⟩
     refine into_sim (sim_3 (c':=.row true (X.length+1) 74 (fun j=>.agg (if j < X.length then G j else LX))) (chSim_row rfl fun j hj=>?_)) ?_
     ·by_cases c3:j < X.length
      ·rw [if_pos c3,if_pos c3]
      ·rw [if_neg c3,if_neg c3,hLX,show j - X.length = 0 by omega]; rfl
     rw [← hLX] at hrel
     have hE2:=hE0.trans hE1
     have hl1:=hE1.1
     obtain ⟨X2,hX2⟩:∃ X2,X2 = X++[c]:=⟨_,rfl⟩
     have hXl:X.length+1 = X2.length:=by rw [hX2,List.length_append]; rfl
     rw [hXl]
     rw [hb2,List.drop_drop,← hX2] at hpre
     refine into_keep [(0,.osl k d e 1 bs.length),(2,.fn (.func 136) [.ptr kr 0] []),(9,.int .u64 (n2:Nat)),(10,.int .i64 ((a+v):Nat)),(12,.osl (H1.length+2) 0 0 74 X2.length)] (by simp [sameT,slot,lkL]) fun j=>⟨n2,by omega,n2,a+v,X2,_,H1.length+2,_,j,rfl,by omega,by omega,hpre,(hE2.put _ (.inr hm0)).app _,by omega,lookH_pA _ _ _ _ 2,fun i hi=>?_,rfl⟩
     rw [putH_pA]
     by_cases c3:i < X.length
     ·have e:X2[i] = X[i]:=by simp [hX2,List.getElem_append_left c3]
      rw [e,if_pos c3]
      exact RelP.mono _ _ _ _ (extR_f2 hE1 _) (hG i c3)
     ·have e:X2[i] = c:=by
       simp only [hX2]
       rw [List.getElem_append_right (by omega)]
       simp
      rw [e,if_neg c3]
      exact RelP.mono _ _ _ _ (extR_f3 hhl hmlt _) hrel
   ·obtain rfl:z = 0:=by omega
    have g2:decide ((0:Int) > 0) = false:=rfl
    rw [lp] at hpre
    simp only [pre,List.append_nil] at hpre
    simp -implicitDefEqProofs (maxSteps:=1000000) (disch:=omega) only [↓zzP,zzA,zzL,zzB,reduceIte,reduceCtorEq,Nat.reduceLT,↓reduceIte,Nat.reduceEqDiff,↓gd,↓opP,↓qv,slot,putS,putO,ofV,binH,binS2,binS,g2]
    repeat (refine ⟨by omega,?_⟩)
    exact intoR_refl hhl (hO X a ha hpre.symm _ _ _ hE0 hm0 hrow fun i hi=>RelP.mono _ _ _ _ extR_f1 (hG i hi))
end Go.Proofs.Ytgocfglmideobaa
set_option linter.all false
set_option maxRecDepth 40000
namespace Go.Proofs.Ytgocfglmideobaa
open Go Go.Sx
theorem res132:Try.f132.results.toList = [.tmp 6]:=rfl
theorem res133:Try.f133.results.toList = [.tmp 6]:=rfl
theorem res135:Try.f135.results.toList = [.tmp 6]:=rfl
theorem lp_err {α:Type} {q:List By→Except Int (α × Nat)} (hq:∀ b er,q b = .error er→er ≠ 0):∀ {n:Nat} {bs:List By} {er:Int},lp q n bs = .error er→er ≠ 0
 | 0,bs,er,h=>by rw [lp] at h; cases h
 | n+1,bs,er,h=>by
  rw [lp] at h
  split at h
  ·rename_i e he
   cases h
   exact hq _ _ he
  ·split at h
   ·rename_i e he
    cases h
    exact lp_err hq he
   ·cases h
theorem tl_err {α:Type} {q:List By→Except Int (α × Nat)} (hq:∀ b er,q b = .error er→er ≠ 0) {most:Nat} {bs:List By} {er:Int} (h:tl q most bs = .error er):er ≠ 0:=by
 unfold tl at h
 split at h
 ·rename_i e he
  cases h
  exact tk_ne he
 ·split at h
  ·cases h; decide
  ·exact lp_err hq h
theorem callP_skipE (bs:List By) (h:List Chunk) (kr k d e:Nat) (w:Bool) (N:Nat) (F:Nat→SV) (dp er:Int) (hk:lookH h kr = .cells true [.osl k d e 1 bs.length,.int .i64 dp,.int .i64 er]) (u e2:Int) (he:e2 ≠ 0) (K:Tok→SV→List Chunk→Prop) (hK:K .mk (.bool false) (putH h kr (.cells true [.osl k d e 1 bs.length,.int .i64 dp,.int .i64 e2]))):callP Try.prog 131 [.ptr kr 0,.int .i64 u,.int .i64 e2] h K:=by
 have z1:(e2 != 0) = true:=bne_iff_ne.2 he
 have hlt:=lookH_lt hk (by simp)
 refine callP_of_code tabOk Try.func131 (by kernel_rfl) rfl (Nat.le_of_ble_eq_true rfl) (codeP_of_vc (pl:=np) tabOk follows_mixed (by kernel_rfl) ?_)
 rw [Try.ntmps131]
 simp -implicitDefEqProofs (maxSteps:=1000000) (disch:=omega) only [↓zzP,zzA,zzL,zzB,Nat.reduceSub,reduceIte,reduceCtorEq,Nat.reduceLT,↓reduceIte,Nat.reduceEqDiff,Nat.reduceLeDiff,Nat.reduceAdd,↓gd,↓opP,↓qv,↓ef,↓stS,slot,putS,putO,ofV,fldA,sz,wrF,binH,binS2,binS,tupS,stor,res131,z1,hk]
 repeat (refine ⟨by omega,?_⟩)
 exact intoR_refl (by rw [putH_len]; exact Nat.le_refl _) hK
set_option maxHeartbeats 4000000 in
theorem c132x (h:List Chunk) (kr k d e n:Nat) (dp er:Int) (hk:lookH h kr = .cells true [.osl k d e 1 n,.int .i64 dp,.int .i64 er]) (he:er ≠ 0) (most:Int) (fv:SV) (K:Tok→SV→List Chunk→Prop) (hK:K .mk (.v (.slice none 0 0)) h):callP Try.prog 132 [.ptr kr 0,.int .i64 most,fv] h K:=by
 have z1:(er != 0) = true:=bne_iff_ne.2 he
 refine callP_of_code tabOk Try.func132 (by kernel_rfl) rfl (Nat.le_of_ble_eq_true rfl) (codeP_of_vc (pl:=np) tabOk follows_mixed (by kernel_rfl) ?_)
 rw [Try.ntmps132]
 simp -implicitDefEqProofs (maxSteps:=1000000) (disch:=omega) only [↓zzP,zzA,zzL,zzB,Nat.reduceSub,reduceIte,reduceCtorEq,Nat.reduceLT,↓reduceIte,Nat.reduceLeDiff,Nat.reduceAdd,↓gd,↓opP,↓qv,slot,putS,putO,ofV,fldA,rdF,Ent.row,ldS,sz,binH,binS2,binS,tupS,res132,z1,hk]
 repeat (refine ⟨by omega,?_⟩)
 exact intoR_refl (Nat.le_refl _) hK
set_option maxHeartbeats 4000000 in
theorem c132 (bs:List By) (h:List Chunk) (kr:Nat) (sv:SV) (dp:Int) (hk:lookH h kr = .cells true [sv,.int .i64 dp,.int .i64 0]) (hB:RdB h sv bs) (hl:bs.length≤35184372088832) (most:Nat) (hm:most≤1024) (K:Tok→SV→List Chunk→Prop) (hE:∀ e2,tl (fun b=>tb b 8192) most bs = .error e2→∀ H sv' bs',Ext (fun j=>j = kr) h H→lookH H kr = .cells true [sv',.int .i64 dp,.int .i64 e2]→RdB H sv' bs'→K .mk (.v (.slice none 0 0)) H) (hO:∀ X r,tl (fun b=>tb b 8192) most bs = .ok (X,r)→r.length≤bs.length→∀ H sv' m (F2:Nat→SV),Ext (fun j=>j = kr) h H→lookH H kr = .cells true [sv',.int .i64 dp,.int .i64 0]→RdB H sv' r→h.length≤m→lookH H m = .row true X.length 1 (F2)→(∀ i (hi:i < X.length),RelBs (fresh h.length H) X[i] (F2 i))→K .mk (.osl m 0 0 1 X.length) H):callP Try.prog 132 [.ptr kr 0,.int .i64 (most:Nat),.fn (.func 130) [] []] h K:=by
 obtain ⟨k,d,e,w,N,F,rfl,hr,hN,hF⟩:=hB
 have hlt:=lookH_lt hk (by simp)
 have hkk:=ne_cr hk hr
 refine callP_of_code tabOk Try.func132 (by kernel_rfl) rfl (Nat.le_of_ble_eq_true rfl) (codeP_of_vc (pl:=np) tabOk follows_mixed (by kernel_rfl) ?_)
 rw [Try.ntmps132]
 have z1:((0:Int) != 0) = false:=rfl
 simp -implicitDefEqProofs (maxSteps:=1000000) (disch:=omega) only [↓zzP,zzA,zzL,zzB,Nat.reduceSub,reduceIte,reduceCtorEq,Nat.reduceLT,↓reduceIte,Nat.reduceEqDiff,Nat.reduceLeDiff,Nat.reduceAdd,↓gd,↓opP,↓qv,slot,putS,putO,ofV,fldA,rdF,Ent.row,ldS,sz,binH,binS2,binS,tupS,res132,z1,hk]
 repeat (refine ⟨by omega,?_⟩)
 refine c157 bs h k d e w N F hr hN hF hl most hm _ (fun er he H1 v hE1=>?_) (fun X v hv he H1 m F2 hE1 hm1 hrow hrel=>?_)
 ·have hk1:=hE1.look hk (by simp) fun h=>h
  have hr1:=hE1.look hr (by simp) fun h=>h
  have hEk:Ext (fun j=>j = kr) h H1:=hE1.mono fun _ h=>h.elim
  have hl1:=lookH_lt hk1 (by simp)
  have z2:(er != 0) = true:=bne_iff_ne.2 (tl_err (fun b er h=>tb_err h) he)
  simp -implicitDefEqProofs (maxSteps:=1000000) (disch:=omega) only [↓zzP,zzA,reduceIte,reduceCtorEq,Nat.reduceLT,↓reduceIte,Nat.reduceEqDiff,Nat.reduceAdd,↓gd,↓opP,↓qv,slot,putS,putO]
  repeat (refine ⟨by omega,?_⟩)
  refine callP_skipE bs H1 kr k d e w N F dp 0 hk1 v er (tl_err (fun b er h=>tb_err h) he) _ ?_
  simp -implicitDefEqProofs (maxSteps:=1000000) (disch:=omega) only [↓zzP,zzA,reduceIte,Nat.reduceLT,↓reduceIte,Nat.reduceEqDiff,↓gd,↓opP,↓qv,slot,putS,putO]
  repeat (refine ⟨by omega,?_⟩)
  refine intoR_refl (by rw [putH_len]; exact hE1.1) (hE er he _ _ _ (hEk.put (p:=kr) _ (.inl rfl)) (lookH_put_same _ hl1) (RdB.put ⟨k,d,e,w,N,F,rfl,hr1,hN,hF⟩ hk1 _))
 ·have hk1:=hE1.look hk (by simp) fun h=>h
  have hr1:=hE1.look hr (by simp) fun h=>h
  have hEk:Ext (fun j=>j = kr) h H1:=hE1.mono fun _ h=>h.elim
  have hl1:=lookH_lt hk1 (by simp)
  simp -implicitDefEqProofs (maxSteps:=1000000) (disch:=omega) only [↓zzP,zzA,reduceIte,reduceCtorEq,Nat.reduceLT,↓reduceIte,Nat.reduceEqDiff,Nat.reduceAdd,↓gd,↓opP,↓qv,slot,putS,putO]
  repeat (refine ⟨by omega,?_⟩)
  refine c131 bs H1 kr k d e w N F dp 0 hk1 hr1 hN hF hl v hv _ fun d'=>?_
  simp -implicitDefEqProofs (maxSteps:=1000000) (disch:=omega) only [↓zzP,zzA,reduceIte,Nat.reduceLT,↓reduceIte,Nat.reduceEqDiff,↓gd,↓opP,↓qv,slot,putS,putO]
  repeat (refine ⟨by omega,?_⟩)
  have hmk:m ≠ kr:=ne_cr hk1 hrow
  refine intoR_refl (by rw [putH_len]; exact hE1.1) (hO X _ he (by rw [List.length_drop]; omega) _ _ m F2 (hEk.put (p:=kr) _ (.inl rfl)) (lookH_put_same _ hl1) (RdB.put (RdB.drop hr1 hN hF v d' hv) hk1 _) hm1 (by rw [lookH_put_ne _ hmk]; exact hrow) fun i hi=>RelBs.mono _ _ _ _ (extR_cells _ hk1) (hrel i hi))
set_option maxHeartbeats 4000000 in
theorem c133x (h:List Chunk) (kr k d e n:Nat) (dp er:Int) (hk:lookH h kr = .cells true [.osl k d e 1 n,.int .i64 dp,.int .i64 er]) (he:er ≠ 0) (most:Int) (fv:SV) (K:Tok→SV→List Chunk→Prop) (hK:K .mk (.v (.slice none 0 0)) h):callP Try.prog 133 [.ptr kr 0,.int .i64 most,fv] h K:=by
 have z1:(er != 0) = true:=bne_iff_ne.2 he
 refine callP_of_code tabOk Try.func133 (by kernel_rfl) rfl (Nat.le_of_ble_eq_true rfl) (codeP_of_vc (pl:=np) tabOk follows_mixed (by kernel_rfl) ?_)
 rw [Try.ntmps133]
 simp -implicitDefEqProofs (maxSteps:=1000000) (disch:=omega) only [↓zzP,zzA,zzL,zzB,Nat.reduceSub,reduceIte,reduceCtorEq,Nat.reduceLT,↓reduceIte,Nat.reduceLeDiff,Nat.reduceAdd,↓gd,↓opP,↓qv,slot,putS,putO,ofV,fldA,rdF,Ent.row,ldS,sz,binH,binS2,binS,tupS,res133,z1,hk]
 repeat (refine ⟨by omega,?_⟩)
 exact intoR_refl (Nat.le_refl _) hK
set_option maxHeartbeats 4000000 in
theorem c133 (bs:List By) (h:List Chunk) (kr:Nat) (sv:SV) (dp:Int) (hk:lookH h kr = .cells true [sv,.int .i64 dp,.int .i64 0]) (hB:RdB h sv bs) (hl:bs.length≤35184372088832) (q:List By→Except Int (Msg × Nat)) (hq:QAt 134 kr h RelM ErrM q) (hqe:∀ b er,q b = .error er→er ≠ 0) (most:Nat) (hm:most≤1024) (K:Tok→SV→List Chunk→Prop) (hE:∀ e2,tl q most bs = .error e2→∀ H sv' bs',Ext (fun j=>j = kr) h H→lookH H kr = .cells true [sv',.int .i64 dp,.int .i64 e2]→RdB H sv' bs'→K .mk (.v (.slice none 0 0)) H) (hO:∀ X r,tl q most bs = .ok (X,r)→r.length≤bs.length→∀ H sv' m (F2:Nat→List SV),Ext (fun j=>j = kr) h H→lookH H kr = .cells true [sv',.int .i64 dp,.int .i64 0]→RdB H sv' r→h.length≤m→lookH H m = .row true X.length 73 (fun i=>.agg (F2 i))→(∀ i (hi:i < X.length),RelM (fresh h.length H) X[i] (.agg (F2 i)))→K .mk (.osl m 0 0 73 X.length) H):callP Try.prog 133 [.ptr kr 0,.int .i64 (most:Nat),.fn (.func 134) [.ptr kr 0] []] h K:=by
 obtain ⟨k,d,e,w,N,F,rfl,hr,hN,hF⟩:=hB
 have hlt:=lookH_lt hk (by simp)
 have hkk:=ne_cr hk hr
 refine callP_of_code tabOk Try.func133 (by kernel_rfl) rfl (Nat.le_of_ble_eq_true rfl) (codeP_of_vc (pl:=np) tabOk follows_mixed (by kernel_rfl) ?_)
 rw [Try.ntmps133]
 have z1:((0:Int) != 0) = false:=rfl
 simp -implicitDefEqProofs (maxSteps:=1000000) (disch:=omega) only [↓zzP,zzA,zzL,zzB,Nat.reduceSub,reduceIte,reduceCtorEq,Nat.reduceLT,↓reduceIte,Nat.reduceEqDiff,Nat.reduceLeDiff,Nat.reduceAdd,↓gd,↓opP,↓qv,slot,putS,putO,ofV,fldA,rdF,Ent.row,ldS,sz,binH,binS2,binS,tupS,res133,z1,hk]
 repeat (refine ⟨by omega,?_⟩)
 refine c158 bs h k d e w N F hr hN hF hl kr hlt q hq most hm _ (fun er he H1 v hE1=>?_) (fun X v hv he H1 m F2 hE1 hm1 hrow hrel=>?_)
 ·have hk1:=hE1.look hk (by simp) fun h=>h
  have hr1:=hE1.look hr (by simp) fun h=>h
  have hEk:Ext (fun j=>j = kr) h H1:=hE1.mono fun _ h=>h.elim
  have hl1:=lookH_lt hk1 (by simp)
  have z2:(er != 0) = true:=bne_iff_ne.2 (tl_err hqe he)
  simp -implicitDefEqProofs (maxSteps:=1000000) (disch:=omega) only [↓zzP,zzA,reduceIte,reduceCtorEq,Nat.reduceLT,↓reduceIte,Nat.reduceEqDiff,Nat.reduceAdd,↓gd,↓opP,↓qv,slot,putS,putO]
  repeat (refine ⟨by omega,?_⟩)
  refine callP_skipE bs H1 kr k d e w N F dp 0 hk1 v er (tl_err hqe he) _ ?_
  simp -implicitDefEqProofs (maxSteps:=1000000) (disch:=omega) only [↓zzP,zzA,reduceIte,Nat.reduceLT,↓reduceIte,Nat.reduceEqDiff,↓gd,↓opP,↓qv,slot,putS,putO]
  repeat (refine ⟨by omega,?_⟩)
  refine intoR_refl (by rw [putH_len]; exact hE1.1) (hE er he _ _ _ (hEk.put (p:=kr) _ (.inl rfl)) (lookH_put_same _ hl1) (RdB.put ⟨k,d,e,w,N,F,rfl,hr1,hN,hF⟩ hk1 _))
 ·have hk1:=hE1.look hk (by simp) fun h=>h
  have hr1:=hE1.look hr (by simp) fun h=>h
  have hEk:Ext (fun j=>j = kr) h H1:=hE1.mono fun _ h=>h.elim
  have hl1:=lookH_lt hk1 (by simp)
  simp -implicitDefEqProofs (maxSteps:=1000000) (disch:=omega) only [↓zzP,zzA,reduceIte,reduceCtorEq,Nat.reduceLT,↓reduceIte,Nat.reduceEqDiff,Nat.reduceAdd,↓gd,↓opP,↓qv,slot,putS,putO]
  repeat (refine ⟨by omega,?_⟩)
  refine c131 bs H1 kr k d e w N F dp 0 hk1 hr1 hN hF hl v hv _ fun d'=>?_
  simp -implicitDefEqProofs (maxSteps:=1000000) (disch:=omega) only [↓zzP,zzA,reduceIte,Nat.reduceLT,↓reduceIte,Nat.reduceEqDiff,↓gd,↓opP,↓qv,slot,putS,putO]
  repeat (refine ⟨by omega,?_⟩)
  have hmk:m ≠ kr:=ne_cr hk1 hrow
  refine intoR_refl (by rw [putH_len]; exact hE1.1) (hO X _ he (by rw [List.length_drop]; omega) _ _ m F2 (hEk.put (p:=kr) _ (.inl rfl)) (lookH_put_same _ hl1) (RdB.put (RdB.drop hr1 hN hF v d' hv) hk1 _) hm1 (by rw [lookH_put_ne _ hmk]; exact hrow) fun i hi=>RelM.mono _ _ _ _ (extR_cells _ hk1) (hrel i hi))
set_option maxHeartbeats 4000000 in
theorem c135x (h:List Chunk) (kr k d e n:Nat) (dp er:Int) (hk:lookH h kr = .cells true [.osl k d e 1 n,.int .i64 dp,.int .i64 er]) (he:er ≠ 0) (most:Int) (fv:SV) (K:Tok→SV→List Chunk→Prop) (hK:K .mk (.v (.slice none 0 0)) h):callP Try.prog 135 [.ptr kr 0,.int .i64 most,fv] h K:=by
 have z1:(er != 0) = true:=bne_iff_ne.2 he
 refine callP_of_code tabOk Try.func135 (by kernel_rfl) rfl (Nat.le_of_ble_eq_true rfl) (codeP_of_vc (pl:=np) tabOk follows_mixed (by kernel_rfl) ?_)
 rw [Try.ntmps135]
 simp -implicitDefEqProofs (maxSteps:=1000000) (disch:=omega) only [↓zzP,zzA,zzL,zzB,Nat.reduceSub,reduceIte,reduceCtorEq,Nat.reduceLT,↓reduceIte,Nat.reduceLeDiff,Nat.reduceAdd,↓gd,↓opP,↓qv,slot,putS,putO,ofV,fldA,rdF,Ent.row,ldS,sz,binH,binS2,binS,tupS,res135,z1,hk]
 repeat (refine ⟨by omega,?_⟩)
 exact intoR_refl (Nat.le_refl _) hK
set_option maxHeartbeats 4000000 in
theorem c135 (bs:List By) (h:List Chunk) (kr:Nat) (sv:SV) (dp:Int) (hk:lookH h kr = .cells true [sv,.int .i64 dp,.int .i64 0]) (hB:RdB h sv bs) (hl:bs.length≤35184372088832) (q:List By→Except Int ((Msg × List Msg) × Nat)) (hq:QAt 136 kr h RelP ErrP q) (hqe:∀ b er,q b = .error er→er ≠ 0) (most:Nat) (hm:most≤1024) (K:Tok→SV→List Chunk→Prop) (hE:∀ e2,tl q most bs = .error e2→∀ H sv' bs',Ext (fun j=>j = kr) h H→lookH H kr = .cells true [sv',.int .i64 dp,.int .i64 e2]→RdB H sv' bs'→K .mk (.v (.slice none 0 0)) H) (hO:∀ X r,tl q most bs = .ok (X,r)→r.length≤bs.length→∀ H sv' m (F2:Nat→List SV),Ext (fun j=>j = kr) h H→lookH H kr = .cells true [sv',.int .i64 dp,.int .i64 0]→RdB H sv' r→h.length≤m→lookH H m = .row true X.length 74 (fun i=>.agg (F2 i))→(∀ i (hi:i < X.length),RelP (fresh h.length H) X[i] (.agg (F2 i)))→K .mk (.osl m 0 0 74 X.length) H):callP Try.prog 135 [.ptr kr 0,.int .i64 (most:Nat),.fn (.func 136) [.ptr kr 0] []] h K:=by
 obtain ⟨k,d,e,w,N,F,rfl,hr,hN,hF⟩:=hB
 have hlt:=lookH_lt hk (by simp)
 have hkk:=ne_cr hk hr
 refine callP_of_code tabOk Try.func135 (by kernel_rfl) rfl (Nat.le_of_ble_eq_true rfl) (codeP_of_vc (pl:=np) tabOk follows_mixed (by kernel_rfl) ?_)
 rw [Try.ntmps135]
 have z1:((0:Int) != 0) = false:=rfl
 simp -implicitDefEqProofs (maxSteps:=1000000) (disch:=omega) only [↓zzP,zzA,zzL,zzB,Nat.reduceSub,reduceIte,reduceCtorEq,Nat.reduceLT,↓reduceIte,Nat.reduceEqDiff,Nat.reduceLeDiff,Nat.reduceAdd,↓gd,↓opP,↓qv,slot,putS,putO,ofV,fldA,rdF,Ent.row,ldS,sz,binH,binS2,binS,tupS,res135,z1,hk]
 repeat (refine ⟨by omega,?_⟩)
 refine c159 bs h k d e w N F hr hN hF hl kr hlt q hq most hm _ (fun er he H1 v hE1=>?_) (fun X v hv he H1 m F2 hE1 hm1 hrow hrel=>?_)
 ·have hk1:=hE1.look hk (by simp) fun h=>h
  have hr1:=hE1.look hr (by simp) fun h=>h
  have hEk:Ext (fun j=>j = kr) h H1:=hE1.mono fun _ h=>h.elim
  have hl1:=lookH_lt hk1 (by simp)
  have z2:(er != 0) = true:=bne_iff_ne.2 (tl_err hqe he)
  simp -implicitDefEqProofs (maxSteps:=1000000) (disch:=omega) only [↓zzP,zzA,reduceIte,reduceCtorEq,Nat.reduceLT,↓reduceIte,Nat.reduceEqDiff,Nat.reduceAdd,↓gd,↓opP,↓qv,slot,putS,putO]
  repeat (refine ⟨by omega,?_⟩)
  refine callP_skipE bs H1 kr k d e w N F dp 0 hk1 v er (tl_err hqe he) _ ?_
  simp -implicitDefEqProofs (maxSteps:=1000000) (disch:=omega) only [↓zzP,zzA,reduceIte,Nat.reduceLT,↓reduceIte,Nat.reduceEqDiff,↓gd,↓opP,↓qv,slot,putS,putO]
  repeat (refine ⟨by omega,?_⟩)
  refine intoR_refl (by rw [putH_len]; exact hE1.1) (hE er he _ _ _ (hEk.put (p:=kr) _ (.inl rfl)) (lookH_put_same _ hl1) (RdB.put ⟨k,d,e,w,N,F,rfl,hr1,hN,hF⟩ hk1 _))
 ·have hk1:=hE1.look hk (by simp) fun h=>h
  have hr1:=hE1.look hr (by simp) fun h=>h
  have hEk:Ext (fun j=>j = kr) h H1:=hE1.mono fun _ h=>h.elim
  have hl1:=lookH_lt hk1 (by simp)
  simp -implicitDefEqProofs (maxSteps:=1000000) (disch:=omega) only [↓zzP,zzA,reduceIte,reduceCtorEq,Nat.reduceLT,↓reduceIte,Nat.reduceEqDiff,Nat.reduceAdd,↓gd,↓opP,↓qv,slot,putS,putO]
  repeat (refine ⟨by omega,?_⟩)
  refine c131 bs H1 kr k d e w N F dp 0 hk1 hr1 hN hF hl v hv _ fun d'=>?_
  simp -implicitDefEqProofs (maxSteps:=1000000) (disch:=omega) only [↓zzP,zzA,reduceIte,Nat.reduceLT,↓reduceIte,Nat.reduceEqDiff,↓gd,↓opP,↓qv,slot,putS,putO]
  repeat (refine ⟨by omega,?_⟩)
  have hmk:m ≠ kr:=ne_cr hk1 hrow
  refine intoR_refl (by rw [putH_len]; exact hE1.1) (hO X _ he (by rw [List.length_drop]; omega) _ _ m F2 (hEk.put (p:=kr) _ (.inl rfl)) (lookH_put_same _ hl1) (RdB.put (RdB.drop hr1 hN hF v d' hv) hk1 _) hm1 (by rw [lookH_put_ne _ hmk]; exact hrow) fun i hi=>RelP.mono _ _ _ _ (extR_cells _ hk1) (hrel i hi))
end Go.Proofs.Ytgocfglmideobaa
set_option linter.all false
set_option maxRecDepth 40000
namespace Go.Proofs.Ytgocfglmideobaa
open Go Go.Sx
def r11 (k f v s:Int) (d:Nat→By) (b:List By) (bs:List (List By)) (p:List Msg) (q:List (Msg × List Msg)) (key:Int) (of:Nat→By) (r:List By):Except Int Msg :=
 if 0 < r.length then .error 4 else .ok (.mk k f v s d b bs p q key of)
def r10 (k f v s:Int) (d:Nat→By) (b:List By) (bs:List (List By)) (p:List Msg) (q:List (Msg × List Msg)) (key:Int) (r:List By):Except Int Msg :=
 match pDig r with | .error e=>.error e | .ok (of,r')=>r11 k f v s d b bs p q key of r'
def r9 (k f v s:Int) (d:Nat→By) (b:List By) (bs:List (List By)) (p:List Msg) (q:List (Msg × List Msg)) (r:List By):Except Int Msg :=
 match pInt r with | .error e=>.error e | .ok (key,r')=>r10 k f v s d b bs p q key r'
def qPf (qm:List By→Except Int (Msg × Nat)) (bs:List By):Except Int ((Msg × List Msg) × Nat) :=
 match qm bs with
 | .error e=>.error e
 | .ok (m,k)=>match tl qm 64 (bs.drop k) with
  | .error e=>.error e
  | .ok (l,r)=>.ok ((m,l),bs.length - r.length)
def r8 (qm:List By→Except Int (Msg × Nat)) (k f v s:Int) (d:Nat→By) (b:List By) (bs:List (List By)) (p:List Msg) (r:List By):Except Int Msg :=
 match tl (qPf qm) 64 r with | .error e=>.error e | .ok (q,r')=>r9 k f v s d b bs p q r'
def r7 (qm:List By→Except Int (Msg × Nat)) (k f v s:Int) (d:Nat→By) (b:List By) (bs:List (List By)) (r:List By):Except Int Msg :=
 match tl qm 64 r with | .error e=>.error e | .ok (p,r')=>r8 qm k f v s d b bs p r'
def r6 (qm:List By→Except Int (Msg × Nat)) (k f v s:Int) (d:Nat→By) (b:List By) (r:List By):Except Int Msg :=
 match tl (fun b=>tb b 8192) 512 r with | .error e=>.error e | .ok (bs,r')=>r7 qm k f v s d b bs r'
def r5 (qm:List By→Except Int (Msg × Nat)) (k f v s:Int) (d:Nat→By) (r:List By):Except Int Msg :=
 match tb r 8192 with | .error e=>.error e | .ok (b,u)=>r6 qm k f v s d b (r.drop u)
def r4 (qm:List By→Except Int (Msg × Nat)) (k f v s:Int) (r:List By):Except Int Msg :=
 match pDig r with | .error e=>.error e | .ok (d,r')=>r5 qm k f v s d r'
def r3 (qm:List By→Except Int (Msg × Nat)) (k f v:Int) (r:List By):Except Int Msg :=
 match pNum r with | .error e=>.error e | .ok (s,r')=>r4 qm k f v s r'
def r2 (qm:List By→Except Int (Msg × Nat)) (k f:Int) (r:List By):Except Int Msg :=
 match pNum r with | .error e=>.error e | .ok (v,r')=>r3 qm k f v r'
def r1 (qm:List By→Except Int (Msg × Nat)) (k:Int) (r:List By):Except Int Msg :=
 match pInt r with | .error e=>.error e | .ok (f,r')=>r2 qm k f r'
def rdMsg (qm:List By→Except Int (Msg × Nat)) (r:List By):Except Int Msg :=
 match pKind r with | .error e=>.error e | .ok (k,r')=>r1 qm k r'
def qM:Nat→List By→Except Int (Msg × Nat)
 | 0,_=>.error 4
 | D+1,bs=>match tb bs 1048576 with
  | .error e=>.error e
  | .ok (s,u)=>match rdMsg (qM D) s with
   | .error e=>.error e
   | .ok m=>.ok (m,u)
theorem pKind_ne {bs:List By} {er:Int} (h:pKind bs = .error er):er ≠ 0:=by
 unfold pKind at h
 split at h <;> cases h
 decide
theorem pInt_ne {bs:List By} {er:Int} (h:pInt bs = .error er):er ≠ 0:=by
 unfold pInt at h
 split at h
 ·rename_i e he
  cases h
  exact tk_ne he
 ·cases h
theorem pNum_ne {bs:List By} {er:Int} (h:pNum bs = .error er):er ≠ 0:=by
 unfold pNum at h
 split at h
 ·rename_i e he
  cases h
  exact tk_ne he
 ·split at h <;> cases h
  decide
theorem pDig_ne {bs:List By} {er:Int} (h:pDig bs = .error er):er ≠ 0:=by
 unfold pDig at h
 split at h <;> cases h
 decide
theorem qPf_ne {qm:List By→Except Int (Msg × Nat)} (hq:∀ b er,qm b = .error er→er ≠ 0):∀ b er,qPf qm b = .error er→er ≠ 0:=fun b er h=>by
 unfold qPf at h
 split at h
 ·rename_i e he
  cases h
  exact hq _ _ he
 ·split at h
  ·rename_i e he
   cases h
   exact tl_err hq he
  ·cases h
theorem rdMsg_ne {qm:List By→Except Int (Msg × Nat)} (hq:∀ b er,qm b = .error er→er ≠ 0):∀ b er,rdMsg qm b = .error er→er ≠ 0:=fun b er h=>by
 unfold rdMsg at h
 split at h
 ·rename_i e he; cases h; exact pKind_ne he
 unfold r1 at h
 split at h
 ·rename_i e he; cases h; exact pInt_ne he
 unfold r2 at h
 split at h
 ·rename_i e he; cases h; exact pNum_ne he
 unfold r3 at h
 split at h
 ·rename_i e he; cases h; exact pNum_ne he
 unfold r4 at h
 split at h
 ·rename_i e he; cases h; exact pDig_ne he
 unfold r5 at h
 split at h
 ·rename_i e he; cases h; exact tb_err he
 unfold r6 at h
 split at h
 ·rename_i e he; cases h; exact tl_err (fun b er h=>tb_err h) he
 unfold r7 at h
 split at h
 ·rename_i e he; cases h; exact tl_err hq he
 unfold r8 at h
 split at h
 ·rename_i e he; cases h; exact tl_err (qPf_ne hq) he
 unfold r9 at h
 split at h
 ·rename_i e he; cases h; exact pInt_ne he
 unfold r10 at h
 split at h
 ·rename_i e he; cases h; exact pDig_ne he
 unfold r11 at h
 split at h
 ·cases h; decide
 ·cases h
theorem qM_ne:∀ D b er,qM D b = .error er→er ≠ 0
 | 0,b,er,h=>by rw [qM] at h; cases h; decide
 | D+1,b,er,h=>by
  rw [qM] at h
  split at h
  ·rename_i e he; cases h; exact tb_err he
  ·split at h
   ·rename_i e he; cases h; exact rdMsg_ne (qM_ne D) _ _ he
   ·cases h
theorem lp_le {α:Type} {q:List By→Except Int (α × Nat)}:∀ {n:Nat} {bs r:List By} {X:List α},lp q n bs = .ok (X,r)→r.length≤bs.length
 | 0,bs,r,X,h=>by rw [lp] at h; cases h; exact Nat.le_refl _
 | n+1,bs,r,X,h=>by
  rw [lp] at h
  split at h
  ·cases h
  ·split at h
   ·cases h
   ·rename_i x y
    cases h
    have:=lp_le y
    rw [List.length_drop] at this
    omega
theorem tl_le {α:Type} {q:List By→Except Int (α × Nat)} {most:Nat} {bs r:List By} {X:List α} (h:tl q most bs = .ok (X,r)):r.length < bs.length:=by
 unfold tl at h
 split at h
 ·cases h
 ·rename_i n u he
  have hu:=tk_ok he
  split at h
  ·cases h
  ·have:=lp_le h
   rw [List.length_drop] at this
   omega
theorem qM_ok {D:Nat} {b:List By} {c:Msg} {v:Nat} (h:qM D b = .ok (c,v)):0 < v∧v≤b.length:=by
 cases D with
 | zero=>rw [qM] at h; cases h
 | succ D =>
  rw [qM] at h
  split at h
  ·cases h
  ·rename_i s u he
   split at h
   ·cases h
   ·cases h
    have:=tb_ok he
    exact ⟨this.1,this.2.1⟩
end Go.Proofs.Ytgocfglmideobaa
set_option linter.all false
set_option maxRecDepth 40000
namespace Go.Proofs.Ytgocfglmideobaa
open Go Go.Sx
theorem res137:Try.f137.results.toList = [.tmp 2]:=rfl
theorem res138:Try.f138.results.toList = [.tmp 2]:=rfl
theorem res139:Try.f139.results.toList = [.tmp 6]:=rfl
theorem res141:Try.f141.results.toList = [.tmp 4]:=rfl
theorem res143:Try.f143.results.toList = []:=rfl
theorem res163:Try.f163.results.toList = []:=rfl
def pByte (bs:List By):Except Int (By × List By):=match bs with | []=>.error 3 | b :: r=>.ok (b,r)
def pNumM (most:Nat) (over:Int) (bs:List By):Except Int (BitVec 64 × List By):=match tk bs with | .error e=>.error e | .ok (n,u)=>if n.toNat > most then .error over else .ok (n,bs.drop u)
theorem pNumM_e {most:Nat} {over:Int} {bs:List By} {er:Int} (h:tk bs = .error er):pNumM most over bs = .error er:=by unfold pNumM; rw [h]
theorem pNumM_o {most:Nat} {over:Int} {bs:List By} {n:BitVec 64} {u:Nat} (h:tk bs = .ok (n,u)):pNumM most over bs = if n.toNat > most then .error over else .ok (n,bs.drop u):=by unfold pNumM; rw [h]
def pBytes (most:Nat) (bs:List By):Except Int (List By × List By):=match tb bs most with | .error e=>.error e | .ok (b,u)=>.ok (b,bs.drop u)
theorem pBytes_e {most:Nat} {bs:List By} {er:Int} (h:tb bs most = .error er):pBytes most bs = .error er:=by unfold pBytes; rw [h]
theorem pBytes_o {most:Nat} {bs b:List By} {u:Nat} (h:tb bs most = .ok (b,u)):pBytes most bs = .ok (b,bs.drop u):=by unfold pBytes; rw [h]
theorem c137x (h:List Chunk) (kr k d e n:Nat) (er:Int) (hk:lookH h kr = .cells true [.osl k d e 1 n,.int .i64 er]) (he:er ≠ 0) (K:Tok→SV→List Chunk→Prop) (hK:K .mk (.int .u8 0) h):callP Try.prog 137 [.ptr kr 0] h K:=by
 have z1:(er != 0) = true:=bne_iff_ne.2 he
 have z2:(er == 0) = false:=beq_eq_false_iff_ne.2 he
 refine callP_of_code tabOk Try.func137 (by kernel_rfl) rfl (Nat.le_of_ble_eq_true rfl) (codeP_of_vc (pl:=np) tabOk follows_mixed (by kernel_rfl) ?_)
 rw [Try.ntmps137]
 simp -implicitDefEqProofs (maxSteps:=1000000) (disch:=omega) only [↓zzP,zzA,zzL,zzB,reduceIte,reduceCtorEq,Nat.reduceLT,↓reduceIte,Nat.reduceLeDiff,↓gd,↓opP,↓qv,slot,putS,putO,ofV,fldA,rdF,Ent.row,ldS,sz,binH,binS2,binS,tupS,res137,z1,hk]
 repeat (refine ⟨by omega,?_⟩)
 exact intoR_refl (Nat.le_refl _) hK
theorem c138x (h:List Chunk) (kr k d e n:Nat) (er:Int) (hk:lookH h kr = .cells true [.osl k d e 1 n,.int .i64 er]) (he:er ≠ 0) (K:Tok→SV→List Chunk→Prop) (hK:K .mk (.int .i64 0) h):callP Try.prog 138 [.ptr kr 0] h K:=by
 have z1:(er != 0) = true:=bne_iff_ne.2 he
 have z2:(er == 0) = false:=beq_eq_false_iff_ne.2 he
 refine callP_of_code tabOk Try.func138 (by kernel_rfl) rfl (Nat.le_of_ble_eq_true rfl) (codeP_of_vc (pl:=np) tabOk follows_mixed (by kernel_rfl) ?_)
 rw [Try.ntmps138]
 simp -implicitDefEqProofs (maxSteps:=1000000) (disch:=omega) only [↓zzP,zzA,zzL,zzB,reduceIte,reduceCtorEq,Nat.reduceLT,↓reduceIte,Nat.reduceLeDiff,↓gd,↓opP,↓qv,slot,putS,putO,ofV,fldA,rdF,Ent.row,ldS,sz,binH,binS2,binS,tupS,res138,z1,hk]
 repeat (refine ⟨by omega,?_⟩)
 exact intoR_refl (Nat.le_refl _) hK
theorem c139x (h:List Chunk) (kr k d e n:Nat) (er:Int) (hk:lookH h kr = .cells true [.osl k d e 1 n,.int .i64 er]) (he:er ≠ 0) (most:Nat) (over:Int) (K:Tok→SV→List Chunk→Prop) (hK:K .mk (.int .u64 0) h):callP Try.prog 139 [.ptr kr 0,.int .u64 (most:Nat),.int .i64 over] h K:=by
 have z1:(er != 0) = true:=bne_iff_ne.2 he
 have z2:(er == 0) = false:=beq_eq_false_iff_ne.2 he
 refine callP_of_code tabOk Try.func139 (by kernel_rfl) rfl (Nat.le_of_ble_eq_true rfl) (codeP_of_vc (pl:=np) tabOk follows_mixed (by kernel_rfl) ?_)
 rw [Try.ntmps139]
 simp -implicitDefEqProofs (maxSteps:=1000000) (disch:=omega) only [↓zzP,zzA,zzL,zzB,reduceIte,reduceCtorEq,Nat.reduceLT,↓reduceIte,Nat.reduceLeDiff,Nat.reduceAdd,↓gd,↓opP,↓qv,slot,putS,putO,ofV,fldA,rdF,Ent.row,ldS,sz,binH,binS2,binS,tupS,res139,z1,hk]
 repeat (refine ⟨by omega,?_⟩)
 exact intoR_refl (Nat.le_refl _) hK
theorem c141x (h:List Chunk) (kr k d e n:Nat) (er:Int) (hk:lookH h kr = .cells true [.osl k d e 1 n,.int .i64 er]) (he:er ≠ 0) (most:Int) (K:Tok→SV→List Chunk→Prop) (hK:K .mk (.v (.slice none 0 0)) h):callP Try.prog 141 [.ptr kr 0,.int .i64 most] h K:=by
 have z1:(er != 0) = true:=bne_iff_ne.2 he
 have z2:(er == 0) = false:=beq_eq_false_iff_ne.2 he
 refine callP_of_code tabOk Try.func141 (by kernel_rfl) rfl (Nat.le_of_ble_eq_true rfl) (codeP_of_vc (pl:=np) tabOk follows_mixed (by kernel_rfl) ?_)
 rw [Try.ntmps141]
 simp -implicitDefEqProofs (maxSteps:=1000000) (disch:=omega) only [↓zzP,zzA,zzL,zzB,reduceIte,reduceCtorEq,Nat.reduceLT,↓reduceIte,Nat.reduceLeDiff,Nat.reduceAdd,↓gd,↓opP,↓qv,slot,putS,putO,ofV,fldA,rdF,Ent.row,ldS,sz,binH,binS2,binS,tupS,res141,z1,hk]
 repeat (refine ⟨by omega,?_⟩)
 exact intoR_refl (Nat.le_refl _) hK
theorem c143x (h:List Chunk) (kr k d e n:Nat) (er:Int) (hk:lookH h kr = .cells true [.osl k d e 1 n,.int .i64 er]) (he:er ≠ 0) (K:Tok→SV→List Chunk→Prop) (hK:K .mk (.tup []) h):callP Try.prog 143 [.ptr kr 0] h K:=by
 have z1:(er != 0) = true:=bne_iff_ne.2 he
 have z2:(er == 0) = false:=beq_eq_false_iff_ne.2 he
 refine callP_of_code tabOk Try.func143 (by kernel_rfl) rfl (Nat.le_of_ble_eq_true rfl) (codeP_of_vc (pl:=np) tabOk follows_mixed (by kernel_rfl) ?_)
 rw [Try.ntmps143]
 simp -implicitDefEqProofs (maxSteps:=1000000) (disch:=omega) only [↓zzP,zzA,zzL,zzB,reduceIte,reduceCtorEq,Nat.reduceLT,↓reduceIte,Nat.reduceEqDiff,Nat.reduceLeDiff,Array.reduceGetElem?,↓gd,↓opP,↓qv,slot,putS,putO,ofV,fldA,rdF,Ent.row,ldS,sz,binH,binS2,binS,tupS,res143,z2,hk]
 repeat (refine ⟨by omega,?_⟩)
 exact intoR_refl (Nat.le_refl _) hK
set_option maxHeartbeats 4000000 in
theorem c137 (bs:List By) (h:List Chunk) (kr:Nat) (sv:SV) (hk:lookH h kr = .cells true [sv,.int .i64 0]) (hB:RdB h sv bs) (hl:bs.length≤35184372088832) (K:Tok→SV→List Chunk→Prop) (hE:∀ e2,pByte bs = .error e2→∀ H sv' bs',Ext (fun j=>j = kr) h H→lookH H kr = .cells true [sv',.int .i64 e2]→RdB H sv' bs'→K .mk (.int .u8 0) H) (hO:∀ x bs',pByte bs = .ok (x,bs')→∀ H sv',Ext (fun j=>j = kr) h H→lookH H kr = .cells true [sv',.int .i64 0]→RdB H sv' bs'→K .mk (.int .u8 (nat x)) H):callP Try.prog 137 [.ptr kr 0] h K:=by
 obtain ⟨k,d,e,w,N,F,rfl,hr,hN,hF⟩:=hB
 have hlt:=lookH_lt hk (by simp)
 have hkk:=ne_cr hk hr
 refine callP_of_code tabOk Try.func137 (by kernel_rfl) rfl (Nat.le_of_ble_eq_true rfl) (codeP_of_vc (pl:=np) tabOk follows_mixed (by kernel_rfl) ?_)
 rw [Try.ntmps137]
 have z0:((0:Int) != 0) = false:=rfl
 cases bs with
 | nil =>
  have z1:((0:Int) == 0) = true:=rfl
  simp -implicitDefEqProofs (maxSteps:=1000000) (disch:=omega) only [↓zzP,zzA,zzL,zzB,reduceIte,reduceCtorEq,Nat.reduceLT,↓reduceIte,Nat.reduceLeDiff,↓gd,↓opP,↓qv,↓ef,↓stS,slot,putS,putO,ofV,fldA,lenS,rdF,Ent.row,ldS,sz,wrF,binH,binS2,binS,tupS,stor,res137,z0,z1,hk]
  repeat (refine ⟨by omega,?_⟩)
  exact intoR_refl (by rw [putH_len]; exact Nat.le_refl _) (hE 3 rfl _ _ _ ((Ext.refl _ _).put _ (.inl rfl)) (lookH_put_same _ hlt) (RdB.put ⟨k,d,e,w,N,F,rfl,hr,hN,hF⟩ hk _))
 | cons b bs =>
  have z1:(((bs.length+1:Nat):Int) == 0) = false:=by rw [beq_eq_false_iff_ne]; omega
  rw [List.length_cons] at hN hl
  have hb:=hF 0 (by simp)
  rw [Nat.add_zero] at hb
  have hb2:F e = .int .u8 (nat b):=hb
  simp -implicitDefEqProofs (maxSteps:=1000000) (disch:=omega) only [↓zzP,zzA,zzL,zzB,reduceIte,reduceCtorEq,Nat.reduceLT,Int.reduceLE,↓reduceIte,Nat.reduceEqDiff,Nat.reduceLeDiff,Int.reduceToNat,↓gd,↓opP,↓qv,↓ef,↓stS,slot,putS,putO,ofV,fldA,idxA,bnd,slS,lenS,rdF,Ent.row,ldS,sz,wrF,binH,binS2,binS,tupS,stor,res137,z0,z1,hk,hr,hb2]
  repeat (refine ⟨by omega,?_⟩)
  exact intoR_refl (by rw [putH_len]; exact Nat.le_refl _) (hO _ _ rfl _ _ ((Ext.refl _ _).put _ (.inl rfl)) (lookH_put_same _ hlt) (RdB.put (RdB.drop (bs:=b :: bs) hr hN hF 1 e (by simp)) hk _))
set_option maxHeartbeats 4000000 in
theorem c138 (bs:List By) (h:List Chunk) (kr:Nat) (sv:SV) (hk:lookH h kr = .cells true [sv,.int .i64 0]) (hB:RdB h sv bs) (hl:bs.length≤35184372088832) (K:Tok→SV→List Chunk→Prop) (hE:∀ e2,pInt bs = .error e2→∀ H sv' bs',Ext (fun j=>j = kr) h H→lookH H kr = .cells true [sv',.int .i64 e2]→RdB H sv' bs'→K .mk (.int .i64 0) H) (hO:∀ x bs',pInt bs = .ok (x,bs')→∀ H sv',Ext (fun j=>j = kr) h H→lookH H kr = .cells true [sv',.int .i64 0]→RdB H sv' bs'→K .mk (.int .i64 x) H):callP Try.prog 138 [.ptr kr 0] h K:=by
 obtain ⟨k,d,e,w,N,F,rfl,hr,hN,hF⟩:=hB
 have hlt:=lookH_lt hk (by simp)
 have hkk:=ne_cr hk hr
 refine callP_of_code tabOk Try.func138 (by kernel_rfl) rfl (Nat.le_of_ble_eq_true rfl) (codeP_of_vc (pl:=np) tabOk follows_mixed (by kernel_rfl) ?_)
 rw [Try.ntmps138]
 have z0:((0:Int) != 0) = false:=rfl
 simp -implicitDefEqProofs (maxSteps:=1000000) (disch:=omega) only [↓zzP,zzA,zzL,zzB,reduceIte,reduceCtorEq,Nat.reduceLT,↓reduceIte,Nat.reduceLeDiff,↓gd,↓opP,↓qv,slot,putS,putO,ofV,fldA,rdF,Ent.row,ldS,sz,binH,binS2,binS,tupS,res138,z0,hk]
 repeat (refine ⟨by omega,?_⟩)
 refine c160 bs h k d e w N F hr hN hF hl _ (fun er he=>?_) (fun n u he=>?_)
 ·have z1:(er != 0) = true:=bne_iff_ne.2 (tk_ne he)
  simp -implicitDefEqProofs (maxSteps:=1000000) (disch:=omega) only [↓zzP,zzA,zzL,zzB,reduceIte,reduceCtorEq,Nat.reduceLT,↓reduceIte,Nat.reduceEqDiff,Nat.reduceLeDiff,Nat.reduceAdd,↓gd,↓opP,↓qv,↓ef,↓stS,slot,putS,putO,ofV,fldA,sz,wrF,binH,binS2,binS,stor,z1,hk]
  repeat (refine ⟨by omega,?_⟩)
  exact intoR_refl (by rw [putH_len]; exact Nat.le_refl _) (hE er (pInt_e he) _ _ _ ((Ext.refl _ _).put _ (.inl rfl)) (lookH_put_same _ hlt) (RdB.put ⟨k,d,e,w,N,F,rfl,hr,hN,hF⟩ hk _))
 ·have hu:=tk_ok he
  simp -implicitDefEqProofs (maxSteps:=1000000) (disch:=omega) only [↓zzP,zzA,zzL,zzB,reduceIte,reduceCtorEq,Nat.reduceLT,↓reduceIte,Nat.reduceEqDiff,Nat.reduceLeDiff,Nat.reduceAdd,↓gd,↓opP,↓qv,↓ef,↓stS,slot,putS,putO,ofV,fldA,bnd,slS,rdF,Ent.row,ldS,sz,wrF,binH,binS2,binS,stor,z0,hk,hr]
  repeat (refine ⟨by omega,?_⟩)
  exact intoR_refl (by rw [putH_len]; exact Nat.le_refl _) (hO _ _ (pInt_o he) _ _ ((Ext.refl _ _).put _ (.inl rfl)) (lookH_put_same _ hlt) (RdB.put (RdB.drop hr hN hF u _ hu.2.1) hk _))
set_option maxHeartbeats 4000000 in
theorem c139 (bs:List By) (h:List Chunk) (kr:Nat) (sv:SV) (hk:lookH h kr = .cells true [sv,.int .i64 0]) (hB:RdB h sv bs) (hl:bs.length≤35184372088832) (most:Nat) (over:Int) (hov:over ≠ 0) (K:Tok→SV→List Chunk→Prop) (hE:∀ e2,pNumM most over bs = .error e2→∀ H sv' bs',Ext (fun j=>j = kr) h H→lookH H kr = .cells true [sv',.int .i64 e2]→RdB H sv' bs'→K .mk (.int .u64 0) H) (hO:∀ x bs',pNumM most over bs = .ok (x,bs')→∀ H sv',Ext (fun j=>j = kr) h H→lookH H kr = .cells true [sv',.int .i64 0]→RdB H sv' bs'→K .mk (.int .u64 (nat x)) H):callP Try.prog 139 [.ptr kr 0,.int .u64 (most:Nat),.int .i64 over] h K:=by
 obtain ⟨k,d,e,w,N,F,rfl,hr,hN,hF⟩:=hB
 have hlt:=lookH_lt hk (by simp)
 have hkk:=ne_cr hk hr
 refine callP_of_code tabOk Try.func139 (by kernel_rfl) rfl (Nat.le_of_ble_eq_true rfl) (codeP_of_vc (pl:=np) tabOk follows_mixed (by kernel_rfl) ?_)
 rw [Try.ntmps139]
 have z0:((0:Int) != 0) = false:=rfl
 have z9:((0:Int) == 0) = true:=rfl
 simp -implicitDefEqProofs (maxSteps:=1000000) (disch:=omega) only [↓zzP,zzA,zzL,zzB,reduceIte,reduceCtorEq,Nat.reduceLT,↓reduceIte,Nat.reduceLeDiff,Nat.reduceAdd,↓gd,↓opP,↓qv,slot,putS,putO,ofV,fldA,rdF,Ent.row,ldS,sz,binH,binS2,binS,tupS,res139,z0,hk]
 repeat (refine ⟨by omega,?_⟩)
 refine c161 bs h k d e w N F hr hN hF hl _ (fun er he=>?_) (fun n u he=>?_)
 ·have z1:(er != 0) = true:=bne_iff_ne.2 (tk_ne he)
  have z2:(er == 0) = false:=beq_eq_false_iff_ne.2 (tk_ne he)
  simp -implicitDefEqProofs (maxSteps:=1000000) (disch:=omega) only [↓zzP,zzA,zzL,zzB,reduceIte,reduceCtorEq,Nat.reduceLT,↓reduceIte,Nat.reduceEqDiff,Nat.reduceLeDiff,Nat.reduceAdd,Array.reduceGetElem?,↓gd,↓opP,↓qv,↓ef,↓stS,slot,putS,putO,ofV,fldA,sz,wrF,binH,binS2,binS,stor,z1,z2,hk]
  repeat (refine ⟨by omega,?_⟩)
  exact intoR_refl (by rw [putH_len]; exact Nat.le_refl _) (hE er (pNumM_e he) _ _ _ ((Ext.refl _ _).put _ (.inl rfl)) (lookH_put_same _ hlt) (RdB.put ⟨k,d,e,w,N,F,rfl,hr,hN,hF⟩ hk _))
 ·have hu:=tk_ok he
  have hp:=pNumM_o (most:=most) (over:=over) he
  by_cases c:n.toNat > most
  ·have z2:decide (nat n > ((most:Nat):Int)) = true:=decide_eq_true (by unfold nat; omega)
   have z1:(over != 0) = true:=bne_iff_ne.2 hov
   rw [if_pos c] at hp
   simp -implicitDefEqProofs (maxSteps:=1000000) (disch:=omega) only [↓zzP,zzA,zzL,zzB,reduceIte,reduceCtorEq,Nat.reduceLT,↓reduceIte,Nat.reduceEqDiff,Nat.reduceLeDiff,Nat.reduceAdd,Array.reduceGetElem?,↓gd,↓opP,↓qv,↓ef,↓stS,slot,putS,putO,ofV,fldA,sz,wrF,binH,binS2,binS,stor,z9,z1,z2,hk]
   repeat (refine ⟨by omega,?_⟩)
   exact intoR_refl (by rw [putH_len]; exact Nat.le_refl _) (hE over hp _ _ _ ((Ext.refl _ _).put _ (.inl rfl)) (lookH_put_same _ hlt) (RdB.put ⟨k,d,e,w,N,F,rfl,hr,hN,hF⟩ hk _))
  ·have z2:decide (nat n > ((most:Nat):Int)) = false:=decide_eq_false (by unfold nat; omega)
   rw [if_neg c] at hp
   simp -implicitDefEqProofs (maxSteps:=1000000) (disch:=omega) only [↓zzP,zzA,zzL,zzB,reduceIte,reduceCtorEq,Nat.reduceLT,↓reduceIte,Nat.reduceEqDiff,Nat.reduceLeDiff,Nat.reduceAdd,Array.reduceGetElem?,↓gd,↓opP,↓qv,↓ef,↓stS,slot,putS,putO,ofV,fldA,bnd,slS,rdF,Ent.row,ldS,sz,wrF,binH,binS2,binS,stor,z0,z9,z2,hk,hr]
   repeat (refine ⟨by omega,?_⟩)
   exact intoR_refl (by rw [putH_len]; exact Nat.le_refl _) (hO _ _ hp _ _ ((Ext.refl _ _).put _ (.inl rfl)) (lookH_put_same _ hlt) (RdB.put (RdB.drop hr hN hF u _ hu.2.1) hk _))
end Go.Proofs.Ytgocfglmideobaa
set_option linter.all false
set_option maxRecDepth 40000
namespace Go.Proofs.Ytgocfglmideobaa
open Go Go.Sx
theorem res140:Try.f140.results.toList = [.cell 2 23]:=rfl
theorem pByte_drop {bs:List By} {i:Nat}:(bs.length≤i∧pByte (bs.drop i) = .error 3) ∨ (i < bs.length∧pByte (bs.drop i) = .ok (bs.getD i 0,bs.drop (i+1))):=by
 by_cases h:i < bs.length
 ·refine .inr ⟨h,?_⟩
  rw [List.drop_eq_getElem_cons h,pByte]
  simp [h]
 ·refine .inl ⟨by omega,?_⟩
  rw [List.drop_of_length_le (by omega),pByte]
set_option maxHeartbeats 4000000 in
theorem c141 (bs:List By) (h:List Chunk) (kr:Nat) (sv:SV) (hk:lookH h kr = .cells true [sv,.int .i64 0]) (hB:RdB h sv bs) (hl:bs.length≤35184372088832) (most:Nat) (hm:most≤1125899906842624) (K:Tok→SV→List Chunk→Prop) (hE:∀ e2,pBytes most bs = .error e2→∀ H sv' bs',Ext (fun j=>j = kr) h H→lookH H kr = .cells true [sv',.int .i64 e2]→RdB H sv' bs'→K .mk (.v (.slice none 0 0)) H) (hO:∀ x bs',pBytes most bs = .ok (x,bs')→∀ H sv' k',Ext (fun j=>j = kr) h H→lookH H kr = .cells true [sv',.int .i64 0]→RdB H sv' bs'→h.length≤k'→lookH H k' = .row true x.length 1 (bt x)→K .mk (.osl k' 0 0 1 x.length) H):callP Try.prog 141 [.ptr kr 0,.int .i64 (most:Nat)] h K:=by
 obtain ⟨k,d,e,w,N,F,rfl,hr,hN,hF⟩:=hB
 have hlt:=lookH_lt hk (by simp)
 have hkk:=ne_cr hk hr
 refine callP_of_code tabOk Try.func141 (by kernel_rfl) rfl (Nat.le_of_ble_eq_true rfl) (codeP_of_vc (pl:=np) tabOk follows_mixed (by kernel_rfl) ?_)
 rw [Try.ntmps141]
 have z0:((0:Int) != 0) = false:=rfl
 simp -implicitDefEqProofs (maxSteps:=1000000) (disch:=omega) only [↓zzP,zzA,zzL,zzB,reduceIte,reduceCtorEq,Nat.reduceLT,↓reduceIte,Nat.reduceEqDiff,Nat.reduceLeDiff,Nat.reduceAdd,↓gd,↓opP,↓qv,slot,putS,putO,ofV,fldA,rdF,Ent.row,ldS,sz,binH,binS2,binS,tupS,res141,z0,hk]
 repeat (refine ⟨by omega,?_⟩)
 refine c162 bs h k d e w N F hr hN hF hl most hm _ (fun er he=>?_) (fun x u he H1 k1 hE1 hk1 hr1=>?_)
 ·have z1:(er != 0) = true:=bne_iff_ne.2 (tb_err he)
  simp -implicitDefEqProofs (maxSteps:=1000000) (disch:=omega) only [↓zzP,zzA,zzL,zzB,reduceIte,reduceCtorEq,Nat.reduceLT,↓reduceIte,Nat.reduceEqDiff,Nat.reduceLeDiff,Nat.reduceAdd,↓gd,↓opP,↓qv,↓ef,↓stS,slot,putS,putO,ofV,fldA,sz,wrF,binH,binS2,binS,stor,z1,hk]
  repeat (refine ⟨by omega,?_⟩)
  exact intoR_refl (by rw [putH_len]; exact Nat.le_refl _) (hE er (pBytes_e he) _ _ _ ((Ext.refl _ _).put _ (.inl rfl)) (lookH_put_same _ hlt) (RdB.put ⟨k,d,e,w,N,F,rfl,hr,hN,hF⟩ hk _))
 ·have hu:=tb_ok he
  have hkx:=hE1.look hk (by simp) fun h=>h
  have hrx:=hE1.look hr (by simp) fun h=>h
  have hl1:=lookH_lt hkx (by simp)
  have hEk:Ext (fun j=>j = kr) h H1:=hE1.mono fun _ h=>h.elim
  simp -implicitDefEqProofs (maxSteps:=1000000) (disch:=omega) only [↓zzP,zzA,zzL,zzB,reduceIte,reduceCtorEq,Nat.reduceLT,↓reduceIte,Nat.reduceEqDiff,Nat.reduceLeDiff,Nat.reduceAdd,↓gd,↓opP,↓qv,↓ef,↓stS,slot,putS,putO,ofV,fldA,bnd,slS,rdF,Ent.row,ldS,sz,wrF,binH,binS2,binS,stor,z0,hkx,hrx]
  repeat (refine ⟨by omega,?_⟩)
  exact intoR_refl (by rw [putH_len]; exact hE1.1) (hO _ _ (pBytes_o he) _ _ k1 (hEk.put (p:=kr) _ (.inl rfl)) (lookH_put_same _ hl1) (RdB.put (RdB.drop hrx hN hF u _ hu.2.1) hkx _) hk1 (by rw [lookH_put_ne _ (ne_cr hkx hr1)]; exact hr1))
theorem c143 (bs:List By) (h:List Chunk) (kr:Nat) (sv:SV) (hk:lookH h kr = .cells true [sv,.int .i64 0]) (hB:RdB h sv bs) (hl:bs.length≤35184372088832) (K:Tok→SV→List Chunk→Prop) (h0:bs.length = 0→K .mk (.tup []) h) (h1:0 < bs.length→∀ H sv' bs',Ext (fun j=>j = kr) h H→lookH H kr = .cells true [sv',.int .i64 4]→RdB H sv' bs'→K .mk (.tup []) H):callP Try.prog 143 [.ptr kr 0] h K:=by
 obtain ⟨k,d,e,w,N,F,rfl,hr,hN,hF⟩:=hB
 have hlt:=lookH_lt hk (by simp)
 have hkk:=ne_cr hk hr
 refine callP_of_code tabOk Try.func143 (by kernel_rfl) rfl (Nat.le_of_ble_eq_true rfl) (codeP_of_vc (pl:=np) tabOk follows_mixed (by kernel_rfl) ?_)
 rw [Try.ntmps143]
 have z1:((0:Int) == 0) = true:=rfl
 by_cases c:0 < bs.length
 ·have z2:decide ((bs.length:Int) > 0) = true:=decide_eq_true (by omega)
  simp -implicitDefEqProofs (maxSteps:=1000000) (disch:=omega) only [↓zzP,zzA,zzL,zzB,reduceIte,reduceCtorEq,Nat.reduceLT,↓reduceIte,Nat.reduceEqDiff,Nat.reduceLeDiff,Array.reduceGetElem?,↓gd,↓opP,↓qv,↓ef,↓stS,slot,putS,putO,ofV,fldA,lenS,rdF,Ent.row,ldS,sz,wrF,binH,binS2,binS,tupS,stor,res143,z1,z2,hk]
  repeat (refine ⟨by omega,?_⟩)
  exact intoR_refl (by rw [putH_len]; exact Nat.le_refl _) (h1 c _ _ _ ((Ext.refl _ _).put _ (.inl rfl)) (lookH_put_same _ hlt) (RdB.put ⟨k,d,e,w,N,F,rfl,hr,hN,hF⟩ hk _))
 ·have z2:decide ((bs.length:Int) > 0) = false:=decide_eq_false (by omega)
  simp -implicitDefEqProofs (maxSteps:=1000000) (disch:=omega) only [↓zzP,zzA,zzL,zzB,reduceIte,reduceCtorEq,Nat.reduceLT,↓reduceIte,Nat.reduceEqDiff,Nat.reduceLeDiff,Array.reduceGetElem?,↓gd,↓opP,↓qv,slot,putS,putO,ofV,fldA,lenS,rdF,Ent.row,ldS,sz,binH,binS2,binS,tupS,res143,z1,z2,hk]
  repeat (refine ⟨by omega,?_⟩)
  exact intoR_refl (Nat.le_refl _) (h0 (by omega))
set_option maxHeartbeats 4000000 in
theorem c140 (bs:List By) (h:List Chunk) (kr:Nat) (sv:SV) (hk:lookH h kr = .cells true [sv,.int .i64 0]) (hB:RdB h sv bs) (hl:bs.length≤35184372088832) (K:Tok→SV→List Chunk→Prop) (hE:∀ e2,pDig bs = .error e2→∀ H sv' bs',Ext (fun j=>j = kr) h H→lookH H kr = .cells true [sv',.int .i64 e2]→RdB H sv' bs'→K .mk (.fam 32 1 fun _=>.int .u8 0) H) (hO:∀ x bs',pDig bs = .ok (x,bs')→∀ H sv',Ext (fun j=>j = kr) h H→lookH H kr = .cells true [sv',.int .i64 0]→RdB H sv' bs'→K .mk (dig32 x) H):callP Try.prog 140 [.ptr kr 0] h K:=by
 have hlt:=lookH_lt hk (by simp)
 refine callP_of_code tabOk Try.func140 (by kernel_rfl) rfl (Nat.le_of_ble_eq_true rfl) (codeP_of_vc (pl:=np) tabOk follows_mixed (by kernel_rfl) ?_)
 rw [Try.ntmps140]
 simp -implicitDefEqProofs (maxSteps:=1000000) (disch:=omega) only [↓zzP,zzA,zzL,zzB,reduceIte,reduceCtorEq,Nat.reduceLT,↓reduceIte,↓gd,↓opP,↓qv,↓ef,slot,putS,putO,ofV,asRow,rdF,Ent.row,ldS,tupS,res140]
 repeat (refine ⟨by omega,?_⟩)
 refine codeP_loop (pl:=np) tabOk follows_mixed (by kernel_rfl) (fun z st=>∃ (i:Nat) (H:List Chunk) (g:Nat→By) (sv1:SV) (er:Int) (r:List By) (j:Nat→Value),i+z = 32∧Ext (fun j=>j = kr) h H∧lookH H h.length = .cells true [.fam 32 1 fun _=>.int .u8 0]∧lookH H (h.length+1) = .cells true [.fam 32 1 fun i=>.int .u8 (nat (g i))]∧lookH H kr = .cells true [sv1,.int .i64 er]∧RdB H sv1 r∧((er = 0∧i≤bs.length∧r = bs.drop i∧∀ j,j < i→g j = bs.getD j 0) ∨ (er = 3∧bs.length < i))∧st = ⟨⟨20,[(0,.ptr kr 0),(2,.ptr h.length 0),(3,.ptr (h.length+1) 0),(5,.int .i64 (i:Nat))],j⟩,H,[]⟩) ?_ ?_
 ·exact into_keep [(0,.ptr kr 0),(2,.ptr h.length 0),(3,.ptr (h.length+1) 0),(5,.int .i64 (0:Nat))] (by simp [sameT,slot,lkL]) fun j=>⟨32,0,_,fun _=>0,sv,0,bs,j,rfl,(Ext.refl _ _).app _,lookH_app0 _ _,lookH_app _ 1 _,by rw [lookH_at _ hlt]; exact hk,hB.ext (extR_app _ _),.inl ⟨rfl,Nat.zero_le _,rfl,fun j hj=>absurd hj (Nat.not_lt_zero _)⟩,rfl⟩
 rintro z st ⟨i,H,g,sv1,er,r,j,hiz,hE1,e0,e1,hk1,hB1,hcase,rfl⟩
 obtain ⟨k1,d1,x1,w1,N1,F1,rfl,hr1,hN1,hF1⟩:=id hB1
 have hk1l:=lookH_lt hk1 (by simp)
 have hll:=lookH_lt e0 (by simp)
 have hll1:=lookH_lt e1 (by simp)
 by_cases ci:i < 32
 ·have g1:decide ((i:Int) < 32) = true:=decide_eq_true (by omega)
  have a1:IntKind.i64.wrap ((i:Int)+1) = ((i+1:Nat):Int):=by rw [wrap64 (by omega) (by omega)]; omega
  have upd:∀ x:By,(fun j=>if j = i then SV.int .u8 (nat x) else .int .u8 (nat (g j))) = fun j=>.int .u8 (nat (if j = i then x else g j)):=fun x=>funext fun j=>by split <;> rfl
  have nz:(SV.int .u8 0) = .int .u8 (nat (0:By)):=rfl
  simp -implicitDefEqProofs (maxSteps:=1000000) (disch:=omega) only [↓zzP,zzA,zzL,reduceIte,reduceCtorEq,Nat.reduceLT,↓reduceIte,Nat.reduceEqDiff,↓gd,↓opP,↓qv,slot,putS,putO,ofV,binH,binS2,binS,g1]
  repeat (refine ⟨by omega,?_⟩)
  rcases hcase with ⟨rfl,hib,rfl,hg⟩ | ⟨rfl,hib⟩
  ·refine c137 (bs.drop i) H kr _ hk1 hB1 (by rw [List.length_drop]; omega) _ (fun e2 he H2 sv2 r2 hE2 hk2 hB2=>?_) (fun x r2 he H2 sv2 hE2 hk2 hB2=>?_)
   ·rcases pByte_drop (bs:=bs) (i:=i) with ⟨hle,hp⟩ | ⟨_,hp⟩
    ·rw [hp] at he
     cases he
     have f0:=hE2.look e0 (by simp) fun h=>absurd h (by omega)
     have f1:=hE2.look e1 (by simp) fun h=>absurd h (by omega)
     have l1:=lookH_lt f1 (by simp)
     have hE3:=hE1.trans hE2
     simp -implicitDefEqProofs (maxSteps:=1000000) (disch:=omega) only [↓zzP,zzA,zzL,zzB,reduceIte,reduceCtorEq,Nat.reduceLT,↓reduceIte,Nat.reduceEqDiff,↓gd,↓opP,↓qv,↓ef,↓stS,slot,putS,putO,ofV,idxA,sz,binH,binS2,binS,stor,f1,a1]
     repeat (refine ⟨by omega,?_⟩)
     rw [nz,upd 0]
     exact into_keep [(0,.ptr kr 0),(2,.ptr h.length 0),(3,.ptr (h.length+1) 0),(5,.int .i64 ((i+1):Nat))] (by simp [sameT,slot,lkL]) fun j=>⟨z - 1,by omega,i+1,_,_,_,_,_,j,by omega,hE3.put (p:=h.length+1) _ (.inr (Nat.le_succ _)),by rw [lookH_put_ne _ (by omega)]; exact f0,lookH_put_same _ l1,by rw [lookH_put_ne _ (by omega)]; exact hk2,RdB.put hB2 f1 _,.inr ⟨rfl,by omega⟩,rfl⟩
    ·rw [hp] at he
     cases he
   ·rcases pByte_drop (bs:=bs) (i:=i) with ⟨_,hp⟩ | ⟨hlt2,hp⟩
    ·rw [hp] at he
     cases he
    ·rw [hp] at he
     cases he
     have f0:=hE2.look e0 (by simp) fun h=>absurd h (by omega)
     have f1:=hE2.look e1 (by simp) fun h=>absurd h (by omega)
     have l1:=lookH_lt f1 (by simp)
     have hE3:=hE1.trans hE2
     simp -implicitDefEqProofs (maxSteps:=1000000) (disch:=omega) only [↓zzP,zzA,zzL,zzB,reduceIte,reduceCtorEq,Nat.reduceLT,↓reduceIte,Nat.reduceEqDiff,↓gd,↓opP,↓qv,↓ef,↓stS,slot,putS,putO,ofV,idxA,sz,binH,binS2,binS,stor,f1,a1]
     repeat (refine ⟨by omega,?_⟩)
     rw [upd]
     exact into_keep [(0,.ptr kr 0),(2,.ptr h.length 0),(3,.ptr (h.length+1) 0),(5,.int .i64 ((i+1):Nat))] (by simp [sameT,slot,lkL]) fun j=>⟨z - 1,by omega,i+1,_,_,_,_,_,j,by omega,hE3.put (p:=h.length+1) _ (.inr (Nat.le_succ _)),by rw [lookH_put_ne _ (by omega)]; exact f0,lookH_put_same _ l1,by rw [lookH_put_ne _ (by omega)]; exact hk2,RdB.put hB2 f1 _,.inl ⟨rfl,hlt2,rfl,fun j2 hj2=>by
      by_cases c2:j2 = i
      ·rw [if_pos c2,c2]
      ·rw [if_neg c2]; exact hg j2 (by omega)⟩,rfl⟩
  ·refine c137x H kr k1 d1 x1 _ 3 hk1 (by decide) _ ?_
   simp -implicitDefEqProofs (maxSteps:=1000000) (disch:=omega) only [↓zzP,zzA,zzL,zzB,reduceIte,reduceCtorEq,Nat.reduceLT,↓reduceIte,Nat.reduceEqDiff,↓gd,↓opP,↓qv,↓ef,↓stS,slot,putS,putO,ofV,idxA,sz,binH,binS2,binS,stor,e1,a1]
   repeat (refine ⟨by omega,?_⟩)
   rw [nz,upd 0]
   exact into_keep [(0,.ptr kr 0),(2,.ptr h.length 0),(3,.ptr (h.length+1) 0),(5,.int .i64 ((i+1):Nat))] (by simp [sameT,slot,lkL]) fun j=>⟨z - 1,by omega,i+1,_,_,_,_,_,j,by omega,hE1.put (p:=h.length+1) _ (.inr (Nat.le_succ _)),by rw [lookH_put_ne _ (by omega)]; exact e0,lookH_put_same _ hll1,by rw [lookH_put_ne _ (by omega)]; exact hk1,RdB.put hB1 e1 _,.inr ⟨rfl,by omega⟩,rfl⟩
 ·have g1:decide ((i:Int) < 32) = false:=decide_eq_false (by omega)
  rcases hcase with ⟨rfl,hib,rfl,hg⟩ | ⟨rfl,hib⟩
  ·have z0:((0:Int) != 0) = false:=rfl
   simp -implicitDefEqProofs (maxSteps:=1000000) (disch:=omega) only [↓zzP,zzA,zzL,zzB,reduceIte,reduceCtorEq,Nat.reduceLT,↓reduceIte,Nat.reduceEqDiff,Nat.reduceLeDiff,↓gd,↓opP,↓qv,↓ef,↓stS,slot,putS,putO,ofV,fldA,asRow,rdF,Ent.row,ldS,sz,wrF,binH,binS2,binS,stor,g1,z0,hk1,e0,e1,lookH_put_same]
   repeat (refine ⟨by omega,?_⟩)
   have hp:pDig bs = .ok (fun i=>bs.getD i 0,bs.drop 32):=by unfold pDig; rw [if_neg (by omega)]
   obtain rfl:i = 32:=by omega
   refine intoR_den (v':=dig32 fun i=>bs.getD i 0) (fun ρ=>den_fam fun i hi=>by rw [hg i hi]) (fun i hi=>⟨rfl,trivial⟩) (intoR_refl (by rw [putH_len]; exact hE1.1) (hO _ _ hp _ _ (hE1.put (p:=h.length) _ (.inr (Nat.le_refl _))) (by rw [lookH_put_ne _ (by omega)]; exact hk1) (RdB.put hB1 e0 _)))
  ·have z0:((3:Int) != 0) = true:=rfl
   simp -implicitDefEqProofs (maxSteps:=1000000) (disch:=omega) only [↓zzP,zzA,zzL,zzB,reduceIte,reduceCtorEq,Nat.reduceLT,↓reduceIte,Nat.reduceEqDiff,Nat.reduceLeDiff,↓gd,↓opP,↓qv,↓ef,↓stS,slot,putS,putO,ofV,fldA,asRow,rdF,Ent.row,ldS,sz,wrF,bldS,binH,binS2,binS,stor,g1,z0,hk1,e0,lookH_put_same]
   repeat (refine ⟨by omega,?_⟩)
   have hp:pDig bs = .error 3:=by unfold pDig; rw [if_pos (by omega)]
   exact intoR_refl (by rw [putH_len]; exact hE1.1) (hE 3 hp _ _ _ (hE1.put (p:=h.length) _ (.inr (Nat.le_refl _))) (by rw [lookH_put_ne _ (by omega)]; exact hk1) (RdB.put hB1 e0 _))
end Go.Proofs.Ytgocfglmideobaa
set_option linter.all false
set_option maxRecDepth 40000
namespace Go.Proofs.Ytgocfglmideobaa.S
open Go Go.Sx
theorem follows_mixed:Try.prog.follows .mixedOrders = true:=by kernel_rfl
def np:Nat→Plan:=fun _=>.nil
theorem c74 (x:BitVec 32) (k:Int) (s:Nat) (hs:bits .and .u64 (IntKind.u64.wrap k) 31 = s) (h0:s≤32) (h:List Chunk) (K:Tok→SV→List Chunk→Prop) (hK:K .mk (.int .u32 (nat (x <<< s ||| x >>> (32 - s)))) h):callP Try.prog 171 [.int .u32 (nat x),.int .i64 k] h K:=by
 refine callP_of_code tabOk Try.func171 (by kernel_rfl) rfl (Nat.le_of_ble_eq_true rfl) (codeP_of_vc (pl:=np) tabOk follows_mixed (by kernel_rfl) ?_)
 rw [Try.ntmps171]
 simp -implicitDefEqProofs (maxSteps:=1000000) (disch:=omega) only [↓zzP,zzA,reduceIte,reduceCtorEq,Nat.reduceLT,↓reduceIte,Nat.reduceEqDiff,Nat.reduceAdd,↓gd,↓opP,↓qv,slot,putS,putO,ofV,convS,binH,binS2,binS,tupS]
 have e:IntKind.u64.wrap (32 - (s:Int)) = ((32 - s:Nat):Int):=by
  rw [show (32:Int) - s = ((32 - s:Nat):Int) by omega]
  exact Go.Sx.wrap_small (k:=.u64) rfl (by omega) (by rw [show IntKind.u64.bits = 64 from rfl]; omega)
 rw [hs,e]
 simp only [shl32 x s h0,shr32 x (32 - s) (by omega),or32,Try.f171,resS,Sx.look,tupS]
 exact ⟨by omega,by omega,intoR_refl (Nat.le_refl _) hK⟩
def rotr (x:BitVec 32) (k:Nat):BitVec 32:=x <<< (32 - k) ||| x >>> k
theorem c67 (x:BitVec 32) (k:Int) (n:Nat) (hk:k = n) (hs:bits .and .u64 (IntKind.u64.wrap (IntKind.i64.wrap (0 - k))) 31 = ((32 - n:Nat):Int)) (hn:n≤32) (h:List Chunk) (K:Tok→SV→List Chunk→Prop) (hK:K .mk (.int .u32 (nat (rotr x n))) h):callP Try.prog 169 [.int .u32 (nat x),.int .i64 k] h K:=by
 refine callP_of_code tabOk Try.func169 (by kernel_rfl) rfl (Nat.le_of_ble_eq_true rfl) (codeP_of_vc (pl:=np) tabOk follows_mixed (by kernel_rfl) ?_)
 rw [Try.ntmps169]
 simp -implicitDefEqProofs (maxSteps:=1000000) (disch:=omega) only [↓zzP,zzA,reduceIte,reduceCtorEq,Nat.reduceLT,↓reduceIte,Nat.reduceEqDiff,Nat.reduceAdd,↓gd,↓opP,↓qv,slot,putS,putO,ofV,unS,tupS]
 refine c74 x _ _ hs (by omega) h _ ?_
 simp -implicitDefEqProofs (maxSteps:=1000000) (disch:=omega) only [↓zzP,zzA,reduceIte,Nat.reduceLT,↓reduceIte,↓gd,↓opP,↓qv,slot,putS,putO]
 simp only [Try.f169,resS,Sx.look,tupS]
 refine intoR_refl (Nat.le_refl _) ?_
 rw [show 32 - (32 - n) = n by omega]
 exact hK
def rootL:List (BitVec 32):=[1116352408,1899447441,3049323471,3921009573,961987163,1508970993,2453635748,2870763221,3624381080,310598401,607225278,1426881987,1925078388,2162078206,2614888103,3248222580,3835390401,4022224774,264347078,604807628,770255983,1249150122,1555081692,1996064986,2554220882,2821834349,2952996808,3210313671,3336571891,3584528711,113926993,338241895,666307205,773529912,1294757372,1396182291,1695183700,1986661051,2177026350,2456956037,2730485921,2820302411,3259730800,3345764771,3516065817,3600352804,4094571909,275423344,430227734,506948616,659060556,883997877,958139571,1322822218,1537002063,1747873779,1955562222,2024104815,2227730452,2361852424,2428436474,2756734187,3204031479,3329325298]
def rootK (i:Nat):BitVec 32:=rootL.getD i 0
theorem res68:Try.f170.results.toList = [.cell 0 179]:=rfl
theorem c68l (K:Tok→SV→List Chunk→Prop) (hK:K .mk (.fam 64 1 fun i=>.int .u32 (nat (rootK i))) []):callP Try.prog 170 [] [] K:=by
 refine callP_of_code tabOk Try.func170 (by kernel_rfl) rfl (Nat.le_of_ble_eq_true rfl) (codeP_of_vc (pl:=np) tabOk follows_mixed (by kernel_rfl) ?_)
 rw [Try.ntmps170]
 simp -implicitDefEqProofs (maxSteps:=1000000) (disch:=omega) only [↓zzP,zzA,zzL,Nat.reduceSub,reduceIte,reduceCtorEq,Nat.reduceLT,↓reduceIte,Nat.reduceLeDiff,Nat.reduceAdd,↓gd,↓opP,↓qv,↓ef,↓stS,slot,putS,putO,ofV,parts,rdF,Ent.row,ldS,sz,wrF,bldS,tupS,stor,res68]
 refine intoR_mk [] (.fam 64 1 fun i=>.int .u32 (nat (rootK i))) [] ?_ ?_ ?_ ?_ ?_ ?_ ?_ hK
 ·simp [slot,lkL,fixed,rg,renH,chEq,lookH,eqvL,eqv,eqvF,rnmL,rnm,liveN,Chunk.live,goodH,Chunk.good,okL,ok,sz,szL,storL,stor,renT,okT]
 ·simp [slot,lkL,fixed,rg,renH,chEq,lookH,eqvL,eqv,eqvF,rnmL,rnm,liveN,Chunk.live,goodH,Chunk.good,okL,ok,sz,szL,storL,stor,renT,okT]
 ·simp [slot,lkL,fixed,rg,renH,chEq,lookH,eqvL,eqv,eqvF,rnmL,rnm,liveN,Chunk.live,goodH,Chunk.good,okL,ok,sz,szL,storL,stor,renT,okT]
 ·simp [slot,lkL,fixed,rg,renH,chEq,lookH,eqvL,eqv,eqvF,rnmL,rnm,liveN,Chunk.live,goodH,Chunk.good,okL,ok,sz,szL,storL,stor,renT,okT]
 ·simp [slot,lkL,fixed,rg,renH,chEq,lookH,eqvL,eqv,eqvF,rnmL,rnm,liveN,Chunk.live,goodH,Chunk.good,okL,ok,sz,szL,storL,stor,renT,okT]
 ·simp [slot,lkL,fixed,rg,renH,chEq,lookH,eqvL,eqv,eqvF,rnmL,rnm,liveN,Chunk.live,goodH,Chunk.good,okL,ok,sz,szL,storL,stor,renT,okT,rootK,rootL,nat]
 ·simp [slot,lkL,fixed,rg,renH,chEq,lookH,eqvL,eqv,eqvF,rnmL,rnm,liveN,Chunk.live,goodH,Chunk.good,okL,ok,sz,szL,storL,stor,renT,okT]
theorem c68 (h:List Chunk) (K:Tok→SV→List Chunk→Prop) (hK:K .mk (.fam 64 1 fun i=>.int .u32 (nat (rootK i))) h):callP Try.prog 170 [] h K :=
 callP_frame (KL:=fun _ v h'=>v = .fam 64 1 (fun i=>.int .u32 (nat (rootK i)))∧h' = []) [] (c68l _ ⟨rfl,rfl⟩) List.nodup_nil trivial trivial trivial rfl (by
  rintro v h' ⟨rfl,rfl⟩
  refine ⟨?_,trivial,?_⟩
  ·intro c hc; cases hc
  ·simpa [rnm,lay] using hK)
end Go.Proofs.Ytgocfglmideobaa.S
set_option linter.all false
set_option maxRecDepth 40000
namespace Go.Proofs.Ytgocfglmideobaa.S
open Go Go.Sx
def pl166:Nat→Plan
 | 4=>(.q 0 (.q 1 (.q 2 (.q 3 (.q 4 (.q 5 (.q 6 (.q 7 (.q 8 (.q 9 (.q 10 (.q 11 (.q 12 (.q 13 (.q 14 (.q 15 (.q 16 (.q 17 (.q 18 (.q 19 (.q 20 (.q 21 (.q 22 (.q 23 (.q 24 (.q 25 (.q 26 (.q 27 (.q 28 (.q 29 (.q 30 (.q 31 (.q 32 (.q 33 (.q 34 (.e1 35 [4,5,6,12,13,14,21,22,23,30,31,32,34] .nil))))))))))))))))))))))))))))))))))))
 | 9=>(.q 0 (.q 1 (.q 2 (.q 3 (.q 4 (.q 5 (.q 6 (.q 7 (.q 8 (.q 9 .nil))))))))))
 | 10=>(.q 0 (.q 1 (.q 2 (.q 3 (.q 4 (.q 5 (.q 7 (.q 10 (.q 11 (.q 14 (.q 15 (.q 16 (.q 17 (.q 19 (.q 21 (.q 24 (.q 25 (.e1 6 [] (.e1 8 [6] (.q 9 (.q 12 (.q 13 (.q 18 (.e1 20 [6,8] (.e1 22 [8,20] (.q 23 (.q 26 (.q 27 (.q 28 (.e1 29 [3,4,6,8,16,17,20,22,28] .nil))))))))))))))))))))))))))))))
 | 15=>(.q 0 (.q 1 (.q 2 (.q 3 (.q 4 (.q 5 .nil))))))
 | 16=>(.q 0 (.q 1 (.q 2 (.q 4 (.q 7 (.q 11 (.q 12 (.q 13 (.q 14 (.q 15 (.q 16 (.q 17 (.q 18 (.q 19 (.q 20 (.q 22 (.q 24 (.q 25 (.q 26 (.e1 3 [] (.e1 5 [3] (.q 6 (.e1 8 [3,5] (.q 9 (.q 10 (.q 21 (.q 23 (.q 27 (.q 28 .nil)))))))))))))))))))))))))))))
 | 17=>(.q 0 (.q 2 (.q 5 (.q 8 (.q 9 (.q 10 (.q 11 (.q 12 (.q 13 (.q 14 (.q 15 (.q 16 (.q 17 (.q 18 (.q 19 (.q 20 (.q 21 (.q 22 (.e1 1 [] (.e1 3 [1] (.q 4 (.e1 6 [1,3] (.q 7 (.q 23 (.q 24 .nil)))))))))))))))))))))))))
 | 23=>(.q 0 (.q 1 (.q 2 (.q 3 (.q 4 (.q 5 (.q 6 (.q 7 (.q 8 (.q 9 (.q 10 (.e1 11 [3,4,6,7,10] .nil))))))))))))
 | _=>.nil
theorem takeC_zero (l:List SV):takeC 0 l = some ([],l):=by cases l <;> simp [takeC]
def word (b:Nat→BitVec 8) (t:Nat):BitVec 32 :=
 (b (4 * t)).setWidth 32 <<< 24 ||| (b (4 * t+1)).setWidth 32 <<< 16 ||| (b (4 * t+2)).setWidth 32 <<< 8 ||| (b (4 * t+3)).setWidth 32
def ld (b:Nat→BitVec 8) (t:Nat):Nat→BitVec 32:=fun i=>if i < t then word b i else 0
def sch (g:Nat→BitVec 32) (t:Nat):BitVec 32 :=
 g (t - 16)+(rotr (g (t - 15)) 7 ^^^ rotr (g (t - 15)) 18 ^^^ g (t - 15) >>> 3)+g (t - 7)+(rotr (g (t - 2)) 17 ^^^ rotr (g (t - 2)) 19 ^^^ g (t - 2) >>> 10)
def schF (g:Nat→BitVec 32):Nat→Nat→BitVec 32
 | 0=>g
 | k+1=>fun i=>if i = 16+k then sch (schF g k) (16+k) else schF g k i
def rnd (s:Nat→BitVec 32) (k w:BitVec 32):Nat→BitVec 32
 | 0=>(s 7+(rotr (s 4) 6 ^^^ rotr (s 4) 11 ^^^ rotr (s 4) 25)+(s 4 &&& s 5 ^^^ ~~~(s 4) &&& s 6)+k+w)+((rotr (s 0) 2 ^^^ rotr (s 0) 13 ^^^ rotr (s 0) 22)+(s 0 &&& s 1 ^^^ s 0 &&& s 2 ^^^ s 1 &&& s 2))
 | 1=>s 0
 | 2=>s 1
 | 3=>s 2
 | 4=>s 3+(s 7+(rotr (s 4) 6 ^^^ rotr (s 4) 11 ^^^ rotr (s 4) 25)+(s 4 &&& s 5 ^^^ ~~~(s 4) &&& s 6)+k+w)
 | 5=>s 4
 | 6=>s 5
 | _=>s 6
def rnds (s:Nat→BitVec 32) (w:Nat→BitVec 32):Nat→Nat→BitVec 32
 | 0=>s
 | t+1=>rnd (rnds s w t) (rootK t) (w t)
def comp (s:Nat→BitVec 32) (b:Nat→BitVec 8) (i:Nat):BitVec 32:=s i+rnds s (schF (ld b 16) 48) 64 i
set_option maxHeartbeats 4000000 in
theorem c54l (w:Nat→BitVec 32) (rest:List SV) (d e n:Nat) (b:Nat→BitVec 8) (hn:e+64≤n) (hro:okL 2 rest) (hrs:storL rest) (K:Tok→SV→List Chunk→Prop)
  (hK:K .mk (.tup []) [.cells true ([.int .u32 (nat (comp w (fun i=>b (e+i)) 0)),.int .u32 (nat (comp w (fun i=>b (e+i)) 1)),.int .u32 (nat (comp w (fun i=>b (e+i)) 2)),.int .u32 (nat (comp w (fun i=>b (e+i)) 3)),.int .u32 (nat (comp w (fun i=>b (e+i)) 4)),.int .u32 (nat (comp w (fun i=>b (e+i)) 5)),.int .u32 (nat (comp w (fun i=>b (e+i)) 6)),.int .u32 (nat (comp w (fun i=>b (e+i)) 7))]++rest),.row false n 1 fun i=>.int .u8 (nat (b i))]) :
  callP Try.prog 166 [.ptr 0 0,.osl 1 d e 1 64] [.cells true ([.int .u32 (nat (w 0)),.int .u32 (nat (w 1)),.int .u32 (nat (w 2)),.int .u32 (nat (w 3)),.int .u32 (nat (w 4)),.int .u32 (nat (w 5)),.int .u32 (nat (w 6)),.int .u32 (nat (w 7))]++rest),.row false n 1 fun i=>.int .u8 (nat (b i))] K:=by
 refine callP_of_code tabOk Try.func166 (by kernel_rfl) rfl (Nat.le_of_ble_eq_true rfl) (codeP_of_vc (pl:=pl166) tabOk follows_mixed (by kernel_rfl) ?_)
 rw [Try.ntmps166]
 simp -implicitDefEqProofs (maxSteps:=1000000) (disch:=omega) only [↓zzP,zzA,zzL,reduceIte,reduceCtorEq,Nat.reduceLT,↓reduceIte,Nat.reduceAdd,↓gd,↓opP,↓qv,↓ef,putS,putO,ofV,parts,tupS]
 have hr3:∀ r,eqvL rest (rnmL (rg (some 0 :: some 1 :: r)) rest):=fun r=>rnmL_fix (n:=2) (fun k hk=>by
  rcases k with _ | _ | k
  ·rfl
  ·rfl
  ·omega) rest hro
 have hok3:∀ m,2≤m→okL m rest:=fun m h=>okL_mono h rest hro
 refine codeP_loop (pl:=pl166) tabOk follows_mixed (by kernel_rfl) (fun m s=>∃ (t:Nat) (j:Nat→Value),t+m = 16∧s = ⟨⟨195,[(0,.ptr 0 0),(1,.osl 1 d e 1 64),(4,.ptr 2 0),(17,.int .i64 (t:Nat))],j⟩,[.cells true ([.int .u32 (nat (w 0)),.int .u32 (nat (w 1)),.int .u32 (nat (w 2)),.int .u32 (nat (w 3)),.int .u32 (nat (w 4)),.int .u32 (nat (w 5)),.int .u32 (nat (w 6)),.int .u32 (nat (w 7))]++rest),.row false n 1 fun i=>.int .u8 (nat (b i)),.cells true [.fam 64 1 fun i=>.int .u32 (nat (ld (fun i=>b (e+i)) t i))]],[]⟩) ?_ ?_
 ·refine into_mk [some 0,some 1,some 2] [(0,.ptr 0 0),(1,.osl 1 d e 1 64),(4,.ptr 2 0),(17,.int .i64 0)] [.cells true ([.int .u32 (nat (w 0)),.int .u32 (nat (w 1)),.int .u32 (nat (w 2)),.int .u32 (nat (w 3)),.int .u32 (nat (w 4)),.int .u32 (nat (w 5)),.int .u32 (nat (w 6)),.int .u32 (nat (w 7))]++rest),.row false n 1 fun i=>.int .u8 (nat (b i)),.cells true [.fam 64 1 fun i=>.int .u32 (nat (ld (fun i=>b (e+i)) 0 i))]] ?_ ?_ ?_ ?_ ?_ ?_ ?_ ?_
  ·simp [slot,lkL,fixed,rg,renH,chEq,lookH,eqvL,eqv,eqvF,rnmL,rnm,liveN,Chunk.live,goodH,Chunk.good,okL,ok,sz,szL,storL,stor,renT,okT]
  ·simp [slot,lkL,fixed,rg,renH,chEq,lookH,eqvL,eqv,eqvF,rnmL,rnm,liveN,Chunk.live,goodH,Chunk.good,okL,ok,sz,szL,storL,stor,renT,okT]
  ·simp [slot,lkL,fixed,rg,renH,chEq,lookH,eqvL,eqv,eqvF,rnmL,rnm,liveN,Chunk.live,goodH,Chunk.good,okL,ok,sz,szL,storL,stor,renT,okT,hr3,ld,nat]
  ·simp [slot,lkL,fixed,rg,renH,chEq,lookH,eqvL,eqv,eqvF,rnmL,rnm,liveN,Chunk.live,goodH,Chunk.good,okL,ok,sz,szL,storL,stor,renT,okT]
  ·simp [slot,lkL,fixed,rg,renH,chEq,lookH,eqvL,eqv,eqvF,rnmL,rnm,liveN,Chunk.live,goodH,Chunk.good,okL,ok,sz,szL,storL,stor,renT,okT,hok3,hrs]
  ·simp [slot,lkL,fixed,rg,renH,chEq,lookH,eqvL,eqv,eqvF,rnmL,rnm,liveN,Chunk.live,goodH,Chunk.good,okL,ok,sz,szL,storL,stor,renT,okT]
  ·simp [slot,lkL,fixed,rg,renH,chEq,lookH,eqvL,eqv,eqvF,rnmL,rnm,liveN,Chunk.live,goodH,Chunk.good,okL,ok,sz,szL,storL,stor,renT,okT]
  ·intro j
   exact ⟨16,0,j,rfl,rfl⟩
 ·rintro m s ⟨t,j,ht,rfl⟩
  have a0:IntKind.i64.wrap (4 * (t:Int)) = ((4 * t:Nat):Int):=by rw [wrap64 (by omega) (by omega)]; omega
  have a1:IntKind.i64.wrap (((4 * t:Nat):Int)+1) = ((4 * t+1:Nat):Int):=by rw [wrap64 (by omega) (by omega)]; omega
  have a2:IntKind.i64.wrap (((4 * t:Nat):Int)+2) = ((4 * t+2:Nat):Int):=by rw [wrap64 (by omega) (by omega)]; omega
  have a3:IntKind.i64.wrap (((4 * t:Nat):Int)+3) = ((4 * t+3:Nat):Int):=by rw [wrap64 (by omega) (by omega)]; omega
  have a4:IntKind.i64.wrap ((t:Int)+1) = ((t+1:Nat):Int):=by rw [wrap64 (by omega) (by omega)]; omega
  simp -implicitDefEqProofs (maxSteps:=1000000) (disch:=omega) only [↓zzP,zzA,zzL,reduceIte,reduceCtorEq,Nat.reduceLT,Int.reduceLE,↓reduceIte,Nat.reduceEqDiff,Int.reduceToNat,Array.reduceGetElem?,↓gd,↓opP,↓qv,↓ef,↓stS,slot,putS,putO,ofV,convS,idxA,oslN,parts,single,rdF,Ent.row,ldS,sz,binH,binS2,binS,stor,qn,ldN,convN,↓Array.reduceGetElem?,pl166,a0,a1,a2,a3,a4]
  refine ⟨Sx.imp_intro fun hc=>?_,Sx.imp_intro fun hc=>?_⟩
  ·have ht':t < 16:=by have:=of_decide_eq_true hc; omega
   and_intros <;> try omega
   refine into_mk [some 0,some 1,some 2] [(0,.ptr 0 0),(1,.osl 1 d e 1 64),(4,.ptr 2 0),(17,.int .i64 (t+1:Nat))] [.cells true ([.int .u32 (nat (w 0)),.int .u32 (nat (w 1)),.int .u32 (nat (w 2)),.int .u32 (nat (w 3)),.int .u32 (nat (w 4)),.int .u32 (nat (w 5)),.int .u32 (nat (w 6)),.int .u32 (nat (w 7))]++rest),.row false n 1 fun i=>.int .u8 (nat (b i)),.cells true [.fam 64 1 fun i=>.int .u32 (nat (ld (fun i=>b (e+i)) (t+1) i))]] ?_ ?_ ?_ ?_ ?_ ?_ ?_ ?_
   ·simp [slot,lkL,fixed,rg,renH,chEq,lookH,eqvL,eqv,eqvF,rnmL,rnm,liveN,Chunk.live,goodH,Chunk.good,okL,ok,sz,szL,storL,stor,renT,okT]
   ·simp [slot,lkL,fixed,rg,renH,chEq,lookH,eqvL,eqv,eqvF,rnmL,rnm,liveN,Chunk.live,goodH,Chunk.good,okL,ok,sz,szL,storL,stor,renT,okT]
   ·simp [slot,lkL,fixed,rg,renH,chEq,lookH,eqvL,eqv,eqvF,rnmL,rnm,liveN,Chunk.live,goodH,Chunk.good,okL,ok,sz,szL,storL,stor,renT,okT,hr3]
    intro i hi
    by_cases h:i = t
    ·subst h
     simp [ld,word,eqv]
    ·simp [ld,eqv,h,show (i < t+1) = (i < t) by simp; omega]
   ·simp [slot,lkL,fixed,rg,renH,chEq,lookH,eqvL,eqv,eqvF,rnmL,rnm,liveN,Chunk.live,goodH,Chunk.good,okL,ok,sz,szL,storL,stor,renT,okT]
   ·simp [slot,lkL,fixed,rg,renH,chEq,lookH,eqvL,eqv,eqvF,rnmL,rnm,liveN,Chunk.live,goodH,Chunk.good,okL,ok,sz,szL,storL,stor,renT,okT,hok3,hrs]
   ·simp [slot,lkL,fixed,rg,renH,chEq,lookH,eqvL,eqv,eqvF,rnmL,rnm,liveN,Chunk.live,goodH,Chunk.good,okL,ok,sz,szL,storL,stor,renT,okT]
   ·simp [slot,lkL,fixed,rg,renH,chEq,lookH,eqvL,eqv,eqvF,rnmL,rnm,liveN,Chunk.live,goodH,Chunk.good,okL,ok,sz,szL,storL,stor,renT,okT]
   ·intro j
    exact ⟨m - 1,by omega,t+1,j,by omega,rfl⟩
  ·have ht':t = 16:=by
    have:=of_decide_eq_false hc
    omega
   subst ht'
   refine codeP_loop (pl:=pl166) tabOk follows_mixed (by kernel_rfl) (fun m s=>∃ (k:Nat) (j:Nat→Value),k+m = 48∧s = ⟨⟨195,[(0,.ptr 0 0),(4,.ptr 2 0),(6,.int .i64 (16+k:Nat))],j⟩,[.cells true ([.int .u32 (nat (w 0)),.int .u32 (nat (w 1)),.int .u32 (nat (w 2)),.int .u32 (nat (w 3)),.int .u32 (nat (w 4)),.int .u32 (nat (w 5)),.int .u32 (nat (w 6)),.int .u32 (nat (w 7))]++rest),.row false n 1 fun i=>.int .u8 (nat (b i)),.cells true [.fam 64 1 fun i=>.int .u32 (nat (schF (ld (fun i=>b (e+i)) 16) k i))]],[]⟩) ?_ ?_
   ·refine into_mk [some 0,some 1,some 2] [(0,.ptr 0 0),(4,.ptr 2 0),(6,.int .i64 (16+0:Nat))] [.cells true ([.int .u32 (nat (w 0)),.int .u32 (nat (w 1)),.int .u32 (nat (w 2)),.int .u32 (nat (w 3)),.int .u32 (nat (w 4)),.int .u32 (nat (w 5)),.int .u32 (nat (w 6)),.int .u32 (nat (w 7))]++rest),.row false n 1 fun i=>.int .u8 (nat (b i)),.cells true [.fam 64 1 fun i=>.int .u32 (nat (schF (ld (fun i=>b (e+i)) 16) 0 i))]] ?_ ?_ ?_ ?_ ?_ ?_ ?_ ?_
    ·simp [slot,lkL,fixed,rg,renH,chEq,lookH,eqvL,eqv,eqvF,rnmL,rnm,liveN,Chunk.live,goodH,Chunk.good,okL,ok,sz,szL,storL,stor,renT,okT]
    ·simp [slot,lkL,fixed,rg,renH,chEq,lookH,eqvL,eqv,eqvF,rnmL,rnm,liveN,Chunk.live,goodH,Chunk.good,okL,ok,sz,szL,storL,stor,renT,okT]
    ·simp [slot,lkL,fixed,rg,renH,chEq,lookH,eqvL,eqv,eqvF,rnmL,rnm,liveN,Chunk.live,goodH,Chunk.good,okL,ok,sz,szL,storL,stor,renT,okT,hr3,schF]
    ·simp [slot,lkL,fixed,rg,renH,chEq,lookH,eqvL,eqv,eqvF,rnmL,rnm,liveN,Chunk.live,goodH,Chunk.good,okL,ok,sz,szL,storL,stor,renT,okT]
    ·simp [slot,lkL,fixed,rg,renH,chEq,lookH,eqvL,eqv,eqvF,rnmL,rnm,liveN,Chunk.live,goodH,Chunk.good,okL,ok,sz,szL,storL,stor,renT,okT,hok3,hrs]
    ·simp [slot,lkL,fixed,rg,renH,chEq,lookH,eqvL,eqv,eqvF,rnmL,rnm,liveN,Chunk.live,goodH,Chunk.good,okL,ok,sz,szL,storL,stor,renT,okT]
    ·simp [slot,lkL,fixed,rg,renH,chEq,lookH,eqvL,eqv,eqvF,rnmL,rnm,liveN,Chunk.live,goodH,Chunk.good,okL,ok,sz,szL,storL,stor,renT,okT]
    ·intro j
     exact ⟨48,0,j,rfl,rfl⟩
   ·rintro m2 s ⟨k,j,hk,rfl⟩
    have b0:IntKind.i64.wrap (((16+k:Nat):Int) - 15) = ((k+1:Nat):Int):=by rw [wrap64 (by omega) (by omega)]; omega
    have b1:IntKind.i64.wrap (((16+k:Nat):Int) - 2) = ((k+14:Nat):Int):=by rw [wrap64 (by omega) (by omega)]; omega
    have b2:IntKind.i64.wrap (((16+k:Nat):Int) - 16) = ((k:Nat):Int):=by rw [wrap64 (by omega) (by omega)]; omega
    have b3:IntKind.i64.wrap (((16+k:Nat):Int) - 7) = ((k+9:Nat):Int):=by rw [wrap64 (by omega) (by omega)]; omega
    have b4:IntKind.i64.wrap (((16+k:Nat):Int)+1) = ((16+(k+1):Nat):Int):=by rw [wrap64 (by omega) (by omega)]; omega
    simp -implicitDefEqProofs (maxSteps:=1000000) (disch:=omega) only [↓zzP,zzA,zzL,Nat.reduceSub,reduceIte,reduceCtorEq,Nat.reduceLT,Int.reduceLE,↓reduceIte,Nat.reduceEqDiff,Nat.reduceLeDiff,Nat.reduceAdd,Int.reduceToNat,Array.reduceGetElem?,↓gd,↓opP,↓qv,↓ef,↓stS,slot,putS,putO,ofV,idxA,oslN,parts,single,rdF,Ent.row,ldS,sz,wrF,binH,binS2,binS,stor,qn,ldN,↓Array.reduceGetElem?,pl166,takeC_zero,b0,b1,b2,b3]
    refine ⟨Sx.imp_intro fun hc=>?_,Sx.imp_intro fun hc=>?_⟩
    ·have hk':k < 48:=by have:=of_decide_eq_true hc; omega
     and_intros <;> try omega
     refine c67 _ _ 7 rfl rfl (by decide) _ _ ?_
     simp -implicitDefEqProofs (maxSteps:=1000000) (disch:=omega) only [↓zzP,zzA,reduceIte,Nat.reduceLT,↓reduceIte,Nat.reduceEqDiff,Array.reduceGetElem?,↓gd,↓opP,slot,putS,putO,ofV,↓Array.reduceGetElem?]
     refine c67 _ _ 18 rfl rfl (by decide) _ _ ?_
     simp -implicitDefEqProofs (maxSteps:=1000000) (disch:=omega) only [↓zzP,zzA,reduceIte,Nat.reduceLT,↓reduceIte,Nat.reduceEqDiff,Array.reduceGetElem?,↓gd,↓opP,↓qv,slot,putS,putO,ofV,oslN,binH,binS2,binS,qn,↓Array.reduceGetElem?]
     and_intros <;> try omega
     refine c67 _ _ 17 rfl rfl (by decide) _ _ ?_
     simp -implicitDefEqProofs (maxSteps:=1000000) (disch:=omega) only [↓zzP,zzA,reduceIte,Nat.reduceLT,↓reduceIte,Nat.reduceEqDiff,Array.reduceGetElem?,↓gd,↓opP,slot,putS,putO,ofV,↓Array.reduceGetElem?]
     refine c67 _ _ 19 rfl rfl (by decide) _ _ ?_
     simp -implicitDefEqProofs (maxSteps:=1000000) (disch:=omega) only [↓zzP,zzA,zzL,reduceIte,reduceCtorEq,Nat.reduceLT,↓reduceIte,Nat.reduceEqDiff,Array.reduceGetElem?,↓gd,↓opP,↓qv,↓ef,↓stS,slot,putS,putO,ofV,idxA,oslN,sz,binH,binS2,binS,stor,qn,↓Array.reduceGetElem?,b4]
     and_intros <;> try omega
     refine into_mk [some 0,some 1,some 2] [(0,.ptr 0 0),(4,.ptr 2 0),(6,.int .i64 (16+(k+1):Nat))] [.cells true ([.int .u32 (nat (w 0)),.int .u32 (nat (w 1)),.int .u32 (nat (w 2)),.int .u32 (nat (w 3)),.int .u32 (nat (w 4)),.int .u32 (nat (w 5)),.int .u32 (nat (w 6)),.int .u32 (nat (w 7))]++rest),.row false n 1 fun i=>.int .u8 (nat (b i)),.cells true [.fam 64 1 fun i=>.int .u32 (nat (schF (ld (fun i=>b (e+i)) 16) (k+1) i))]] ?_ ?_ ?_ ?_ ?_ ?_ ?_ ?_
     ·simp [slot,lkL,fixed,rg,renH,chEq,lookH,eqvL,eqv,eqvF,rnmL,rnm,liveN,Chunk.live,goodH,Chunk.good,okL,ok,sz,szL,storL,stor,renT,okT]
     ·simp [slot,lkL,fixed,rg,renH,chEq,lookH,eqvL,eqv,eqvF,rnmL,rnm,liveN,Chunk.live,goodH,Chunk.good,okL,ok,sz,szL,storL,stor,renT,okT]
     ·simp [slot,lkL,fixed,rg,renH,chEq,lookH,eqvL,eqv,eqvF,rnmL,rnm,liveN,Chunk.live,goodH,Chunk.good,okL,ok,sz,szL,storL,stor,renT,okT,hr3]
      intro i hi
      by_cases h:i = 16+k
      ·subst h
       simp [schF,sch,eqv,show 16+k - 15 = k+1 by omega,show 16+k - 7 = k+9 by omega,show 16+k - 2 = k+14 by omega]
      ·simp [schF,eqv,h]
     ·simp [slot,lkL,fixed,rg,renH,chEq,lookH,eqvL,eqv,eqvF,rnmL,rnm,liveN,Chunk.live,goodH,Chunk.good,okL,ok,sz,szL,storL,stor,renT,okT]
     ·simp [slot,lkL,fixed,rg,renH,chEq,lookH,eqvL,eqv,eqvF,rnmL,rnm,liveN,Chunk.live,goodH,Chunk.good,okL,ok,sz,szL,storL,stor,renT,okT,hok3,hrs]
     ·simp [slot,lkL,fixed,rg,renH,chEq,lookH,eqvL,eqv,eqvF,rnmL,rnm,liveN,Chunk.live,goodH,Chunk.good,okL,ok,sz,szL,storL,stor,renT,okT]
     ·simp [slot,lkL,fixed,rg,renH,chEq,lookH,eqvL,eqv,eqvF,rnmL,rnm,liveN,Chunk.live,goodH,Chunk.good,okL,ok,sz,szL,storL,stor,renT,okT]
     ·intro j
      exact ⟨m2 - 1,by omega,k+1,j,by omega,rfl⟩
    ·have hk':k = 48:=by
      have:=of_decide_eq_false hc
      omega
     subst hk'
     refine c68 _ _ ?_
     simp -implicitDefEqProofs (maxSteps:=1000000) (disch:=omega) only [↓zzP,zzA,reduceIte,reduceCtorEq,Nat.reduceLT,↓reduceIte,Nat.reduceAdd,↓gd,↓opP,↓qv,putS,putO,ofV]
     obtain ⟨W,hW⟩:∃ W,W = schF (ld (fun i=>b (e+i)) 16) 48:=⟨_,rfl⟩
     rw [← hW]
     refine codeP_loop (pl:=pl166) tabOk follows_mixed (by kernel_rfl) (fun m s=>∃ (t:Nat) (j:Nat→Value),t+m = 64∧s = ⟨⟨195,[(0,.ptr 0 0),(4,.ptr 2 0),(9,.ptr 3 0),(100,.fam 64 1 fun i=>.int .u32 (nat (rootK i))),(101,.int .i64 (t:Nat))],j⟩,[.cells true ([.int .u32 (nat (w 0)),.int .u32 (nat (w 1)),.int .u32 (nat (w 2)),.int .u32 (nat (w 3)),.int .u32 (nat (w 4)),.int .u32 (nat (w 5)),.int .u32 (nat (w 6)),.int .u32 (nat (w 7))]++rest),.row false n 1 fun i=>.int .u8 (nat (b i)),.cells true [.fam 64 1 fun i=>.int .u32 (nat (W i))],.cells true [.int .u32 (nat (rnds w W t 0)),.int .u32 (nat (rnds w W t 1)),.int .u32 (nat (rnds w W t 2)),.int .u32 (nat (rnds w W t 3)),.int .u32 (nat (rnds w W t 4)),.int .u32 (nat (rnds w W t 5)),.int .u32 (nat (rnds w W t 6)),.int .u32 (nat (rnds w W t 7))]],[]⟩) ?_ ?_
     ·refine into_mk [some 0,some 1,some 2,some 3] [(0,.ptr 0 0),(4,.ptr 2 0),(9,.ptr 3 0),(100,.fam 64 1 fun i=>.int .u32 (nat (rootK i))),(101,.int .i64 (0:Nat))] [.cells true ([.int .u32 (nat (w 0)),.int .u32 (nat (w 1)),.int .u32 (nat (w 2)),.int .u32 (nat (w 3)),.int .u32 (nat (w 4)),.int .u32 (nat (w 5)),.int .u32 (nat (w 6)),.int .u32 (nat (w 7))]++rest),.row false n 1 fun i=>.int .u8 (nat (b i)),.cells true [.fam 64 1 fun i=>.int .u32 (nat (W i))],.cells true [.int .u32 (nat (rnds w W 0 0)),.int .u32 (nat (rnds w W 0 1)),.int .u32 (nat (rnds w W 0 2)),.int .u32 (nat (rnds w W 0 3)),.int .u32 (nat (rnds w W 0 4)),.int .u32 (nat (rnds w W 0 5)),.int .u32 (nat (rnds w W 0 6)),.int .u32 (nat (rnds w W 0 7))]] ?_ ?_ ?_ ?_ ?_ ?_ ?_ ?_
      ·simp [slot,lkL,fixed,rg,renH,chEq,lookH,eqvL,eqv,eqvF,rnmL,rnm,liveN,Chunk.live,goodH,Chunk.good,okL,ok,sz,szL,storL,stor,renT,okT]
      ·simp [slot,lkL,fixed,rg,renH,chEq,lookH,eqvL,eqv,eqvF,rnmL,rnm,liveN,Chunk.live,goodH,Chunk.good,okL,ok,sz,szL,storL,stor,renT,okT]
      ·simp [slot,lkL,fixed,rg,renH,chEq,lookH,eqvL,eqv,eqvF,rnmL,rnm,liveN,Chunk.live,goodH,Chunk.good,okL,ok,sz,szL,storL,stor,renT,okT,hr3,rnds]
      ·simp [slot,lkL,fixed,rg,renH,chEq,lookH,eqvL,eqv,eqvF,rnmL,rnm,liveN,Chunk.live,goodH,Chunk.good,okL,ok,sz,szL,storL,stor,renT,okT]
      ·simp [slot,lkL,fixed,rg,renH,chEq,lookH,eqvL,eqv,eqvF,rnmL,rnm,liveN,Chunk.live,goodH,Chunk.good,okL,ok,sz,szL,storL,stor,renT,okT,hok3,hrs]
      ·simp [slot,lkL,fixed,rg,renH,chEq,lookH,eqvL,eqv,eqvF,rnmL,rnm,liveN,Chunk.live,goodH,Chunk.good,okL,ok,sz,szL,storL,stor,renT,okT]
      ·simp [slot,lkL,fixed,rg,renH,chEq,lookH,eqvL,eqv,eqvF,rnmL,rnm,liveN,Chunk.live,goodH,Chunk.good,okL,ok,sz,szL,storL,stor,renT,okT]
      ·intro j
       exact ⟨64,0,j,rfl,rfl⟩
     ·rintro m3 s ⟨t,j,ht,rfl⟩
      have d0:IntKind.i64.wrap ((t:Int)+1) = ((t+1:Nat):Int):=by rw [wrap64 (by omega) (by omega)]; omega
      simp -implicitDefEqProofs (maxSteps:=1000000) (disch:=omega) only [↓zzP,zzA,zzL,Nat.reduceSub,reduceIte,reduceCtorEq,Nat.reduceLT,Int.reduceLE,↓reduceIte,Nat.reduceEqDiff,Nat.reduceLeDiff,Int.reduceNeg,Int.reduceToNat,Array.reduceGetElem?,↓gd,↓opP,↓qv,slot,putS,putO,ofV,idxA,idxS,oslN,unS,parts,single,rdF,Ent.row,ldS,sz,binH,binS2,binS,stor,qn,ldN,↓Array.reduceGetElem?,pl166]
      refine ⟨Sx.imp_intro fun hc=>?_,Sx.imp_intro fun hc=>?_⟩
      ·have ht':t < 64:=by have:=of_decide_eq_true hc; omega
       and_intros <;> try omega
       refine c67 _ _ 6 rfl rfl (by decide) _ _ ?_
       simp -implicitDefEqProofs (maxSteps:=1000000) (disch:=omega) only [↓zzP,zzA,reduceIte,Nat.reduceLT,↓reduceIte,Nat.reduceEqDiff,Array.reduceGetElem?,↓gd,↓opP,slot,putS,putO,ofV,↓Array.reduceGetElem?]
       refine c67 _ _ 11 rfl rfl (by decide) _ _ ?_
       simp -implicitDefEqProofs (maxSteps:=1000000) (disch:=omega) only [↓zzP,zzA,reduceIte,Nat.reduceLT,↓reduceIte,Nat.reduceEqDiff,Array.reduceGetElem?,↓gd,↓opP,↓qv,slot,putS,putO,ofV,oslN,binH,binS2,binS,qn,↓Array.reduceGetElem?]
       refine c67 _ _ 25 rfl rfl (by decide) _ _ ?_
       simp -implicitDefEqProofs (maxSteps:=1000000) (disch:=omega) only [↓zzP,zzA,Nat.reduceSub,reduceIte,reduceCtorEq,Nat.reduceLT,Int.reduceLE,↓reduceIte,Nat.reduceEqDiff,Nat.reduceLeDiff,Int.reduceToNat,Array.reduceGetElem?,↓gd,↓opP,↓qv,slot,putS,putO,ofV,idxA,oslN,single,rdF,Ent.row,ldS,sz,binH,binS2,binS,qn,ldN,↓Array.reduceGetElem?,pl166]
       and_intros <;> try omega
       refine c67 _ _ 2 rfl rfl (by decide) _ _ ?_
       simp -implicitDefEqProofs (maxSteps:=1000000) (disch:=omega) only [↓zzP,zzA,reduceIte,Nat.reduceLT,↓reduceIte,Nat.reduceEqDiff,Array.reduceGetElem?,↓gd,↓opP,slot,putS,putO,ofV,↓Array.reduceGetElem?]
       refine c67 _ _ 13 rfl rfl (by decide) _ _ ?_
       simp -implicitDefEqProofs (maxSteps:=1000000) (disch:=omega) only [↓zzP,zzA,reduceIte,Nat.reduceLT,↓reduceIte,Nat.reduceEqDiff,Array.reduceGetElem?,↓gd,↓opP,↓qv,slot,putS,putO,ofV,oslN,binH,binS2,binS,qn,↓Array.reduceGetElem?]
       refine c67 _ _ 22 rfl rfl (by decide) _ _ ?_
       simp -implicitDefEqProofs (maxSteps:=1000000) (disch:=omega) only [↓zzP,zzA,Nat.reduceSub,reduceIte,reduceCtorEq,Nat.reduceLT,Int.reduceLE,↓reduceIte,Nat.reduceEqDiff,Nat.reduceLeDiff,Nat.reduceAdd,Int.reduceToNat,Array.reduceGetElem?,↓gd,↓opP,↓qv,↓ef,↓stS,slot,putS,putO,ofV,idxA,parts,single,rdF,Ent.row,ldS,sz,wrF,bldS,binH,binS2,binS,stor,↓Array.reduceGetElem?,d0]
       and_intros <;> try omega
       refine into_mk [some 0,some 1,some 2,some 3] [(0,.ptr 0 0),(4,.ptr 2 0),(9,.ptr 3 0),(100,.fam 64 1 fun i=>.int .u32 (nat (rootK i))),(101,.int .i64 (t+1:Nat))] [.cells true ([.int .u32 (nat (w 0)),.int .u32 (nat (w 1)),.int .u32 (nat (w 2)),.int .u32 (nat (w 3)),.int .u32 (nat (w 4)),.int .u32 (nat (w 5)),.int .u32 (nat (w 6)),.int .u32 (nat (w 7))]++rest),.row false n 1 fun i=>.int .u8 (nat (b i)),.cells true [.fam 64 1 fun i=>.int .u32 (nat (W i))],.cells true [.int .u32 (nat (rnds w W (t+1) 0)),.int .u32 (nat (rnds w W (t+1) 1)),.int .u32 (nat (rnds w W (t+1) 2)),.int .u32 (nat (rnds w W (t+1) 3)),.int .u32 (nat (rnds w W (t+1) 4)),.int .u32 (nat (rnds w W (t+1) 5)),.int .u32 (nat (rnds w W (t+1) 6)),.int .u32 (nat (rnds w W (t+1) 7))]] ?_ ?_ ?_ ?_ ?_ ?_ ?_ ?_
       ·simp [slot,lkL,fixed,rg,renH,chEq,lookH,eqvL,eqv,eqvF,rnmL,rnm,liveN,Chunk.live,goodH,Chunk.good,okL,ok,sz,szL,storL,stor,renT,okT]
       ·simp [slot,lkL,fixed,rg,renH,chEq,lookH,eqvL,eqv,eqvF,rnmL,rnm,liveN,Chunk.live,goodH,Chunk.good,okL,ok,sz,szL,storL,stor,renT,okT]
       ·simp [slot,lkL,fixed,rg,renH,chEq,lookH,eqvL,eqv,eqvF,rnmL,rnm,liveN,Chunk.live,goodH,Chunk.good,okL,ok,sz,szL,storL,stor,renT,okT,hr3,rnds,rnd]
       ·simp [slot,lkL,fixed,rg,renH,chEq,lookH,eqvL,eqv,eqvF,rnmL,rnm,liveN,Chunk.live,goodH,Chunk.good,okL,ok,sz,szL,storL,stor,renT,okT]
       ·simp [slot,lkL,fixed,rg,renH,chEq,lookH,eqvL,eqv,eqvF,rnmL,rnm,liveN,Chunk.live,goodH,Chunk.good,okL,ok,sz,szL,storL,stor,renT,okT,hok3,hrs]
       ·simp [slot,lkL,fixed,rg,renH,chEq,lookH,eqvL,eqv,eqvF,rnmL,rnm,liveN,Chunk.live,goodH,Chunk.good,okL,ok,sz,szL,storL,stor,renT,okT]
       ·simp [slot,lkL,fixed,rg,renH,chEq,lookH,eqvL,eqv,eqvF,rnmL,rnm,liveN,Chunk.live,goodH,Chunk.good,okL,ok,sz,szL,storL,stor,renT,okT]
       ·intro j
        exact ⟨m3 - 1,by omega,t+1,j,by omega,rfl⟩
      ·have ht':t = 64:=by
        have:=of_decide_eq_false hc
        omega
       subst ht'
       refine codeP_rounds tabOk follows_mixed (pl:=pl166) (by kernel_rfl) 9 ?_
       simp -implicitDefEqProofs (maxSteps:=1000000) (disch:=omega) only [↓zzP,zzA,zzL,Nat.reduceSub,reduceIte,reduceCtorEq,Nat.reduceLT,Int.reduceLE,↓reduceIte,Nat.reduceEqDiff,Nat.reduceLeDiff,Int.reduceLT,Int.reduceToNat,Array.reduceGetElem?,↓gd,↓opP,↓qv,↓ef,↓stS,slot,putS,putO,ofV,idxA,oslN,parts,single,rdF,Ent.row,ldS,sz,wrF,binH,binS2,binS,stor,qn,ldN,↓Array.reduceGetElem?,pl166,takeC_zero,wrap64,Int.reduceAdd]
       subst hW
       and_intros <;> try omega
       refine intoR_mk [some 0,some 1] (.tup []) [.cells true ([.int .u32 (nat (comp w (fun i=>b (e+i)) 0)),.int .u32 (nat (comp w (fun i=>b (e+i)) 1)),.int .u32 (nat (comp w (fun i=>b (e+i)) 2)),.int .u32 (nat (comp w (fun i=>b (e+i)) 3)),.int .u32 (nat (comp w (fun i=>b (e+i)) 4)),.int .u32 (nat (comp w (fun i=>b (e+i)) 5)),.int .u32 (nat (comp w (fun i=>b (e+i)) 6)),.int .u32 (nat (comp w (fun i=>b (e+i)) 7))]++rest),.row false n 1 fun i=>.int .u8 (nat (b i))] ?_ ?_ ?_ ?_ ?_ ?_ ?_ hK
       ·simp [slot,lkL,fixed,rg,renH,chEq,lookH,eqvL,eqv,eqvF,rnmL,rnm,liveN,Chunk.live,goodH,Chunk.good,okL,ok,sz,szL,storL,stor,renT,okT]
       ·simp [slot,lkL,fixed,rg,renH,chEq,lookH,eqvL,eqv,eqvF,rnmL,rnm,liveN,Chunk.live,goodH,Chunk.good,okL,ok,sz,szL,storL,stor,renT,okT]
       ·simp [slot,lkL,fixed,rg,renH,chEq,lookH,eqvL,eqv,eqvF,rnmL,rnm,liveN,Chunk.live,goodH,Chunk.good,okL,ok,sz,szL,storL,stor,renT,okT,hr3,comp]
       ·simp [slot,lkL,fixed,rg,renH,chEq,lookH,eqvL,eqv,eqvF,rnmL,rnm,liveN,Chunk.live,goodH,Chunk.good,okL,ok,sz,szL,storL,stor,renT,okT]
       ·simp [slot,lkL,fixed,rg,renH,chEq,lookH,eqvL,eqv,eqvF,rnmL,rnm,liveN,Chunk.live,goodH,Chunk.good,okL,ok,sz,szL,storL,stor,renT,okT,hok3,hrs]
       ·simp [slot,lkL,fixed,rg,renH,chEq,lookH,eqvL,eqv,eqvF,rnmL,rnm,liveN,Chunk.live,goodH,Chunk.good,okL,ok,sz,szL,storL,stor,renT,okT]
       ·simp [slot,lkL,fixed,rg,renH,chEq,lookH,eqvL,eqv,eqvF,rnmL,rnm,liveN,Chunk.live,goodH,Chunk.good,okL,ok,sz,szL,storL,stor,renT,okT]
end Go.Proofs.Ytgocfglmideobaa.S
set_option linter.all false
set_option maxRecDepth 40000
namespace Go.Proofs.Ytgocfglmideobaa.S
open Go Go.Sx
def ivL:List (BitVec 32):=[1779033703,3144134277,1013904242,2773480762,1359893119,2600822924,528734635,1541459225]
def iv (i:Nat):BitVec 32:=ivL.getD i 0
theorem res53:Try.f165.results.toList = [.cell 0 200]:=rfl
theorem c53l (K:Tok→SV→List Chunk→Prop) (hK:K .mk (.agg [.int .u32 (nat (iv 0)),.int .u32 (nat (iv 1)),.int .u32 (nat (iv 2)),.int .u32 (nat (iv 3)),.int .u32 (nat (iv 4)),.int .u32 (nat (iv 5)),.int .u32 (nat (iv 6)),.int .u32 (nat (iv 7))]) []):callP Try.prog 165 [] [] K:=by
 refine callP_of_code tabOk Try.func165 (by kernel_rfl) rfl (Nat.le_of_ble_eq_true rfl) (codeP_of_vc (pl:=np) tabOk follows_mixed (by kernel_rfl) ?_)
 rw [Try.ntmps165]
 simp -implicitDefEqProofs (maxSteps:=1000000) (disch:=omega) only [↓zzP,zzA,Nat.reduceSub,reduceIte,reduceCtorEq,Nat.reduceLT,↓reduceIte,Nat.reduceLeDiff,Nat.reduceAdd,↓gd,↓opP,↓qv,↓ef,↓stS,slot,putS,putO,ofV,parts,rdF,Ent.row,ldS,sz,wrF,bldS,tupS,stor,res53]
 refine intoR_mk [] (.agg [.int .u32 (nat (iv 0)),.int .u32 (nat (iv 1)),.int .u32 (nat (iv 2)),.int .u32 (nat (iv 3)),.int .u32 (nat (iv 4)),.int .u32 (nat (iv 5)),.int .u32 (nat (iv 6)),.int .u32 (nat (iv 7))]) [] ?_ ?_ ?_ ?_ ?_ ?_ ?_ hK
 ·simp [slot,lkL,fixed,rg,renH,chEq,lookH,eqvL,eqv,eqvF,rnmL,rnm,liveN,Chunk.live,goodH,Chunk.good,okL,ok,sz,szL,storL,stor,renT,okT]
 ·simp [slot,lkL,fixed,rg,renH,chEq,lookH,eqvL,eqv,eqvF,rnmL,rnm,liveN,Chunk.live,goodH,Chunk.good,okL,ok,sz,szL,storL,stor,renT,okT]
 ·simp [slot,lkL,fixed,rg,renH,chEq,lookH,eqvL,eqv,eqvF,rnmL,rnm,liveN,Chunk.live,goodH,Chunk.good,okL,ok,sz,szL,storL,stor,renT,okT]
 ·simp [slot,lkL,fixed,rg,renH,chEq,lookH,eqvL,eqv,eqvF,rnmL,rnm,liveN,Chunk.live,goodH,Chunk.good,okL,ok,sz,szL,storL,stor,renT,okT]
 ·simp [slot,lkL,fixed,rg,renH,chEq,lookH,eqvL,eqv,eqvF,rnmL,rnm,liveN,Chunk.live,goodH,Chunk.good,okL,ok,sz,szL,storL,stor,renT,okT]
 ·simp [slot,lkL,fixed,rg,renH,chEq,lookH,eqvL,eqv,eqvF,rnmL,rnm,liveN,Chunk.live,goodH,Chunk.good,okL,ok,sz,szL,storL,stor,renT,okT,iv,ivL,nat]
 ·simp [slot,lkL,fixed,rg,renH,chEq,lookH,eqvL,eqv,eqvF,rnmL,rnm,liveN,Chunk.live,goodH,Chunk.good,okL,ok,sz,szL,storL,stor,renT,okT]
theorem c53 (h:List Chunk) (K:Tok→SV→List Chunk→Prop) (hK:K .mk (.agg [.int .u32 (nat (iv 0)),.int .u32 (nat (iv 1)),.int .u32 (nat (iv 2)),.int .u32 (nat (iv 3)),.int .u32 (nat (iv 4)),.int .u32 (nat (iv 5)),.int .u32 (nat (iv 6)),.int .u32 (nat (iv 7))]) h):callP Try.prog 165 [] h K :=
 callP_frame (KL:=fun _ v h'=>v = .agg [.int .u32 (nat (iv 0)),.int .u32 (nat (iv 1)),.int .u32 (nat (iv 2)),.int .u32 (nat (iv 3)),.int .u32 (nat (iv 4)),.int .u32 (nat (iv 5)),.int .u32 (nat (iv 6)),.int .u32 (nat (iv 7))]∧h' = []) [] (c53l _ ⟨rfl,rfl⟩) List.nodup_nil trivial trivial trivial rfl (by
  rintro v h' ⟨rfl,rfl⟩
  refine ⟨?_,trivial,?_⟩
  ·intro c hc; cases hc
  ·simpa [rnm,rnmL,lay] using hK)
theorem res16:Try.f148.results.toList = [.tmp 0]:=rfl
theorem c16l (K:Tok→SV→List Chunk→Prop) (hK:K .mk (.ptr 0 0) [.cells true [.int .u32 (nat (iv 0)),.int .u32 (nat (iv 1)),.int .u32 (nat (iv 2)),.int .u32 (nat (iv 3)),.int .u32 (nat (iv 4)),.int .u32 (nat (iv 5)),.int .u32 (nat (iv 6)),.int .u32 (nat (iv 7)),.osl 1 0 0 1 0,.int .i64 0],.row true 0 1 fun i=>.int .u8 0]):callP Try.prog 148 [] [] K:=by
 refine callP_of_code tabOk Try.func148 (by kernel_rfl) rfl (Nat.le_of_ble_eq_true rfl) (codeP_of_vc (pl:=np) tabOk follows_mixed (by kernel_rfl) ?_)
 rw [Try.ntmps148]
 simp -implicitDefEqProofs (maxSteps:=1000000) (disch:=omega) only [↓zzP,zzA,reduceIte,Nat.reduceLT,↓reduceIte,↓gd,↓opP,↓qv,slot,putS,putO,ofV,tupS,res16]
 refine c53 _ _ ?_
 simp -implicitDefEqProofs (maxSteps:=1000000) (disch:=omega) only [↓zzP,zzA,Nat.reduceSub,reduceIte,reduceCtorEq,Nat.reduceLT,↓reduceIte,Nat.reduceLeDiff,Nat.reduceAdd,↓gd,↓opP,↓qv,↓ef,slot,putS,putO,parts,sz,wrF,plT,bldS,stor,Value.oneCell']
 refine intoR_mk [some 0,none] (.ptr 0 0) [.cells true [.int .u32 (nat (iv 0)),.int .u32 (nat (iv 1)),.int .u32 (nat (iv 2)),.int .u32 (nat (iv 3)),.int .u32 (nat (iv 4)),.int .u32 (nat (iv 5)),.int .u32 (nat (iv 6)),.int .u32 (nat (iv 7)),.osl 1 0 0 1 0,.int .i64 0],.row true 0 1 fun i=>.int .u8 0] ?_ ?_ ?_ ?_ ?_ ?_ ?_ hK
 ·simp [slot,lkL,fixed,rg,renH,chEq,lookH,eqvL,eqv,eqvF,rnmL,rnm,liveN,Chunk.live,goodH,Chunk.good,okL,ok,sz,szL,storL,stor,renT,okT]
 ·simp [slot,lkL,fixed,rg,renH,chEq,lookH,eqvL,eqv,eqvF,rnmL,rnm,liveN,Chunk.live,goodH,Chunk.good,okL,ok,sz,szL,storL,stor,renT,okT]
 ·simp [slot,lkL,fixed,rg,renH,chEq,lookH,eqvL,eqv,eqvF,rnmL,rnm,liveN,Chunk.live,goodH,Chunk.good,okL,ok,sz,szL,storL,stor,renT,okT]
 ·simp [slot,lkL,fixed,rg,renH,chEq,lookH,eqvL,eqv,eqvF,rnmL,rnm,liveN,Chunk.live,goodH,Chunk.good,okL,ok,sz,szL,storL,stor,renT,okT]
 ·simp [slot,lkL,fixed,rg,renH,chEq,lookH,eqvL,eqv,eqvF,rnmL,rnm,liveN,Chunk.live,goodH,Chunk.good,okL,ok,sz,szL,storL,stor,renT,okT]
 ·simp [slot,lkL,fixed,rg,renH,chEq,lookH,eqvL,eqv,eqvF,rnmL,rnm,liveN,Chunk.live,goodH,Chunk.good,okL,ok,sz,szL,storL,stor,renT,okT]
 ·simp [slot,lkL,fixed,rg,renH,chEq,lookH,eqvL,eqv,eqvF,rnmL,rnm,liveN,Chunk.live,goodH,Chunk.good,okL,ok,sz,szL,storL,stor,renT,okT]
def pl149:Nat→Plan
 | 4=>(.q 0 (.q 1 (.q 2 (.q 3 (.q 4 (.q 5 (.q 6 (.q 7 (.e1 8 [6,7] .nil)))))))))
 | _=>.nil
def blk (w:Nat→BitVec 32) (T:Nat→BitVec 8):Nat→Nat→BitVec 32
 | 0=>w
 | j+1=>comp (blk w T j) fun i=>T (64 * j+i)
def cat (n:Nat) (L B:Nat→BitVec 8) (i:Nat):BitVec 8:=if i < n then L i else B (i - n)
theorem res17:Try.f149.results.toList = []:=rfl
set_option maxHeartbeats 4000000 in
theorem c17l (w:Nat→BitVec 32) (cnt n d e len m:Nat) (L B:Nat→BitVec 8) (hm:e+len≤m) (hc:cnt+len < 9223372036854775808) (hl:n+len≤70368744177664) (K:Tok→SV→List Chunk→Prop)
  (hK:K .mk (.tup []) [.cells true [.int .u32 (nat (blk w (cat n L fun i=>B (e+i)) ((n+len) / 64) 0)),.int .u32 (nat (blk w (cat n L fun i=>B (e+i)) ((n+len) / 64) 1)),.int .u32 (nat (blk w (cat n L fun i=>B (e+i)) ((n+len) / 64) 2)),.int .u32 (nat (blk w (cat n L fun i=>B (e+i)) ((n+len) / 64) 3)),.int .u32 (nat (blk w (cat n L fun i=>B (e+i)) ((n+len) / 64) 4)),.int .u32 (nat (blk w (cat n L fun i=>B (e+i)) ((n+len) / 64) 5)),.int .u32 (nat (blk w (cat n L fun i=>B (e+i)) ((n+len) / 64) 6)),.int .u32 (nat (blk w (cat n L fun i=>B (e+i)) ((n+len) / 64) 7)),.osl 3 0 0 1 (n+len - 64 * ((n+len) / 64)),.int .i64 (cnt+len:Nat)],.none,.row false m 1 (fun i=>.int .u8 (nat (B i))),
   .row true (n+len - 64 * ((n+len) / 64)) 1 fun i=>.int .u8 (nat (cat n L (fun i=>B (e+i)) (64 * ((n+len) / 64)+i)))]) :
  callP Try.prog 149 [.ptr 0 0,.osl 2 d e 1 len] [.cells true [.int .u32 (nat (w 0)),.int .u32 (nat (w 1)),.int .u32 (nat (w 2)),.int .u32 (nat (w 3)),.int .u32 (nat (w 4)),.int .u32 (nat (w 5)),.int .u32 (nat (w 6)),.int .u32 (nat (w 7)),.osl 1 0 0 1 n,.int .i64 (cnt:Nat)],.row true n 1 (fun i=>.int .u8 (nat (L i))),.row false m 1 fun i=>.int .u8 (nat (B i))] K:=by
 refine callP_of_code tabOk Try.func149 (by kernel_rfl) rfl (Nat.le_of_ble_eq_true rfl) (codeP_of_vc (pl:=pl149) tabOk follows_mixed (by kernel_rfl) ?_)
 rw [Try.ntmps149]
 have a0:IntKind.i64.wrap ((cnt:Int)+(len:Int)) = ((cnt+len:Nat):Int):=by rw [wrap64 (by omega) (by omega)]; omega
 simp -implicitDefEqProofs (maxSteps:=1000000) (disch:=omega) only [↓zzP,zzA,zzL,Nat.reduceSub,reduceIte,reduceCtorEq,Nat.reduceLT,↓reduceIte,Nat.reduceEqDiff,Nat.reduceLeDiff,Nat.reduceAdd,↓gd,↓opP,↓qv,↓ef,↓stS,↓appS,slot,putS,putO,ofV,fldA,lenS,parts,single,rdF,Ent.row,ldS,sz,wrF,srcS,nilS,nilEq,binH,binS2,binS,tupS,stor,notInt,a0,Option.isNone]
 refine ⟨⟨hm,by omega,by omega⟩,?_⟩
 obtain ⟨T,hT⟩:∃ T,T = cat n L fun i=>B (e+i):=⟨_,rfl⟩
 rw [← hT] at hK
 refine codeP_loop (pl:=pl149) tabOk follows_mixed (by kernel_rfl) (fun m' s=>∃ (k d':Nat) (j:Nat→Value),k+m' = (n+len) / 64∧s = ⟨⟨55,[(0,.ptr 0 0)],j⟩,[.cells true [.int .u32 (nat (blk w T k 0)),.int .u32 (nat (blk w T k 1)),.int .u32 (nat (blk w T k 2)),.int .u32 (nat (blk w T k 3)),.int .u32 (nat (blk w T k 4)),.int .u32 (nat (blk w T k 5)),.int .u32 (nat (blk w T k 6)),.int .u32 (nat (blk w T k 7)),.osl 3 d' (64 * k) 1 (n+len - 64 * k),.int .i64 (cnt+len:Nat)],.none,.row false m 1 (fun i=>.int .u8 (nat (B i))),.row true (n+len) 1 fun i=>.int .u8 (nat (T i))],[]⟩) ?_ ?_
 ·refine into_mk [some 0,some 1,some 2,some 3] [(0,.ptr 0 0)] [.cells true [.int .u32 (nat (blk w T 0 0)),.int .u32 (nat (blk w T 0 1)),.int .u32 (nat (blk w T 0 2)),.int .u32 (nat (blk w T 0 3)),.int .u32 (nat (blk w T 0 4)),.int .u32 (nat (blk w T 0 5)),.int .u32 (nat (blk w T 0 6)),.int .u32 (nat (blk w T 0 7)),.osl 3 0 (64 * 0) 1 (n+len - 64 * 0),.int .i64 (cnt+len:Nat)],.none,.row false m 1 (fun i=>.int .u8 (nat (B i))),.row true (n+len) 1 fun i=>.int .u8 (nat (T i))] ?_ ?_ ?_ ?_ ?_ ?_ ?_ ?_
  ·simp [slot,lkL,fixed,rg,renH,chEq,lookH,eqvL,eqv,eqvF,rnmL,rnm,liveN,Chunk.live,goodH,Chunk.good,okL,ok,sz,szL,storL,stor,renT,okT]
  ·simp [slot,lkL,fixed,rg,renH,chEq,lookH,eqvL,eqv,eqvF,rnmL,rnm,liveN,Chunk.live,goodH,Chunk.good,okL,ok,sz,szL,storL,stor,renT,okT]
  ·simp [slot,lkL,fixed,rg,renH,chEq,lookH,eqvL,eqv,eqvF,rnmL,rnm,liveN,Chunk.live,goodH,Chunk.good,okL,ok,sz,szL,storL,stor,renT,okT,blk]
   intro i hi
   subst hT
   by_cases h:i < n <;> simp [h,cat,eqv]
  ·simp [slot,lkL,fixed,rg,renH,chEq,lookH,eqvL,eqv,eqvF,rnmL,rnm,liveN,Chunk.live,goodH,Chunk.good,okL,ok,sz,szL,storL,stor,renT,okT]
  ·simp [slot,lkL,fixed,rg,renH,chEq,lookH,eqvL,eqv,eqvF,rnmL,rnm,liveN,Chunk.live,goodH,Chunk.good,okL,ok,sz,szL,storL,stor,renT,okT]
  ·simp [slot,lkL,fixed,rg,renH,chEq,lookH,eqvL,eqv,eqvF,rnmL,rnm,liveN,Chunk.live,goodH,Chunk.good,okL,ok,sz,szL,storL,stor,renT,okT]
  ·simp [slot,lkL,fixed,rg,renH,chEq,lookH,eqvL,eqv,eqvF,rnmL,rnm,liveN,Chunk.live,goodH,Chunk.good,okL,ok,sz,szL,storL,stor,renT,okT]
  ·intro j
   exact ⟨(n+len) / 64,0,0,j,by omega,rfl⟩
 ·rintro m' s ⟨k,d',j,hk,rfl⟩
  have hk2:64 * k≤n+len:=by omega
  simp -implicitDefEqProofs (maxSteps:=1000000) (disch:=omega) only [↓zzP,zzA,zzL,Nat.reduceSub,reduceIte,reduceCtorEq,Nat.reduceLT,Int.reduceLE,↓reduceIte,Nat.reduceEqDiff,Nat.reduceLeDiff,Nat.reduceAdd,Int.reduceToNat,Array.reduceGetElem?,↓gd,↓opP,↓qv,↓ef,↓stS,↓appS,slot,putS,putO,ofV,fldA,oslN,bnd,slS,lenS,parts,single,rdF,Ent.row,ldS,sz,wrF,srcS,binH,binS2,binS,stor,qn,ldN,notInt,↓Array.reduceGetElem?,pl149,res17]
  refine ⟨Sx.imp_intro fun hc'=>?_,Sx.imp_intro fun hc'=>?_⟩
  ·have hk3:64 * k+64≤n+len:=by have:=of_decide_eq_true hc'; omega
   and_intros <;> try omega
   refine callP_frame (hl:=[.cells true ([.int .u32 (nat (blk w T k 0)),.int .u32 (nat (blk w T k 1)),.int .u32 (nat (blk w T k 2)),.int .u32 (nat (blk w T k 3)),.int .u32 (nat (blk w T k 4)),.int .u32 (nat (blk w T k 5)),.int .u32 (nat (blk w T k 6)),.int .u32 (nat (blk w T k 7))]++[.osl 1 d' (64 * k) 1 (n+len - 64 * k),.int .i64 (cnt+len:Nat)]),.row false (n+len) 1 fun i=>.int .u8 (nat (T i))]) (argsL:=[.ptr 0 0,.osl 1 d' (64 * k) 1 64])
    (KL:=fun _ v h'=>v = .tup []∧h' = [.cells true ([.int .u32 (nat (comp (blk w T k) (fun i=>T (64 * k+i)) 0)),.int .u32 (nat (comp (blk w T k) (fun i=>T (64 * k+i)) 1)),.int .u32 (nat (comp (blk w T k) (fun i=>T (64 * k+i)) 2)),.int .u32 (nat (comp (blk w T k) (fun i=>T (64 * k+i)) 3)),.int .u32 (nat (comp (blk w T k) (fun i=>T (64 * k+i)) 4)),.int .u32 (nat (comp (blk w T k) (fun i=>T (64 * k+i)) 5)),.int .u32 (nat (comp (blk w T k) (fun i=>T (64 * k+i)) 6)),.int .u32 (nat (comp (blk w T k) (fun i=>T (64 * k+i)) 7))]++[.osl 1 d' (64 * k) 1 (n+len - 64 * k),.int .i64 (cnt+len:Nat)]),.row false (n+len) 1 fun i=>.int .u8 (nat (T i))]) [0,3]
    (c54l (blk w T k) [.osl 1 d' (64 * k) 1 (n+len - 64 * k),.int .i64 (cnt+len:Nat)] d' (64 * k) (n+len) T (by omega) (by simp [okL,ok]) (by simp [storL,stor]) _ ⟨rfl,rfl⟩) ?_ ?_ ?_ ?_ ?_ ?_
   ·simp
   ·simp [slot,lkL,fixed,rg,renH,chEq,lookH,eqvL,eqv,eqvF,rnmL,rnm,liveN,Chunk.live,goodH,Chunk.good,okL,ok,sz,szL,storL,stor,renT,okT,has,upG,up,nth,roOk,keepsLive,Chunk.wr,lay,rnmC,putH]
   ·simp [slot,lkL,fixed,rg,renH,chEq,lookH,eqvL,eqv,eqvF,rnmL,rnm,liveN,Chunk.live,goodH,Chunk.good,okL,ok,sz,szL,storL,stor,renT,okT,has,upG,up,nth,roOk,keepsLive,Chunk.wr,lay,rnmC,putH]
   ·simp [slot,lkL,fixed,rg,renH,chEq,lookH,eqvL,eqv,eqvF,rnmL,rnm,liveN,Chunk.live,goodH,Chunk.good,okL,ok,sz,szL,storL,stor,renT,okT,has,upG,up,nth,roOk,keepsLive,Chunk.wr,lay,rnmC,putH]
   ·simp [slot,lkL,fixed,rg,renH,chEq,lookH,eqvL,eqv,eqvF,rnmL,rnm,liveN,Chunk.live,goodH,Chunk.good,okL,ok,sz,szL,storL,stor,renT,okT,has,upG,up,nth,roOk,keepsLive,Chunk.wr,lay,rnmC,putH]
   ·rintro v h' ⟨rfl,rfl⟩
    refine ⟨by simp [slot,lkL,fixed,rg,renH,chEq,lookH,eqvL,eqv,eqvF,rnmL,rnm,liveN,Chunk.live,goodH,Chunk.good,okL,ok,sz,szL,storL,stor,renT,okT,has,upG,up,nth,roOk,keepsLive,Chunk.wr,lay,rnmC,putH],by simp [slot,lkL,fixed,rg,renH,chEq,lookH,eqvL,eqv,eqvF,rnmL,rnm,liveN,Chunk.live,goodH,Chunk.good,okL,ok,sz,szL,storL,stor,renT,okT,has,upG,up,nth,roOk,keepsLive,Chunk.wr,lay,rnmC,putH],?_⟩
    simp -implicitDefEqProofs (maxSteps:=1000000) (disch:=omega) only [↓zzP,zzA,zzL,Nat.reduceSub,reduceIte,reduceCtorEq,Nat.reduceLT,Int.reduceLE,↓reduceIte,Nat.reduceEqDiff,Nat.reduceLeDiff,Nat.reduceAdd,Int.reduceToNat,↓gd,↓opP,↓qv,↓ef,↓stS,slot,putS,putO,ofV,fldA,bnd,slS,parts,single,rdF,Ent.row,ldS,sz,wrF,stor,upG,up,nth,lay,rnmC,rnm,rnmL,Chunk.wr]
    and_intros <;> try omega
    refine into_mk [some 0,some 1,some 2,some 3] [(0,.ptr 0 0)] [.cells true [.int .u32 (nat (blk w T (k+1) 0)),.int .u32 (nat (blk w T (k+1) 1)),.int .u32 (nat (blk w T (k+1) 2)),.int .u32 (nat (blk w T (k+1) 3)),.int .u32 (nat (blk w T (k+1) 4)),.int .u32 (nat (blk w T (k+1) 5)),.int .u32 (nat (blk w T (k+1) 6)),.int .u32 (nat (blk w T (k+1) 7)),.osl 3 (64 * k) (64 * (k+1)) 1 (n+len - 64 * (k+1)),.int .i64 (cnt+len:Nat)],.none,.row false m 1 (fun i=>.int .u8 (nat (B i))),.row true (n+len) 1 fun i=>.int .u8 (nat (T i))] ?_ ?_ ?_ ?_ ?_ ?_ ?_ ?_
    ·simp [slot,lkL,fixed,rg,renH,chEq,lookH,eqvL,eqv,eqvF,rnmL,rnm,liveN,Chunk.live,goodH,Chunk.good,okL,ok,sz,szL,storL,stor,renT,okT]
    ·simp [slot,lkL,fixed,rg,renH,chEq,lookH,eqvL,eqv,eqvF,rnmL,rnm,liveN,Chunk.live,goodH,Chunk.good,okL,ok,sz,szL,storL,stor,renT,okT]
    ·simp [slot,lkL,fixed,rg,renH,chEq,lookH,eqvL,eqv,eqvF,rnmL,rnm,liveN,Chunk.live,goodH,Chunk.good,okL,ok,sz,szL,storL,stor,renT,okT,blk,Nat.mul_add]
     try omega
    ·simp [slot,lkL,fixed,rg,renH,chEq,lookH,eqvL,eqv,eqvF,rnmL,rnm,liveN,Chunk.live,goodH,Chunk.good,okL,ok,sz,szL,storL,stor,renT,okT]
    ·simp [slot,lkL,fixed,rg,renH,chEq,lookH,eqvL,eqv,eqvF,rnmL,rnm,liveN,Chunk.live,goodH,Chunk.good,okL,ok,sz,szL,storL,stor,renT,okT]
    ·simp [slot,lkL,fixed,rg,renH,chEq,lookH,eqvL,eqv,eqvF,rnmL,rnm,liveN,Chunk.live,goodH,Chunk.good,okL,ok,sz,szL,storL,stor,renT,okT]
    ·simp [slot,lkL,fixed,rg,renH,chEq,lookH,eqvL,eqv,eqvF,rnmL,rnm,liveN,Chunk.live,goodH,Chunk.good,okL,ok,sz,szL,storL,stor,renT,okT]
    ·intro j
     exact ⟨m' - 1,by omega,k+1,64 * k,j,by omega,rfl⟩
  ·have hk3:n+len < 64 * k+64:=by have:=of_decide_eq_false hc'; omega
   have hk4:k = (n+len) / 64:=by omega
   subst hk4
   refine ⟨⟨by omega,by omega,by omega⟩,?_⟩
   refine intoR_mk [some 0,some 1,some 2,some 4] (.tup []) [.cells true [.int .u32 (nat (blk w T ((n+len) / 64) 0)),.int .u32 (nat (blk w T ((n+len) / 64) 1)),.int .u32 (nat (blk w T ((n+len) / 64) 2)),.int .u32 (nat (blk w T ((n+len) / 64) 3)),.int .u32 (nat (blk w T ((n+len) / 64) 4)),.int .u32 (nat (blk w T ((n+len) / 64) 5)),.int .u32 (nat (blk w T ((n+len) / 64) 6)),.int .u32 (nat (blk w T ((n+len) / 64) 7)),.osl 3 0 0 1 (n+len - 64 * ((n+len) / 64)),.int .i64 (cnt+len:Nat)],.none,.row false m 1 (fun i=>.int .u8 (nat (B i))),
    .row true (n+len - 64 * ((n+len) / 64)) 1 fun i=>.int .u8 (nat (T (64 * ((n+len) / 64)+i)))] ?_ ?_ ?_ ?_ ?_ ?_ ?_ hK
   ·simp [slot,lkL,fixed,rg,renH,chEq,lookH,eqvL,eqv,eqvF,rnmL,rnm,liveN,Chunk.live,goodH,Chunk.good,okL,ok,sz,szL,storL,stor,renT,okT]
   ·simp [slot,lkL,fixed,rg,renH,chEq,lookH,eqvL,eqv,eqvF,rnmL,rnm,liveN,Chunk.live,goodH,Chunk.good,okL,ok,sz,szL,storL,stor,renT,okT]
   ·simp [slot,lkL,fixed,rg,renH,chEq,lookH,eqvL,eqv,eqvF,rnmL,rnm,liveN,Chunk.live,goodH,Chunk.good,okL,ok,sz,szL,storL,stor,renT,okT]
   ·simp [slot,lkL,fixed,rg,renH,chEq,lookH,eqvL,eqv,eqvF,rnmL,rnm,liveN,Chunk.live,goodH,Chunk.good,okL,ok,sz,szL,storL,stor,renT,okT]
   ·simp [slot,lkL,fixed,rg,renH,chEq,lookH,eqvL,eqv,eqvF,rnmL,rnm,liveN,Chunk.live,goodH,Chunk.good,okL,ok,sz,szL,storL,stor,renT,okT]
   ·simp [slot,lkL,fixed,rg,renH,chEq,lookH,eqvL,eqv,eqvF,rnmL,rnm,liveN,Chunk.live,goodH,Chunk.good,okL,ok,sz,szL,storL,stor,renT,okT]
   ·simp [slot,lkL,fixed,rg,renH,chEq,lookH,eqvL,eqv,eqvF,rnmL,rnm,liveN,Chunk.live,goodH,Chunk.good,okL,ok,sz,szL,storL,stor,renT,okT]
end Go.Proofs.Ytgocfglmideobaa.S
set_option linter.all false
set_option maxRecDepth 40000
namespace Go.Proofs.Ytgocfglmideobaa.S
open Go Go.Sx
def zs (n:Nat):Nat:=(119 - n) % 64
def pad0 (n z:Nat) (L:Nat→BitVec 8) (i:Nat):BitVec 8:=if i < n then L i else if i = n then 128#8 else 0
def padF (n:Nat) (cnt:BitVec 64) (L:Nat→BitVec 8) (i:Nat):BitVec 8 :=
 if i < n+1+zs n then pad0 n (zs n) L i else ((cnt <<< 3) >>> (8 * (7 - (i - (n+1+zs n))))).setWidth 8
def dig (W:Nat→BitVec 32) (i:Nat):BitVec 8:=(W (i / 4) >>> (24 - 8 * (i % 4))).setWidth 8
theorem rem_nat (a b:Nat):((a:Int)).tmod (b:Int) = ((a % b:Nat):Int):=by
 rw [Int.tmod_eq_emod_of_nonneg (by omega)]; exact (Int.natCast_emod a b).symm
theorem res19:Try.f150.results.toList = [.cell 2 23]:=rfl
set_option maxHeartbeats 4000000 in
theorem c19l (w:Nat→BitVec 32) (cnt n:Nat) (L:Nat→BitVec 8) (hn:n < 64) (hc:cnt < 9223372036854775808) (K:Tok→SV→List Chunk→Prop)
  (hK:K .mk (.fam 32 1 fun i=>.int .u8 (nat (dig (blk w (padF n (BitVec.ofNat 64 cnt) L) ((n+1+zs n+8) / 64)) i))) [.cells true [.int .u32 (nat (w 0)),.int .u32 (nat (w 1)),.int .u32 (nat (w 2)),.int .u32 (nat (w 3)),.int .u32 (nat (w 4)),.int .u32 (nat (w 5)),.int .u32 (nat (w 6)),.int .u32 (nat (w 7)),.osl 1 0 0 1 n,.int .i64 (cnt:Nat)],.row true n 1 (fun i=>.int .u8 (nat (L i)))]) :
  callP Try.prog 150 [.ptr 0 0] [.cells true [.int .u32 (nat (w 0)),.int .u32 (nat (w 1)),.int .u32 (nat (w 2)),.int .u32 (nat (w 3)),.int .u32 (nat (w 4)),.int .u32 (nat (w 5)),.int .u32 (nat (w 6)),.int .u32 (nat (w 7)),.osl 1 0 0 1 n,.int .i64 (cnt:Nat)],.row true n 1 (fun i=>.int .u8 (nat (L i)))] K:=by
 refine callP_of_code tabOk Try.func150 (by kernel_rfl) rfl (Nat.le_of_ble_eq_true rfl) (codeP_of_vc (pl:=np) tabOk follows_mixed (by kernel_rfl) ?_)
 rw [Try.ntmps150]
 simp -implicitDefEqProofs (maxSteps:=1000000) (disch:=omega) only [↓zzP,zzA,zzL,Nat.reduceSub,reduceIte,reduceCtorEq,Nat.reduceLT,↓reduceIte,Nat.reduceEqDiff,Nat.reduceLeDiff,Nat.reduceAdd,↓gd,↓opP,↓qv,↓ef,↓bslS,↓appS,slot,putS,putO,ofV,fldA,parts,single,rdF,Ent.row,ldS,sz,srcS,nilS,nilEq,binH,binS2,binS,tupS,stor,notInt,Option.isNone]
 and_intros <;> try omega
 refine codeP_loop (pl:=np) tabOk follows_mixed (by kernel_rfl) (fun m s=>∃ (z:Nat) (j:Nat→Value),z+m = zs n∧s = ⟨⟨88,[(0,.ptr 0 0),(2,.ptr 2 0),(3,.ptr 3 0),(4,.osl 4 0 0 1 (n+1+z))],j⟩,[.cells true [.int .u32 (nat (w 0)),.int .u32 (nat (w 1)),.int .u32 (nat (w 2)),.int .u32 (nat (w 3)),.int .u32 (nat (w 4)),.int .u32 (nat (w 5)),.int .u32 (nat (w 6)),.int .u32 (nat (w 7)),.osl 1 0 0 1 n,.int .i64 (cnt:Nat)],.row true n 1 (fun i=>.int .u8 (nat (L i))),.cells true [.fam 32 1 fun _=>.int .u8 0],.cells true [.fam 32 1 fun _=>.int .u8 0],.row true (n+1+z) 1 fun i=>.int .u8 (nat (pad0 n z L i))],[]⟩) ?_ ?_
 ·refine into_mk [some 0,some 1,some 2,some 3,some 6] [(0,.ptr 0 0),(2,.ptr 2 0),(3,.ptr 3 0),(4,.osl 4 0 0 1 (n+1+0))] [.cells true [.int .u32 (nat (w 0)),.int .u32 (nat (w 1)),.int .u32 (nat (w 2)),.int .u32 (nat (w 3)),.int .u32 (nat (w 4)),.int .u32 (nat (w 5)),.int .u32 (nat (w 6)),.int .u32 (nat (w 7)),.osl 1 0 0 1 n,.int .i64 (cnt:Nat)],.row true n 1 (fun i=>.int .u8 (nat (L i))),.cells true [.fam 32 1 fun _=>.int .u8 0],.cells true [.fam 32 1 fun _=>.int .u8 0],.row true (n+1+0) 1 fun i=>.int .u8 (nat (pad0 n 0 L i))] ?_ ?_ ?_ ?_ ?_ ?_ ?_ ?_
  ·simp [slot,lkL,fixed,rg,renH,chEq,lookH,eqvL,eqv,eqvF,rnmL,rnm,liveN,Chunk.live,goodH,Chunk.good,okL,ok,sz,szL,storL,stor,renT,okT]
  ·simp [slot,lkL,fixed,rg,renH,chEq,lookH,eqvL,eqv,eqvF,rnmL,rnm,liveN,Chunk.live,goodH,Chunk.good,okL,ok,sz,szL,storL,stor,renT,okT]
  ·simp [slot,lkL,fixed,rg,renH,chEq,lookH,eqvL,eqv,eqvF,rnmL,rnm,liveN,Chunk.live,goodH,Chunk.good,okL,ok,sz,szL,storL,stor,renT,okT]
   intro i hi
   by_cases h:i < n
   ·simp [h,pad0,eqv]
   ·have h2:i = n:=by omega
    subst h2
    simp [pad0,eqv,Sx.look,nat]
  ·simp [slot,lkL,fixed,rg,renH,chEq,lookH,eqvL,eqv,eqvF,rnmL,rnm,liveN,Chunk.live,goodH,Chunk.good,okL,ok,sz,szL,storL,stor,renT,okT]
  ·simp [slot,lkL,fixed,rg,renH,chEq,lookH,eqvL,eqv,eqvF,rnmL,rnm,liveN,Chunk.live,goodH,Chunk.good,okL,ok,sz,szL,storL,stor,renT,okT]
  ·simp [slot,lkL,fixed,rg,renH,chEq,lookH,eqvL,eqv,eqvF,rnmL,rnm,liveN,Chunk.live,goodH,Chunk.good,okL,ok,sz,szL,storL,stor,renT,okT]
  ·simp [slot,lkL,fixed,rg,renH,chEq,lookH,eqvL,eqv,eqvF,rnmL,rnm,liveN,Chunk.live,goodH,Chunk.good,okL,ok,sz,szL,storL,stor,renT,okT]
  ·intro j
   exact ⟨zs n,0,j,by omega,rfl⟩
 ·rintro m s ⟨z,j,hz,rfl⟩
  have e0:((n+1+z:Nat):Int).tmod 64 = (((n+1+z) % 64:Nat):Int):=rem_nat (n+1+z) 64
  simp -implicitDefEqProofs (maxSteps:=1000000) (disch:=omega) only [↓zzP,zzA,zzL,reduceIte,reduceCtorEq,Nat.reduceLT,↓reduceIte,Nat.reduceEqDiff,Int.reduceEq,Nat.reduceLeDiff,Nat.reduceAdd,↓gd,↓opP,↓qv,↓ef,↓bslS,↓appS,slot,putS,putO,ofV,lenS,sz,srcS,binH,binS2,binS,stor,notInt,e0]
  refine ⟨Sx.imp_intro fun hc'=>?_,Sx.imp_intro fun hc'=>?_⟩
  ·have hz2:z < zs n:=by
    simp only [bne_iff_ne,ne_eq] at hc'
    simp only [zs] at hz ⊢
    omega
   have hz3:zs n < 64:=Nat.mod_lt _ (by decide)
   and_intros <;> try omega
   refine into_mk [some 0,some 1,some 2,some 3,some 6] [(0,.ptr 0 0),(2,.ptr 2 0),(3,.ptr 3 0),(4,.osl 4 0 0 1 (n+1+(z+1)))] [.cells true [.int .u32 (nat (w 0)),.int .u32 (nat (w 1)),.int .u32 (nat (w 2)),.int .u32 (nat (w 3)),.int .u32 (nat (w 4)),.int .u32 (nat (w 5)),.int .u32 (nat (w 6)),.int .u32 (nat (w 7)),.osl 1 0 0 1 n,.int .i64 (cnt:Nat)],.row true n 1 (fun i=>.int .u8 (nat (L i))),.cells true [.fam 32 1 fun _=>.int .u8 0],.cells true [.fam 32 1 fun _=>.int .u8 0],.row true (n+1+(z+1)) 1 fun i=>.int .u8 (nat (pad0 n (z+1) L i))] ?_ ?_ ?_ ?_ ?_ ?_ ?_ ?_
   ·simp [slot,lkL,fixed,rg,renH,chEq,lookH,eqvL,eqv,eqvF,rnmL,rnm,liveN,Chunk.live,goodH,Chunk.good,okL,ok,sz,szL,storL,stor,renT,okT]
   ·simp [slot,lkL,fixed,rg,renH,chEq,lookH,eqvL,eqv,eqvF,rnmL,rnm,liveN,Chunk.live,goodH,Chunk.good,okL,ok,sz,szL,storL,stor,renT,okT]
   ·simp [slot,lkL,fixed,rg,renH,chEq,lookH,eqvL,eqv,eqvF,rnmL,rnm,liveN,Chunk.live,goodH,Chunk.good,okL,ok,sz,szL,storL,stor,renT,okT]
    refine ⟨by omega,fun i hi=>?_⟩
    by_cases h:i < n+1+z
    ·simp [h,pad0,eqv]
    ·have h2:i = n+1+z:=by omega
     subst h2
     simp [pad0,eqv,Sx.look,nat,show ¬ n+1+z < n by omega,show ¬ n+1+z = n by omega]
   ·simp [slot,lkL,fixed,rg,renH,chEq,lookH,eqvL,eqv,eqvF,rnmL,rnm,liveN,Chunk.live,goodH,Chunk.good,okL,ok,sz,szL,storL,stor,renT,okT]
   ·simp [slot,lkL,fixed,rg,renH,chEq,lookH,eqvL,eqv,eqvF,rnmL,rnm,liveN,Chunk.live,goodH,Chunk.good,okL,ok,sz,szL,storL,stor,renT,okT]
   ·simp [slot,lkL,fixed,rg,renH,chEq,lookH,eqvL,eqv,eqvF,rnmL,rnm,liveN,Chunk.live,goodH,Chunk.good,okL,ok,sz,szL,storL,stor,renT,okT]
    omega
   ·simp [slot,lkL,fixed,rg,renH,chEq,lookH,eqvL,eqv,eqvF,rnmL,rnm,liveN,Chunk.live,goodH,Chunk.good,okL,ok,sz,szL,storL,stor,renT,okT]
   ·intro j
    exact ⟨m - 1,by omega,z+1,j,by omega,rfl⟩
  ·have hz2:z = zs n:=by
    simp only [bne_eq_false_iff_eq] at hc'
    simp only [zs] at hz ⊢
    omega
   subst hz2
   have hz3:zs n < 64:=Nat.mod_lt _ (by decide)
   have f0:IntKind.u64.wrap (cnt:Int) = nat (BitVec.ofNat 64 cnt):=by
    rw [Go.Sx.wrap_small (k:=.u64) rfl (by omega) (by rw [show IntKind.u64.bits = 64 from rfl]; omega)]
    simp only [nat,BitVec.toNat_ofNat]
    omega
   refine codeP_loop (pl:=np) tabOk follows_mixed (by kernel_rfl) (fun m s=>∃ (k:Nat) (j:Nat→Value),k+m = 8∧s = ⟨⟨88,[(0,.ptr 0 0),(2,.ptr 2 0),(3,.ptr 3 0),(4,.osl 4 0 0 1 (n+1+zs n+k)),(5,.int .i64 (7 - (k:Nat)))],j⟩,[.cells true [.int .u32 (nat (w 0)),.int .u32 (nat (w 1)),.int .u32 (nat (w 2)),.int .u32 (nat (w 3)),.int .u32 (nat (w 4)),.int .u32 (nat (w 5)),.int .u32 (nat (w 6)),.int .u32 (nat (w 7)),.osl 1 0 0 1 n,.int .i64 (cnt:Nat)],.row true n 1 (fun i=>.int .u8 (nat (L i))),.cells true [.fam 32 1 fun _=>.int .u8 0],.cells true [.fam 32 1 fun _=>.int .u8 0],.row true (n+1+zs n+k) 1 fun i=>.int .u8 (nat (padF n (BitVec.ofNat 64 cnt) L i))],[]⟩) ?_ ?_
   ·refine into_mk [some 0,some 1,some 2,some 3,some 4] [(0,.ptr 0 0),(2,.ptr 2 0),(3,.ptr 3 0),(4,.osl 4 0 0 1 (n+1+zs n+0)),(5,.int .i64 (7 - (0:Nat)))] [.cells true [.int .u32 (nat (w 0)),.int .u32 (nat (w 1)),.int .u32 (nat (w 2)),.int .u32 (nat (w 3)),.int .u32 (nat (w 4)),.int .u32 (nat (w 5)),.int .u32 (nat (w 6)),.int .u32 (nat (w 7)),.osl 1 0 0 1 n,.int .i64 (cnt:Nat)],.row true n 1 (fun i=>.int .u8 (nat (L i))),.cells true [.fam 32 1 fun _=>.int .u8 0],.cells true [.fam 32 1 fun _=>.int .u8 0],.row true (n+1+zs n+0) 1 fun i=>.int .u8 (nat (padF n (BitVec.ofNat 64 cnt) L i))] ?_ ?_ ?_ ?_ ?_ ?_ ?_ ?_
    ·simp [slot,lkL,fixed,rg,renH,chEq,lookH,eqvL,eqv,eqvF,rnmL,rnm,liveN,Chunk.live,goodH,Chunk.good,okL,ok,sz,szL,storL,stor,renT,okT]
    ·simp [slot,lkL,fixed,rg,renH,chEq,lookH,eqvL,eqv,eqvF,rnmL,rnm,liveN,Chunk.live,goodH,Chunk.good,okL,ok,sz,szL,storL,stor,renT,okT]
    ·simp [slot,lkL,fixed,rg,renH,chEq,lookH,eqvL,eqv,eqvF,rnmL,rnm,liveN,Chunk.live,goodH,Chunk.good,okL,ok,sz,szL,storL,stor,renT,okT]
     intro i hi
     simp [padF,hi,eqv]
    ·simp [slot,lkL,fixed,rg,renH,chEq,lookH,eqvL,eqv,eqvF,rnmL,rnm,liveN,Chunk.live,goodH,Chunk.good,okL,ok,sz,szL,storL,stor,renT,okT]
    ·simp [slot,lkL,fixed,rg,renH,chEq,lookH,eqvL,eqv,eqvF,rnmL,rnm,liveN,Chunk.live,goodH,Chunk.good,okL,ok,sz,szL,storL,stor,renT,okT]
    ·simp [slot,lkL,fixed,rg,renH,chEq,lookH,eqvL,eqv,eqvF,rnmL,rnm,liveN,Chunk.live,goodH,Chunk.good,okL,ok,sz,szL,storL,stor,renT,okT]
    ·simp [slot,lkL,fixed,rg,renH,chEq,lookH,eqvL,eqv,eqvF,rnmL,rnm,liveN,Chunk.live,goodH,Chunk.good,okL,ok,sz,szL,storL,stor,renT,okT]
    ·intro j
     exact ⟨8,0,j,by omega,rfl⟩
   ·rintro m2 s ⟨k,j2,hk,rfl⟩
    by_cases hk8:k = 8
    ·subst hk8
     have f3:(decide ((7 - ((8:Nat):Int)) ≥ 0)) = false:=by decide
     simp -implicitDefEqProofs (maxSteps:=1000000) (disch:=omega) only [↓zzP,zzA,zzL,Nat.reduceSub,reduceIte,reduceCtorEq,Nat.reduceLT,↓reduceIte,Nat.reduceEqDiff,Nat.reduceLeDiff,Nat.reduceAdd,↓gd,↓opP,↓qv,↓ef,↓stS,slot,putS,putO,ofV,fldA,parts,rdF,Ent.row,ldS,sz,wrF,binH,binS2,binS,stor,f3]
     obtain ⟨N,hN⟩:∃ N,N = n+1+zs n+8:=⟨_,rfl⟩
     obtain ⟨T,hT⟩:∃ T,T = padF n (BitVec.ofNat 64 cnt) L:=⟨_,rfl⟩
     rw [← hN,← hT] at hK ⊢
     have hN64:N % 64 = 0:=by simp only [zs] at hN; omega
     refine codeP_loop (pl:=np) tabOk follows_mixed (by kernel_rfl) (fun m s=>∃ (k d':Nat) (j:Nat→Value),k+m = N / 64∧s = ⟨⟨88,[(0,.ptr 0 0),(2,.ptr 2 0),(3,.ptr 3 0),(4,.osl 4 d' (64 * k) 1 (N - 64 * k)),(6,.ptr 5 0)],j⟩,[.cells true [.int .u32 (nat (w 0)),.int .u32 (nat (w 1)),.int .u32 (nat (w 2)),.int .u32 (nat (w 3)),.int .u32 (nat (w 4)),.int .u32 (nat (w 5)),.int .u32 (nat (w 6)),.int .u32 (nat (w 7)),.osl 1 0 0 1 n,.int .i64 (cnt:Nat)],.row true n 1 (fun i=>.int .u8 (nat (L i))),.cells true [.fam 32 1 fun _=>.int .u8 0],.cells true [.fam 32 1 fun _=>.int .u8 0],.row true N 1 (fun i=>.int .u8 (nat (T i))),.cells true [.int .u32 (nat (blk w T k 0)),.int .u32 (nat (blk w T k 1)),.int .u32 (nat (blk w T k 2)),.int .u32 (nat (blk w T k 3)),.int .u32 (nat (blk w T k 4)),.int .u32 (nat (blk w T k 5)),.int .u32 (nat (blk w T k 6)),.int .u32 (nat (blk w T k 7))]],[]⟩) ?_ ?_
     ·refine into_mk [some 0,some 1,some 2,some 3,some 4,some 5] [(0,.ptr 0 0),(2,.ptr 2 0),(3,.ptr 3 0),(4,.osl 4 0 (64 * 0) 1 (N - 64 * 0)),(6,.ptr 5 0)] [.cells true [.int .u32 (nat (w 0)),.int .u32 (nat (w 1)),.int .u32 (nat (w 2)),.int .u32 (nat (w 3)),.int .u32 (nat (w 4)),.int .u32 (nat (w 5)),.int .u32 (nat (w 6)),.int .u32 (nat (w 7)),.osl 1 0 0 1 n,.int .i64 (cnt:Nat)],.row true n 1 (fun i=>.int .u8 (nat (L i))),.cells true [.fam 32 1 fun _=>.int .u8 0],.cells true [.fam 32 1 fun _=>.int .u8 0],.row true N 1 (fun i=>.int .u8 (nat (T i))),.cells true [.int .u32 (nat (blk w T 0 0)),.int .u32 (nat (blk w T 0 1)),.int .u32 (nat (blk w T 0 2)),.int .u32 (nat (blk w T 0 3)),.int .u32 (nat (blk w T 0 4)),.int .u32 (nat (blk w T 0 5)),.int .u32 (nat (blk w T 0 6)),.int .u32 (nat (blk w T 0 7))]] ?_ ?_ ?_ ?_ ?_ ?_ ?_ ?_
      ·simp [slot,lkL,fixed,rg,renH,chEq,lookH,eqvL,eqv,eqvF,rnmL,rnm,liveN,Chunk.live,goodH,Chunk.good,okL,ok,sz,szL,storL,stor,renT,okT]
      ·simp [slot,lkL,fixed,rg,renH,chEq,lookH,eqvL,eqv,eqvF,rnmL,rnm,liveN,Chunk.live,goodH,Chunk.good,okL,ok,sz,szL,storL,stor,renT,okT]
      ·simp [slot,lkL,fixed,rg,renH,chEq,lookH,eqvL,eqv,eqvF,rnmL,rnm,liveN,Chunk.live,goodH,Chunk.good,okL,ok,sz,szL,storL,stor,renT,okT,blk]
      ·simp [slot,lkL,fixed,rg,renH,chEq,lookH,eqvL,eqv,eqvF,rnmL,rnm,liveN,Chunk.live,goodH,Chunk.good,okL,ok,sz,szL,storL,stor,renT,okT]
      ·simp [slot,lkL,fixed,rg,renH,chEq,lookH,eqvL,eqv,eqvF,rnmL,rnm,liveN,Chunk.live,goodH,Chunk.good,okL,ok,sz,szL,storL,stor,renT,okT]
      ·simp [slot,lkL,fixed,rg,renH,chEq,lookH,eqvL,eqv,eqvF,rnmL,rnm,liveN,Chunk.live,goodH,Chunk.good,okL,ok,sz,szL,storL,stor,renT,okT]
      ·simp [slot,lkL,fixed,rg,renH,chEq,lookH,eqvL,eqv,eqvF,rnmL,rnm,liveN,Chunk.live,goodH,Chunk.good,okL,ok,sz,szL,storL,stor,renT,okT]
      ·intro j
       exact ⟨N / 64,0,0,j,by omega,rfl⟩
     ·rintro m3 s ⟨k,d',j3,hk,rfl⟩
      have hk2:64 * k≤N:=by omega
      simp -implicitDefEqProofs (maxSteps:=1000000) (disch:=omega) only [↓zzP,zzA,zzL,Nat.reduceSub,reduceIte,reduceCtorEq,Nat.reduceLT,Int.reduceLE,↓reduceIte,Nat.reduceEqDiff,Nat.reduceLeDiff,Int.reduceToNat,↓gd,↓opP,↓qv,slot,putS,putO,ofV,bnd,slS,lenS,rdF,Ent.row,ldS,sz,binH,binS2,binS]
      refine ⟨Sx.imp_intro fun hc'=>?_,Sx.imp_intro fun hc'=>?_⟩
      ·have hk3:64 * k+64≤N:=by have:=of_decide_eq_true hc'; omega
       and_intros <;> try omega
       refine callP_frame (hl:=[.cells true ([.int .u32 (nat (blk w T k 0)),.int .u32 (nat (blk w T k 1)),.int .u32 (nat (blk w T k 2)),.int .u32 (nat (blk w T k 3)),.int .u32 (nat (blk w T k 4)),.int .u32 (nat (blk w T k 5)),.int .u32 (nat (blk w T k 6)),.int .u32 (nat (blk w T k 7))]++[]),.row false N 1 fun i=>.int .u8 (nat (T i))]) (argsL:=[.ptr 0 0,.osl 1 d' (64 * k) 1 64])
        (KL:=fun _ v h'=>v = .tup []∧h' = [.cells true ([.int .u32 (nat (comp (blk w T k) (fun i=>T (64 * k+i)) 0)),.int .u32 (nat (comp (blk w T k) (fun i=>T (64 * k+i)) 1)),.int .u32 (nat (comp (blk w T k) (fun i=>T (64 * k+i)) 2)),.int .u32 (nat (comp (blk w T k) (fun i=>T (64 * k+i)) 3)),.int .u32 (nat (comp (blk w T k) (fun i=>T (64 * k+i)) 4)),.int .u32 (nat (comp (blk w T k) (fun i=>T (64 * k+i)) 5)),.int .u32 (nat (comp (blk w T k) (fun i=>T (64 * k+i)) 6)),.int .u32 (nat (comp (blk w T k) (fun i=>T (64 * k+i)) 7))]++[]),.row false N 1 fun i=>.int .u8 (nat (T i))]) [5,4]
        (c54l (blk w T k) [] d' (64 * k) N T (by omega) (by simp [okL,ok]) (by simp [storL,stor]) _ ⟨rfl,rfl⟩) ?_ ?_ ?_ ?_ ?_ ?_
       ·simp
       ·simp [slot,lkL,fixed,rg,renH,chEq,lookH,eqvL,eqv,eqvF,rnmL,rnm,liveN,Chunk.live,goodH,Chunk.good,okL,ok,sz,szL,storL,stor,renT,okT,has,upG,up,nth,roOk,keepsLive,Chunk.wr,lay,rnmC,putH]
       ·simp [slot,lkL,fixed,rg,renH,chEq,lookH,eqvL,eqv,eqvF,rnmL,rnm,liveN,Chunk.live,goodH,Chunk.good,okL,ok,sz,szL,storL,stor,renT,okT,has,upG,up,nth,roOk,keepsLive,Chunk.wr,lay,rnmC,putH]
       ·simp [slot,lkL,fixed,rg,renH,chEq,lookH,eqvL,eqv,eqvF,rnmL,rnm,liveN,Chunk.live,goodH,Chunk.good,okL,ok,sz,szL,storL,stor,renT,okT,has,upG,up,nth,roOk,keepsLive,Chunk.wr,lay,rnmC,putH]
       ·simp [slot,lkL,fixed,rg,renH,chEq,lookH,eqvL,eqv,eqvF,rnmL,rnm,liveN,Chunk.live,goodH,Chunk.good,okL,ok,sz,szL,storL,stor,renT,okT,has,upG,up,nth,roOk,keepsLive,Chunk.wr,lay,rnmC,putH]
       ·rintro v h' ⟨rfl,rfl⟩
        refine ⟨by simp [slot,lkL,fixed,rg,renH,chEq,lookH,eqvL,eqv,eqvF,rnmL,rnm,liveN,Chunk.live,goodH,Chunk.good,okL,ok,sz,szL,storL,stor,renT,okT,has,upG,up,nth,roOk,keepsLive,Chunk.wr,lay,rnmC,putH],by simp [slot,lkL,fixed,rg,renH,chEq,lookH,eqvL,eqv,eqvF,rnmL,rnm,liveN,Chunk.live,goodH,Chunk.good,okL,ok,sz,szL,storL,stor,renT,okT,has,upG,up,nth,roOk,keepsLive,Chunk.wr,lay,rnmC,putH],?_⟩
        simp -implicitDefEqProofs (maxSteps:=1000000) (disch:=omega) only [↓zzP,zzA,reduceIte,reduceCtorEq,Nat.reduceLT,Int.reduceLE,↓reduceIte,Nat.reduceEqDiff,Nat.reduceAdd,Int.reduceToNat,↓gd,↓opP,↓qv,slot,putS,putO,ofV,bnd,slS,lay,rnmC,rnm,rnmL,Chunk.wr]
        and_intros <;> try omega
        refine into_mk [some 0,some 1,some 2,some 3,some 4,some 5] [(0,.ptr 0 0),(2,.ptr 2 0),(3,.ptr 3 0),(4,.osl 4 (64 * k) (64 * (k+1)) 1 (N - 64 * (k+1))),(6,.ptr 5 0)] [.cells true [.int .u32 (nat (w 0)),.int .u32 (nat (w 1)),.int .u32 (nat (w 2)),.int .u32 (nat (w 3)),.int .u32 (nat (w 4)),.int .u32 (nat (w 5)),.int .u32 (nat (w 6)),.int .u32 (nat (w 7)),.osl 1 0 0 1 n,.int .i64 (cnt:Nat)],.row true n 1 (fun i=>.int .u8 (nat (L i))),.cells true [.fam 32 1 fun _=>.int .u8 0],.cells true [.fam 32 1 fun _=>.int .u8 0],.row true N 1 (fun i=>.int .u8 (nat (T i))),.cells true [.int .u32 (nat (blk w T (k+1) 0)),.int .u32 (nat (blk w T (k+1) 1)),.int .u32 (nat (blk w T (k+1) 2)),.int .u32 (nat (blk w T (k+1) 3)),.int .u32 (nat (blk w T (k+1) 4)),.int .u32 (nat (blk w T (k+1) 5)),.int .u32 (nat (blk w T (k+1) 6)),.int .u32 (nat (blk w T (k+1) 7))]] ?_ ?_ ?_ ?_ ?_ ?_ ?_ ?_
        ·simp [slot,lkL,fixed,rg,renH,chEq,lookH,eqvL,eqv,eqvF,rnmL,rnm,liveN,Chunk.live,goodH,Chunk.good,okL,ok,sz,szL,storL,stor,renT,okT]
        ·simp [slot,lkL,fixed,rg,renH,chEq,lookH,eqvL,eqv,eqvF,rnmL,rnm,liveN,Chunk.live,goodH,Chunk.good,okL,ok,sz,szL,storL,stor,renT,okT]
        ·simp [slot,lkL,fixed,rg,renH,chEq,lookH,eqvL,eqv,eqvF,rnmL,rnm,liveN,Chunk.live,goodH,Chunk.good,okL,ok,sz,szL,storL,stor,renT,okT,blk]
        ·simp [slot,lkL,fixed,rg,renH,chEq,lookH,eqvL,eqv,eqvF,rnmL,rnm,liveN,Chunk.live,goodH,Chunk.good,okL,ok,sz,szL,storL,stor,renT,okT]
        ·simp [slot,lkL,fixed,rg,renH,chEq,lookH,eqvL,eqv,eqvF,rnmL,rnm,liveN,Chunk.live,goodH,Chunk.good,okL,ok,sz,szL,storL,stor,renT,okT]
        ·simp [slot,lkL,fixed,rg,renH,chEq,lookH,eqvL,eqv,eqvF,rnmL,rnm,liveN,Chunk.live,goodH,Chunk.good,okL,ok,sz,szL,storL,stor,renT,okT,Nat.mul_add]
         try omega
        ·simp [slot,lkL,fixed,rg,renH,chEq,lookH,eqvL,eqv,eqvF,rnmL,rnm,liveN,Chunk.live,goodH,Chunk.good,okL,ok,sz,szL,storL,stor,renT,okT]
        ·intro j
         exact ⟨m3 - 1,by omega,k+1,64 * k,j,by omega,rfl⟩
      ·have hk4:k = N / 64:=by have:=of_decide_eq_false hc'; omega
       subst hk4
       obtain ⟨V,hV⟩:∃ V,V = blk w T (N / 64):=⟨_,rfl⟩
       rw [← hV] at hK ⊢
       refine codeP_loop (pl:=np) tabOk follows_mixed (by kernel_rfl) (fun m s=>∃ (k:Nat) (j:Nat→Value),k+m = 8∧s = ⟨⟨88,[(0,.ptr 0 0),(2,.ptr 2 0),(3,.ptr 3 0),(55,.fam 8 1 fun i=>.int .u32 (nat (V i))),(56,.int .i64 (k:Nat))],j⟩,[.cells true [.int .u32 (nat (w 0)),.int .u32 (nat (w 1)),.int .u32 (nat (w 2)),.int .u32 (nat (w 3)),.int .u32 (nat (w 4)),.int .u32 (nat (w 5)),.int .u32 (nat (w 6)),.int .u32 (nat (w 7)),.osl 1 0 0 1 n,.int .i64 (cnt:Nat)],.row true n 1 (fun i=>.int .u8 (nat (L i))),.cells true [.fam 32 1 fun _=>.int .u8 0],.cells true [.fam 32 1 fun i=>.int .u8 (nat (if i < 4 * k then dig V i else 0))]],[]⟩) ?_ ?_
       ·refine into_mk [some 0,some 1,some 2,some 3] [(0,.ptr 0 0),(2,.ptr 2 0),(3,.ptr 3 0),(55,.fam 8 1 fun i=>.int .u32 (nat (V i))),(56,.int .i64 (0:Nat))] [.cells true [.int .u32 (nat (w 0)),.int .u32 (nat (w 1)),.int .u32 (nat (w 2)),.int .u32 (nat (w 3)),.int .u32 (nat (w 4)),.int .u32 (nat (w 5)),.int .u32 (nat (w 6)),.int .u32 (nat (w 7)),.osl 1 0 0 1 n,.int .i64 (cnt:Nat)],.row true n 1 (fun i=>.int .u8 (nat (L i))),.cells true [.fam 32 1 fun _=>.int .u8 0],.cells true [.fam 32 1 fun i=>.int .u8 (nat (if i < 4 * 0 then dig V i else 0))]] ?_ ?_ ?_ ?_ ?_ ?_ ?_ ?_
        ·simp [slot,lkL,fixed,rg,renH,chEq,lookH,eqvL,eqv,eqvF,rnmL,rnm,liveN,Chunk.live,goodH,Chunk.good,okL,ok,sz,szL,storL,stor,renT,okT]
        ·simp [slot,lkL,fixed,rg,renH,chEq,lookH,eqvL,eqv,eqvF,rnmL,rnm,liveN,Chunk.live,goodH,Chunk.good,okL,ok,sz,szL,storL,stor,renT,okT]
        ·simp [slot,lkL,fixed,rg,renH,chEq,lookH,eqvL,eqv,eqvF,rnmL,rnm,liveN,Chunk.live,goodH,Chunk.good,okL,ok,sz,szL,storL,stor,renT,okT,nat]
        ·simp [slot,lkL,fixed,rg,renH,chEq,lookH,eqvL,eqv,eqvF,rnmL,rnm,liveN,Chunk.live,goodH,Chunk.good,okL,ok,sz,szL,storL,stor,renT,okT]
        ·simp [slot,lkL,fixed,rg,renH,chEq,lookH,eqvL,eqv,eqvF,rnmL,rnm,liveN,Chunk.live,goodH,Chunk.good,okL,ok,sz,szL,storL,stor,renT,okT]
        ·simp [slot,lkL,fixed,rg,renH,chEq,lookH,eqvL,eqv,eqvF,rnmL,rnm,liveN,Chunk.live,goodH,Chunk.good,okL,ok,sz,szL,storL,stor,renT,okT]
        ·simp [slot,lkL,fixed,rg,renH,chEq,lookH,eqvL,eqv,eqvF,rnmL,rnm,liveN,Chunk.live,goodH,Chunk.good,okL,ok,sz,szL,storL,stor,renT,okT]
        ·intro j
         exact ⟨8,0,j,by omega,rfl⟩
       ·rintro m4 s ⟨k,j4,hk,rfl⟩
        have a0:IntKind.i64.wrap (4 * (k:Int)) = ((4 * k:Nat):Int):=by rw [wrap64 (by omega) (by omega)]; omega
        have a1:IntKind.i64.wrap (((4 * k:Nat):Int)+1) = ((4 * k+1:Nat):Int):=by rw [wrap64 (by omega) (by omega)]; omega
        have a2:IntKind.i64.wrap (((4 * k:Nat):Int)+2) = ((4 * k+2:Nat):Int):=by rw [wrap64 (by omega) (by omega)]; omega
        have a3:IntKind.i64.wrap (((4 * k:Nat):Int)+3) = ((4 * k+3:Nat):Int):=by rw [wrap64 (by omega) (by omega)]; omega
        have a4:IntKind.i64.wrap ((k:Int)+1) = ((k+1:Nat):Int):=by rw [wrap64 (by omega) (by omega)]; omega
        simp -implicitDefEqProofs (maxSteps:=1000000) (disch:=omega) only [↓zzP,zzA,zzL,reduceIte,reduceCtorEq,Nat.reduceLT,Int.reduceLE,↓reduceIte,Nat.reduceEqDiff,Nat.reduceLeDiff,Int.reduceToNat,↓gd,↓opP,↓qv,↓ef,↓stS,slot,putS,putO,ofV,convS,idxA,idxS,parts,asRow,single,rdF,Ent.row,ldS,sz,wrF,binH,binS2,binS,stor,a0,a1,a2,a3,a4,res19]
        refine ⟨Sx.imp_intro fun hc'=>?_,Sx.imp_intro fun hc'=>?_⟩
        ·have hk3:k < 8:=by have:=of_decide_eq_true hc'; omega
         and_intros <;> try omega
         refine into_mk [some 0,some 1,some 2,some 3] [(0,.ptr 0 0),(2,.ptr 2 0),(3,.ptr 3 0),(55,.fam 8 1 fun i=>.int .u32 (nat (V i))),(56,.int .i64 (k+1:Nat))] [.cells true [.int .u32 (nat (w 0)),.int .u32 (nat (w 1)),.int .u32 (nat (w 2)),.int .u32 (nat (w 3)),.int .u32 (nat (w 4)),.int .u32 (nat (w 5)),.int .u32 (nat (w 6)),.int .u32 (nat (w 7)),.osl 1 0 0 1 n,.int .i64 (cnt:Nat)],.row true n 1 (fun i=>.int .u8 (nat (L i))),.cells true [.fam 32 1 fun _=>.int .u8 0],.cells true [.fam 32 1 fun i=>.int .u8 (nat (if i < 4 * (k+1) then dig V i else 0))]] ?_ ?_ ?_ ?_ ?_ ?_ ?_ ?_
         ·simp [slot,lkL,fixed,rg,renH,chEq,lookH,eqvL,eqv,eqvF,rnmL,rnm,liveN,Chunk.live,goodH,Chunk.good,okL,ok,sz,szL,storL,stor,renT,okT]
         ·simp [slot,lkL,fixed,rg,renH,chEq,lookH,eqvL,eqv,eqvF,rnmL,rnm,liveN,Chunk.live,goodH,Chunk.good,okL,ok,sz,szL,storL,stor,renT,okT]
         ·simp [slot,lkL,fixed,rg,renH,chEq,lookH,eqvL,eqv,eqvF,rnmL,rnm,liveN,Chunk.live,goodH,Chunk.good,okL,ok,sz,szL,storL,stor,renT,okT]
          intro i hi
          by_cases h3:i = 4 * k+3
          ·subst h3
           simp [eqv,dig,show 4 * k+3 < 4 * (k+1) by omega,show (4 * k+3) / 4 = k by omega,show (4 * k+3) % 4 = 3 by omega]
          by_cases h2:i = 4 * k+2
          ·subst h2
           simp [eqv,dig,show 4 * k+2 < 4 * (k+1) by omega,show (4 * k+2) / 4 = k by omega,show (4 * k+2) % 4 = 2 by omega]
          by_cases h1:i = 4 * k+1
          ·subst h1
           simp [eqv,dig,show 4 * k+1 < 4 * (k+1) by omega,show (4 * k+1) / 4 = k by omega,show (4 * k+1) % 4 = 1 by omega]
          by_cases h0:i = 4 * k
          ·subst h0
           simp [eqv,dig,show 4 * k < 4 * (k+1) by omega,show (4 * k) / 4 = k by omega,show (4 * k) % 4 = 0 by omega]
          ·have e:(i < 4 * (k+1)) = (i < 4 * k):=by simp only [eq_iff_iff]; omega
           simp only [h3,h2,h1,h0,if_false,e,eqv]
         ·simp [slot,lkL,fixed,rg,renH,chEq,lookH,eqvL,eqv,eqvF,rnmL,rnm,liveN,Chunk.live,goodH,Chunk.good,okL,ok,sz,szL,storL,stor,renT,okT]
         ·simp [slot,lkL,fixed,rg,renH,chEq,lookH,eqvL,eqv,eqvF,rnmL,rnm,liveN,Chunk.live,goodH,Chunk.good,okL,ok,sz,szL,storL,stor,renT,okT]
         ·simp [slot,lkL,fixed,rg,renH,chEq,lookH,eqvL,eqv,eqvF,rnmL,rnm,liveN,Chunk.live,goodH,Chunk.good,okL,ok,sz,szL,storL,stor,renT,okT]
         ·simp [slot,lkL,fixed,rg,renH,chEq,lookH,eqvL,eqv,eqvF,rnmL,rnm,liveN,Chunk.live,goodH,Chunk.good,okL,ok,sz,szL,storL,stor,renT,okT]
         ·intro j
          exact ⟨m4 - 1,by omega,k+1,j,by omega,rfl⟩
        ·have hk4:k = 8:=by have:=of_decide_eq_false hc'; omega
         subst hk4
         refine intoR_mk [some 0,some 1] (.fam 32 1 fun i=>.int .u8 (nat (dig V i))) [.cells true [.int .u32 (nat (w 0)),.int .u32 (nat (w 1)),.int .u32 (nat (w 2)),.int .u32 (nat (w 3)),.int .u32 (nat (w 4)),.int .u32 (nat (w 5)),.int .u32 (nat (w 6)),.int .u32 (nat (w 7)),.osl 1 0 0 1 n,.int .i64 (cnt:Nat)],.row true n 1 (fun i=>.int .u8 (nat (L i)))] ?_ ?_ ?_ ?_ ?_ ?_ ?_ hK
         ·simp [slot,lkL,fixed,rg,renH,chEq,lookH,eqvL,eqv,eqvF,rnmL,rnm,liveN,Chunk.live,goodH,Chunk.good,okL,ok,sz,szL,storL,stor,renT,okT]
         ·simp [slot,lkL,fixed,rg,renH,chEq,lookH,eqvL,eqv,eqvF,rnmL,rnm,liveN,Chunk.live,goodH,Chunk.good,okL,ok,sz,szL,storL,stor,renT,okT]
         ·simp [slot,lkL,fixed,rg,renH,chEq,lookH,eqvL,eqv,eqvF,rnmL,rnm,liveN,Chunk.live,goodH,Chunk.good,okL,ok,sz,szL,storL,stor,renT,okT]
         ·simp [slot,lkL,fixed,rg,renH,chEq,lookH,eqvL,eqv,eqvF,rnmL,rnm,liveN,Chunk.live,goodH,Chunk.good,okL,ok,sz,szL,storL,stor,renT,okT]
         ·simp [slot,lkL,fixed,rg,renH,chEq,lookH,eqvL,eqv,eqvF,rnmL,rnm,liveN,Chunk.live,goodH,Chunk.good,okL,ok,sz,szL,storL,stor,renT,okT]
         ·simp [slot,lkL,fixed,rg,renH,chEq,lookH,eqvL,eqv,eqvF,rnmL,rnm,liveN,Chunk.live,goodH,Chunk.good,okL,ok,sz,szL,storL,stor,renT,okT]
          intro i hi
          simp [hi,eqv]
         ·simp [slot,lkL,fixed,rg,renH,chEq,lookH,eqvL,eqv,eqvF,rnmL,rnm,liveN,Chunk.live,goodH,Chunk.good,okL,ok,sz,szL,storL,stor,renT,okT]
    ·have f1:IntKind.i64.wrap (8 * (7 - (k:Int))) = ((8 * (7 - k):Nat):Int):=by rw [wrap64 (by omega) (by omega)]; omega
     have f2:IntKind.i64.wrap ((7 - (k:Int)) - 1) = 7 - ((k+1:Nat):Int):=by rw [wrap64 (by omega) (by omega)]; omega
     have f3:(decide ((7 - (k:Int)) ≥ 0)) = true:=by simp; omega
     simp -implicitDefEqProofs (maxSteps:=1000000) (disch:=omega) only [↓zzP,zzA,zzL,Nat.reduceSub,reduceIte,reduceCtorEq,Nat.reduceLT,Int.reduceLE,↓reduceIte,Nat.reduceEqDiff,Nat.reduceLeDiff,Nat.reduceAdd,Int.reduceToNat,↓gd,↓opP,↓qv,↓ef,↓bslS,↓appS,slot,putS,putO,ofV,convS,fldA,single,rdF,Ent.row,ldS,sz,srcS,binH,binS2,binS,stor,notInt,f0,f1,f2,f3]
     and_intros <;> try omega
     refine into_mk [some 0,some 1,some 2,some 3,some 6] [(0,.ptr 0 0),(2,.ptr 2 0),(3,.ptr 3 0),(4,.osl 4 0 0 1 (n+1+zs n+(k+1))),(5,.int .i64 (7 - (k+1:Nat)))] [.cells true [.int .u32 (nat (w 0)),.int .u32 (nat (w 1)),.int .u32 (nat (w 2)),.int .u32 (nat (w 3)),.int .u32 (nat (w 4)),.int .u32 (nat (w 5)),.int .u32 (nat (w 6)),.int .u32 (nat (w 7)),.osl 1 0 0 1 n,.int .i64 (cnt:Nat)],.row true n 1 (fun i=>.int .u8 (nat (L i))),.cells true [.fam 32 1 fun _=>.int .u8 0],.cells true [.fam 32 1 fun _=>.int .u8 0],.row true (n+1+zs n+(k+1)) 1 fun i=>.int .u8 (nat (padF n (BitVec.ofNat 64 cnt) L i))] ?_ ?_ ?_ ?_ ?_ ?_ ?_ ?_
     ·simp [slot,lkL,fixed,rg,renH,chEq,lookH,eqvL,eqv,eqvF,rnmL,rnm,liveN,Chunk.live,goodH,Chunk.good,okL,ok,sz,szL,storL,stor,renT,okT]
     ·simp [slot,lkL,fixed,rg,renH,chEq,lookH,eqvL,eqv,eqvF,rnmL,rnm,liveN,Chunk.live,goodH,Chunk.good,okL,ok,sz,szL,storL,stor,renT,okT]
     ·simp [slot,lkL,fixed,rg,renH,chEq,lookH,eqvL,eqv,eqvF,rnmL,rnm,liveN,Chunk.live,goodH,Chunk.good,okL,ok,sz,szL,storL,stor,renT,okT]
      refine ⟨by omega,fun i hi=>?_⟩
      by_cases h:i < n+1+zs n+k
      ·simp [h,eqv]
      ·have h2:i = n+1+zs n+k:=by omega
       subst h2
       simp [padF,eqv,Sx.look,show ¬ n+1+zs n+k < n+1+zs n by omega]
     ·simp [slot,lkL,fixed,rg,renH,chEq,lookH,eqvL,eqv,eqvF,rnmL,rnm,liveN,Chunk.live,goodH,Chunk.good,okL,ok,sz,szL,storL,stor,renT,okT]
     ·simp [slot,lkL,fixed,rg,renH,chEq,lookH,eqvL,eqv,eqvF,rnmL,rnm,liveN,Chunk.live,goodH,Chunk.good,okL,ok,sz,szL,storL,stor,renT,okT]
     ·simp [slot,lkL,fixed,rg,renH,chEq,lookH,eqvL,eqv,eqvF,rnmL,rnm,liveN,Chunk.live,goodH,Chunk.good,okL,ok,sz,szL,storL,stor,renT,okT]
      omega
     ·simp [slot,lkL,fixed,rg,renH,chEq,lookH,eqvL,eqv,eqvF,rnmL,rnm,liveN,Chunk.live,goodH,Chunk.good,okL,ok,sz,szL,storL,stor,renT,okT]
     ·intro j
      exact ⟨m2 - 1,by omega,k+1,j,by omega,rfl⟩
end Go.Proofs.Ytgocfglmideobaa.S
set_option linter.all false
set_option maxRecDepth 40000
namespace Go.Proofs.Ytgocfglmideobaa.S
open Go Go.Sx
def shaD (len:Nat) (B:Nat→BitVec 8):Nat→BitVec 8 :=
 dig (blk (blk iv (cat 0 (fun _=>0) B) (len / 64)) (padF (len - 64 * (len / 64)) (BitVec.ofNat 64 len) fun i=>cat 0 (fun _=>0) B (64 * (len / 64)+i))
  ((len - 64 * (len / 64)+1+zs (len - 64 * (len / 64))+8) / 64))
theorem res20:Try.f116.results.toList = [.cell 2 23]:=rfl
theorem c20l (m d e len:Nat) (B:Nat→BitVec 8) (hm:e+len≤m) (hl:len≤70368744177664) (K:Tok→SV→List Chunk→Prop)
  (hK:K .mk (.fam 32 1 fun i=>.int .u8 (nat (shaD len (fun i=>B (e+i)) i))) [.row false m 1 fun i=>.int .u8 (nat (B i))]) :
  callP Try.prog 116 [.osl 0 d e 1 len] [.row false m 1 fun i=>.int .u8 (nat (B i))] K:=by
 refine callP_of_code tabOk Try.func116 (by kernel_rfl) rfl (Nat.le_of_ble_eq_true rfl) (codeP_of_vc (pl:=np) tabOk follows_mixed (by kernel_rfl) ?_)
 rw [Try.ntmps116]
 simp -implicitDefEqProofs (maxSteps:=1000000) (disch:=omega) only [↓zzP,zzA,zzL,reduceIte,Nat.reduceLT,↓reduceIte,↓gd,↓opP,↓qv,↓ef,slot,putS,putO,parts,asRow,rdF,Ent.row,ldS,tupS,res20]
 refine callP_frame (KL:=fun _ v h'=>v = .ptr 0 0∧h' = [.cells true [.int .u32 (nat (iv 0)),.int .u32 (nat (iv 1)),.int .u32 (nat (iv 2)),.int .u32 (nat (iv 3)),.int .u32 (nat (iv 4)),.int .u32 (nat (iv 5)),.int .u32 (nat (iv 6)),.int .u32 (nat (iv 7)),.osl 1 0 0 1 0,.int .i64 0],.row true 0 1 fun i=>.int .u8 0]) [] (c16l _ ⟨rfl,rfl⟩) List.nodup_nil trivial trivial trivial rfl ?_
 rintro v h' ⟨rfl,rfl⟩
 refine ⟨by simp [slot,lkL,fixed,rg,renH,chEq,lookH,eqvL,eqv,eqvF,rnmL,rnm,liveN,Chunk.live,goodH,Chunk.good,okL,ok,sz,szL,storL,stor,renT,okT,has,upG,up,nth,roOk,keepsLive,Chunk.wr,lay,rnmC,putH],trivial,?_⟩
 simp -implicitDefEqProofs (maxSteps:=1000000) (disch:=omega) only [↓zzP,zzA,reduceIte,reduceCtorEq,Nat.reduceLT,↓reduceIte,Nat.reduceEqDiff,Nat.reduceAdd,↓gd,↓opP,↓qv,slot,putS,putO,upG,up,nth,lay,rnmC,rnm,rnmL]
 refine callP_frame (argsL:=[.ptr 0 0,.osl 2 d e 1 len]) (KL:=fun _ v h'=>v = .tup []∧h' = [.cells true [.int .u32 (nat (blk iv (cat 0 (fun _=>0) fun i=>B (e+i)) ((0+len) / 64) 0)),.int .u32 (nat (blk iv (cat 0 (fun _=>0) fun i=>B (e+i)) ((0+len) / 64) 1)),.int .u32 (nat (blk iv (cat 0 (fun _=>0) fun i=>B (e+i)) ((0+len) / 64) 2)),.int .u32 (nat (blk iv (cat 0 (fun _=>0) fun i=>B (e+i)) ((0+len) / 64) 3)),.int .u32 (nat (blk iv (cat 0 (fun _=>0) fun i=>B (e+i)) ((0+len) / 64) 4)),.int .u32 (nat (blk iv (cat 0 (fun _=>0) fun i=>B (e+i)) ((0+len) / 64) 5)),.int .u32 (nat (blk iv (cat 0 (fun _=>0) fun i=>B (e+i)) ((0+len) / 64) 6)),.int .u32 (nat (blk iv (cat 0 (fun _=>0) fun i=>B (e+i)) ((0+len) / 64) 7)),.osl 3 0 0 1 (0+len - 64 * ((0+len) / 64)),.int .i64 (0+len:Nat)],.none,.row false m 1 (fun i=>.int .u8 (nat (B i))),
   .row true (0+len - 64 * ((0+len) / 64)) 1 fun i=>.int .u8 (nat (cat 0 (fun _=>0) (fun i=>B (e+i)) (64 * ((0+len) / 64)+i)))]) [2,3,0]
   (c17l iv 0 0 d e len m (fun _=>0) B hm (by omega) (by omega) _ ⟨rfl,rfl⟩) ?_ ?_ ?_ ?_ ?_ ?_
 ·simp
 ·simp [slot,lkL,fixed,rg,renH,chEq,lookH,eqvL,eqv,eqvF,rnmL,rnm,liveN,Chunk.live,goodH,Chunk.good,okL,ok,sz,szL,storL,stor,renT,okT,has,upG,up,nth,roOk,keepsLive,Chunk.wr,lay,rnmC,putH]
 ·simp [slot,lkL,fixed,rg,renH,chEq,lookH,eqvL,eqv,eqvF,rnmL,rnm,liveN,Chunk.live,goodH,Chunk.good,okL,ok,sz,szL,storL,stor,renT,okT,has,upG,up,nth,roOk,keepsLive,Chunk.wr,lay,rnmC,putH]
 ·simp [slot,lkL,fixed,rg,renH,chEq,lookH,eqvL,eqv,eqvF,rnmL,rnm,liveN,Chunk.live,goodH,Chunk.good,okL,ok,sz,szL,storL,stor,renT,okT,has,upG,up,nth,roOk,keepsLive,Chunk.wr,lay,rnmC,putH]
 ·simp [slot,lkL,fixed,rg,renH,chEq,lookH,eqvL,eqv,eqvF,rnmL,rnm,liveN,Chunk.live,goodH,Chunk.good,okL,ok,sz,szL,storL,stor,renT,okT,has,upG,up,nth,roOk,keepsLive,Chunk.wr,lay,rnmC,putH]
 ·rintro v h' ⟨rfl,rfl⟩
  refine ⟨by simp [slot,lkL,fixed,rg,renH,chEq,lookH,eqvL,eqv,eqvF,rnmL,rnm,liveN,Chunk.live,goodH,Chunk.good,okL,ok,sz,szL,storL,stor,renT,okT,has,upG,up,nth,roOk,keepsLive,Chunk.wr,lay,rnmC,putH],by simp [slot,lkL,fixed,rg,renH,chEq,lookH,eqvL,eqv,eqvF,rnmL,rnm,liveN,Chunk.live,goodH,Chunk.good,okL,ok,sz,szL,storL,stor,renT,okT,has,upG,up,nth,roOk,keepsLive,Chunk.wr,lay,rnmC,putH],?_⟩
  simp -implicitDefEqProofs (maxSteps:=1000000) (disch:=omega) only [↓zzP,zzA,reduceIte,Nat.reduceLT,↓reduceIte,Nat.reduceEqDiff,Nat.reduceAdd,↓gd,↓opP,↓qv,slot,putS,putO,upG,up,nth,lay,rnmC,rnm,rnmL,Chunk.wr]
  refine callP_frame (argsL:=[.ptr 0 0]) (KL:=fun _ v h'=>v = .fam 32 1 (fun i=>.int .u8 (nat (shaD len (fun i=>B (e+i)) i)))∧h' = [.cells true [.int .u32 (nat (blk iv (cat 0 (fun _=>0) fun i=>B (e+i)) (len / 64) 0)),.int .u32 (nat (blk iv (cat 0 (fun _=>0) fun i=>B (e+i)) (len / 64) 1)),.int .u32 (nat (blk iv (cat 0 (fun _=>0) fun i=>B (e+i)) (len / 64) 2)),.int .u32 (nat (blk iv (cat 0 (fun _=>0) fun i=>B (e+i)) (len / 64) 3)),.int .u32 (nat (blk iv (cat 0 (fun _=>0) fun i=>B (e+i)) (len / 64) 4)),.int .u32 (nat (blk iv (cat 0 (fun _=>0) fun i=>B (e+i)) (len / 64) 5)),.int .u32 (nat (blk iv (cat 0 (fun _=>0) fun i=>B (e+i)) (len / 64) 6)),.int .u32 (nat (blk iv (cat 0 (fun _=>0) fun i=>B (e+i)) (len / 64) 7)),.osl 1 0 0 1 (len - 64 * (len / 64)),.int .i64 (len:Nat)],
   .row true (len - 64 * (len / 64)) 1 fun i=>.int .u8 (nat (cat 0 (fun _=>0) (fun i=>B (e+i)) (64 * (len / 64)+i)))]) [2,4]
   (c19l (blk iv (cat 0 (fun _=>0) fun i=>B (e+i)) (len / 64)) len (len - 64 * (len / 64)) (fun i=>cat 0 (fun _=>0) (fun i=>B (e+i)) (64 * (len / 64)+i)) (by omega) (by omega) _ ⟨rfl,rfl⟩) ?_ ?_ ?_ ?_ ?_ ?_
  ·simp
  ·simp [slot,lkL,fixed,rg,renH,chEq,lookH,eqvL,eqv,eqvF,rnmL,rnm,liveN,Chunk.live,goodH,Chunk.good,okL,ok,sz,szL,storL,stor,renT,okT,has,upG,up,nth,roOk,keepsLive,Chunk.wr,lay,rnmC,putH]
  ·simp [slot,lkL,fixed,rg,renH,chEq,lookH,eqvL,eqv,eqvF,rnmL,rnm,liveN,Chunk.live,goodH,Chunk.good,okL,ok,sz,szL,storL,stor,renT,okT,has,upG,up,nth,roOk,keepsLive,Chunk.wr,lay,rnmC,putH]
  ·simp [slot,lkL,fixed,rg,renH,chEq,lookH,eqvL,eqv,eqvF,rnmL,rnm,liveN,Chunk.live,goodH,Chunk.good,okL,ok,sz,szL,storL,stor,renT,okT,has,upG,up,nth,roOk,keepsLive,Chunk.wr,lay,rnmC,putH]
  ·simp [slot,lkL,fixed,rg,renH,chEq,lookH,eqvL,eqv,eqvF,rnmL,rnm,liveN,Chunk.live,goodH,Chunk.good,okL,ok,sz,szL,storL,stor,renT,okT,has,upG,up,nth,roOk,keepsLive,Chunk.wr,lay,rnmC,putH]
  ·rintro v h' ⟨rfl,rfl⟩
   refine ⟨by simp [slot,lkL,fixed,rg,renH,chEq,lookH,eqvL,eqv,eqvF,rnmL,rnm,liveN,Chunk.live,goodH,Chunk.good,okL,ok,sz,szL,storL,stor,renT,okT,has,upG,up,nth,roOk,keepsLive,Chunk.wr,lay,rnmC,putH],by simp [slot,lkL,fixed,rg,renH,chEq,lookH,eqvL,eqv,eqvF,rnmL,rnm,liveN,Chunk.live,goodH,Chunk.good,okL,ok,sz,szL,storL,stor,renT,okT,has,upG,up,nth,roOk,keepsLive,Chunk.wr,lay,rnmC,putH],?_⟩
   simp -implicitDefEqProofs (maxSteps:=1000000) (disch:=omega) only [↓zzP,zzA,zzL,reduceIte,reduceCtorEq,↓reduceIte,Nat.reduceEqDiff,Nat.reduceLeDiff,Nat.reduceAdd,↓gd,↓opP,↓qv,↓ef,↓stS,slot,putO,parts,sz,wrF,stor,upG,up,nth,lay,rnmC,rnm,rnmL,Chunk.wr]
   exact intoR_take [.row false m 1 fun i=>.int .u8 (nat (B i))] rfl rfl (by simp [slot,lkL,fixed,rg,renH,chEq,lookH,eqvL,eqv,eqvF,rnmL,rnm,liveN,Chunk.live,goodH,Chunk.good,okL,ok,sz,szL,storL,stor,renT,okT]) (by simp [slot,lkL,fixed,rg,renH,chEq,lookH,eqvL,eqv,eqvF,rnmL,rnm,liveN,Chunk.live,goodH,Chunk.good,okL,ok,sz,szL,storL,stor,renT,okT]) hK
end Go.Proofs.Ytgocfglmideobaa.S
set_option linter.all false
set_option maxRecDepth 40000
namespace Go.Proofs.Ytgocfglmideobaa.S
open Go Go.Sx
end Go.Proofs.Ytgocfglmideobaa.S
set_option linter.all false
set_option maxRecDepth 40000
namespace Go.Proofs.Ytgocfglmideobaa.S
open Go Go.Sx
theorem c20' (m len:Nat) (B:Nat→BitVec 8) (f:Nat→SV) (hf:∀ i,i < m→f i = .int .u8 (nat (B i))) (hm:len≤m) (hl:len≤70368744177664) {h:List Chunk} {nm:Nat} (wr:Bool) (hh:lookH h nm = .row wr m 1 f) (hnm:nm < h.length) (K:Tok→SV→List Chunk→Prop)
  (hK:K .mk (.fam 32 1 fun i=>.int .u8 (nat (shaD len B i))) h):callP Try.prog 116 [.osl nm 0 0 1 len] h K:=by
 refine callP_frame (argsL:=[.osl 0 0 0 1 len]) (KL:=fun _ v h'=>v = .fam 32 1 (fun i=>.int .u8 (nat (shaD len (fun i=>B (0+i)) i)))∧h' = [.row false m 1 fun i=>.int .u8 (nat (B i))]) [nm] (c20l m 0 0 len B (by omega) hl _ ⟨rfl,rfl⟩) ?_ ?_ ?_ ?_ ?_ ?_
 ·simp
 ·simp only [has,hh,chEq,and_true]
  exact ⟨hnm,by simp,trivial,trivial,fun i hi=>by rw [hf i hi]; simp [rnm,eqv]⟩
 ·simp [slot,lkL,fixed,rg,renH,chEq,lookH,eqvL,eqv,eqvF,rnmL,rnm,liveN,Chunk.live,goodH,Chunk.good,okL,ok,sz,szL,storL,stor,renT,okT,has,upG,up,nth,roOk,keepsLive,Chunk.wr,lay,rnmC,putH]
 ·simp [slot,lkL,fixed,rg,renH,chEq,lookH,eqvL,eqv,eqvF,rnmL,rnm,liveN,Chunk.live,goodH,Chunk.good,okL,ok,sz,szL,storL,stor,renT,okT,has,upG,up,nth,roOk,keepsLive,Chunk.wr,lay,rnmC,putH]
 ·simp [slot,lkL,fixed,rg,renH,chEq,lookH,eqvL,eqv,eqvF,rnmL,rnm,liveN,Chunk.live,goodH,Chunk.good,okL,ok,sz,szL,storL,stor,renT,okT,has,upG,up,nth,roOk,keepsLive,Chunk.wr,lay,rnmC,putH]
 ·rintro v h' ⟨rfl,rfl⟩
  refine ⟨by simp [slot,lkL,fixed,rg,renH,chEq,lookH,eqvL,eqv,eqvF,rnmL,rnm,liveN,Chunk.live,goodH,Chunk.good,okL,ok,sz,szL,storL,stor,renT,okT,has,upG,up,nth,roOk,keepsLive,Chunk.wr,lay,rnmC,putH],by simp [slot,lkL,fixed,rg,renH,chEq,lookH,eqvL,eqv,eqvF,rnmL,rnm,liveN,Chunk.live,goodH,Chunk.good,okL,ok,sz,szL,storL,stor,renT,okT,has,upG,up,nth,roOk,keepsLive,Chunk.wr,lay,rnmC,putH],?_⟩
  simpa [rnm,lay,Chunk.wr] using hK
end Go.Proofs.Ytgocfglmideobaa.S
set_option linter.all false
set_option maxRecDepth 40000
namespace Go.Proofs.Ytgocfglmideobaa.S
open Go Go.Sx
def mT (x y:BitVec 64):BitVec 64:=(x >>> 32) * (y &&& 4294967295#64)+((x &&& 4294967295#64) * (y &&& 4294967295#64)) >>> 32
def mulHi (x y:BitVec 64):BitVec 64 :=
 (x >>> 32) * (y >>> 32)+mT x y >>> 32+((mT x y &&& 4294967295#64)+(x &&& 4294967295#64) * (y >>> 32)) >>> 32
theorem andM (x:BitVec 64):bits .and .u64 (nat x) 4294967295 = nat (x &&& 4294967295#64):=and64 x 4294967295#64
theorem res69:Try.f167.results.toList = [.tmp 4,.tmp 5]:=rfl
theorem c69 (x y:BitVec 64) (h:List Chunk) (K:Tok→SV→List Chunk→Prop) (hK:K .mk (.tup [.int .u64 (nat (mulHi x y)),.int .u64 (nat (x * y))]) h):callP Try.prog 167 [.int .u64 (nat x),.int .u64 (nat y)] h K:=by
 refine callP_of_code tabOk Try.func167 (by kernel_rfl) rfl (Nat.le_of_ble_eq_true rfl) (codeP_of_vc (pl:=np) tabOk follows_mixed (by kernel_rfl) ?_)
 rw [Try.ntmps167]
 simp -implicitDefEqProofs (maxSteps:=1000000) (disch:=omega) only [↓zzP,zzA,reduceIte,reduceCtorEq,Nat.reduceLT,Int.reduceLE,↓reduceIte,Nat.reduceEqDiff,Nat.reduceAdd,Int.reduceToNat,↓gd,↓opP,↓qv,slot,putS,putO,ofV,binH,binS2,binS,tupS,res69,andM]
 exact intoR_refl (Nat.le_refl _) hK
def rTest (p y:BitVec 64):Bool :=
 let top:=mulHi (y * y) y+mulHi y y * y
 decide (nat top < nat (p <<< 32)) || (nat top == nat (p <<< 32) && nat (y * y * y) == 0)
def rootX (p:BitVec 64):Nat→BitVec 64
 | 0=>0
 | k+1=>if rTest p (rootX p k ||| 1#64 <<< (34 - k)) then rootX p k ||| 1#64 <<< (34 - k) else rootX p k
theorem res56:Try.f152.results.toList = [.tmp 2]:=rfl
theorem c56l (p:BitVec 64) (K:Tok→SV→List Chunk→Prop) (hK:K .mk (.int .u32 (nat ((rootX p 35).setWidth 32))) []):callP Try.prog 152 [.int .u64 (nat p)] [] K:=by
 refine callP_of_code tabOk Try.func152 (by kernel_rfl) rfl (Nat.le_of_ble_eq_true rfl) (codeP_of_vc (pl:=np) tabOk follows_mixed (by kernel_rfl) ?_)
 rw [Try.ntmps152]
 simp -implicitDefEqProofs (maxSteps:=1000000) (disch:=omega) only [↓zzP,zzA,reduceIte,reduceCtorEq,Nat.reduceLT,↓reduceIte,↓gd,↓opP,↓qv,slot,putS,putO,ofV,tupS,res56]
 refine codeP_loop (pl:=np) tabOk follows_mixed (by kernel_rfl) (fun m s=>∃ (k:Nat) (j:Nat→Value),k+m = 35∧s = ⟨⟨53,[(0,.int .u64 (nat p)),(3,.int .u64 (nat (rootX p k))),(4,.int .i64 (34 - (k:Nat)))],j⟩,[],[]⟩) ?_ ?_
 ·refine into_mk [] [(0,.int .u64 (nat p)),(3,.int .u64 (nat (rootX p 0))),(4,.int .i64 (34 - (0:Nat)))] [] ?_ ?_ ?_ ?_ ?_ ?_ ?_ ?_
  ·simp [slot,lkL,fixed,rg,renH,chEq,lookH,eqvL,eqv,eqvF,rnmL,rnm,liveN,Chunk.live,goodH,Chunk.good,okL,ok,sz,szL,storL,stor,renT,okT]
  ·simp [slot,lkL,fixed,rg,renH,chEq,lookH,eqvL,eqv,eqvF,rnmL,rnm,liveN,Chunk.live,goodH,Chunk.good,okL,ok,sz,szL,storL,stor,renT,okT]
  ·simp [slot,lkL,fixed,rg,renH,chEq,lookH,eqvL,eqv,eqvF,rnmL,rnm,liveN,Chunk.live,goodH,Chunk.good,okL,ok,sz,szL,storL,stor,renT,okT]
  ·simp [slot,lkL,fixed,rg,renH,chEq,lookH,eqvL,eqv,eqvF,rnmL,rnm,liveN,Chunk.live,goodH,Chunk.good,okL,ok,sz,szL,storL,stor,renT,okT]
  ·simp [slot,lkL,fixed,rg,renH,chEq,lookH,eqvL,eqv,eqvF,rnmL,rnm,liveN,Chunk.live,goodH,Chunk.good,okL,ok,sz,szL,storL,stor,renT,okT]
  ·simp [slot,lkL,fixed,rg,renH,chEq,lookH,eqvL,eqv,eqvF,rnmL,rnm,liveN,Chunk.live,goodH,Chunk.good,okL,ok,sz,szL,storL,stor,renT,okT]
   rfl
  ·simp [slot,lkL,fixed,rg,renH,chEq,lookH,eqvL,eqv,eqvF,rnmL,rnm,liveN,Chunk.live,goodH,Chunk.good,okL,ok,sz,szL,storL,stor,renT,okT]
  ·intro j
   exact ⟨35,0,j,by omega,rfl⟩
 ·rintro m s ⟨k,j,hk,rfl⟩
  by_cases hk35:k = 35
  ·subst hk35
   have f3:(decide ((34 - ((35:Nat):Int)) ≥ 0)) = false:=by decide
   simp -implicitDefEqProofs (maxSteps:=1000000) (disch:=omega) only [↓zzP,zzA,zzL,reduceIte,reduceCtorEq,Nat.reduceLT,↓reduceIte,Nat.reduceEqDiff,↓gd,↓opP,↓qv,slot,putS,putO,ofV,convS,binH,binS2,binS,f3]
   exact intoR_take [] rfl rfl trivial (by simp [slot,lkL,fixed,rg,renH,chEq,lookH,eqvL,eqv,eqvF,rnmL,rnm,liveN,Chunk.live,goodH,Chunk.good,okL,ok,sz,szL,storL,stor,renT,okT]) hK
  ·have f3:(decide ((34 - (k:Int)) ≥ 0)) = true:=by simp; omega
   have f4:IntKind.u64.wrap (34 - (k:Int)) = ((34 - k:Nat):Int):=by
    rw [show (34:Int) - k = ((34 - k:Nat):Int) by omega]
    exact Go.Sx.wrap_small (k:=.u64) rfl (by omega) (by rw [show IntKind.u64.bits = 64 from rfl]; omega)
   have f5:shlS .u64 1 ((34 - k:Nat):Int) = nat (1#64 <<< (34 - k)):=shl64 1#64 (34 - k) (by omega)
   have f6:IntKind.i64.wrap (34 - (k:Int) - 1) = 34 - ((k+1:Nat):Int):=by rw [wrap64 (by omega) (by omega)]; omega
   simp -implicitDefEqProofs (maxSteps:=1000000) (disch:=omega) only [↓zzP,zzA,zzL,reduceIte,reduceCtorEq,Nat.reduceLT,↓reduceIte,Nat.reduceEqDiff,↓gd,↓opP,↓qv,slot,putS,putO,ofV,convS,binH,binS2,binS,f3,f4,f5]
   refine ⟨by omega,c69 _ _ _ _ ?_⟩
   simp -implicitDefEqProofs (maxSteps:=1000000) (disch:=omega) only [↓zzP,zzA,reduceIte,Nat.reduceLT,↓reduceIte,Nat.reduceEqDiff,Nat.reduceAdd,↓gd,↓opP,↓qv,slot,putS,putO]
   refine c69 _ _ _ _ ?_
   simp -implicitDefEqProofs (maxSteps:=1000000) (disch:=omega) only [↓zzP,zzA,zzL,reduceIte,reduceCtorEq,Nat.reduceLT,Int.reduceLE,↓reduceIte,Nat.reduceEqDiff,Nat.reduceAdd,Int.reduceToNat,Array.reduceGetElem?,↓gd,↓opP,↓qv,slot,putS,putO,ofV,binH,binS2,binS,f6]
   obtain ⟨y,hy⟩:∃ y,y = rootX p k ||| 1#64 <<< (34 - k):=⟨_,rfl⟩
   simp only [← hy]
   have hx:rootX p (k+1) = if rTest p y then y else rootX p k:=by rw [hy]; rfl
   simp only [rTest] at hx
   clear hy
   refine ⟨Sx.imp_intro fun hA=>⟨Sx.imp_intro fun hB=>⟨Sx.imp_intro fun hC=>?_,Sx.imp_intro fun hC=>?_⟩,Sx.imp_intro fun hB=>?_⟩,Sx.imp_intro fun hA=>?_⟩
   all_goals
    simp only [*,Bool.true_or,Bool.false_or,Bool.true_and,Bool.false_and,Bool.and_true,if_true,Bool.false_eq_true,if_false] at hx
    refine into_mk [] [(0,.int .u64 (nat p)),(3,.int .u64 (nat (rootX p (k+1)))),(4,.int .i64 (34 - (k+1:Nat)))] [] ?_ ?_ ?_ ?_ ?_ ?_ ?_ ?_
    ·simp [slot,lkL,fixed,rg,renH,chEq,lookH,eqvL,eqv,eqvF,rnmL,rnm,liveN,Chunk.live,goodH,Chunk.good,okL,ok,sz,szL,storL,stor,renT,okT]
    ·simp [slot,lkL,fixed,rg,renH,chEq,lookH,eqvL,eqv,eqvF,rnmL,rnm,liveN,Chunk.live,goodH,Chunk.good,okL,ok,sz,szL,storL,stor,renT,okT]
    ·simp [slot,lkL,fixed,rg,renH,chEq,lookH,eqvL,eqv,eqvF,rnmL,rnm,liveN,Chunk.live,goodH,Chunk.good,okL,ok,sz,szL,storL,stor,renT,okT]
    ·simp [slot,lkL,fixed,rg,renH,chEq,lookH,eqvL,eqv,eqvF,rnmL,rnm,liveN,Chunk.live,goodH,Chunk.good,okL,ok,sz,szL,storL,stor,renT,okT]
    ·simp [slot,lkL,fixed,rg,renH,chEq,lookH,eqvL,eqv,eqvF,rnmL,rnm,liveN,Chunk.live,goodH,Chunk.good,okL,ok,sz,szL,storL,stor,renT,okT]
    ·simp [slot,lkL,fixed,rg,renH,chEq,lookH,eqvL,eqv,eqvF,rnmL,rnm,liveN,Chunk.live,goodH,Chunk.good,okL,ok,sz,szL,storL,stor,renT,okT]
     rw [hx]
    ·simp [slot,lkL,fixed,rg,renH,chEq,lookH,eqvL,eqv,eqvF,rnmL,rnm,liveN,Chunk.live,goodH,Chunk.good,okL,ok,sz,szL,storL,stor,renT,okT]
    ·intro j
     exact ⟨m - 1,by omega,k+1,j,by omega,rfl⟩
theorem c56 (p:BitVec 64) {h:List Chunk} (K:Tok→SV→List Chunk→Prop) (hK:K .mk (.int .u32 (nat ((rootX p 35).setWidth 32))) h):callP Try.prog 152 [.int .u64 (nat p)] h K:=by
 refine callP_frame (argsL:=[.int .u64 (nat p)]) (KL:=fun _ v h'=>v = .int .u32 (nat ((rootX p 35).setWidth 32))∧h' = []) [] (c56l p _ ⟨rfl,rfl⟩) List.nodup_nil trivial trivial (by simp [slot,lkL,fixed,rg,renH,chEq,lookH,eqvL,eqv,eqvF,rnmL,rnm,liveN,Chunk.live,goodH,Chunk.good,okL,ok,sz,szL,storL,stor,renT,okT,has,upG,up,nth,roOk,keepsLive,Chunk.wr,lay,rnmC,putH]) rfl ?_
 rintro v h' ⟨rfl,rfl⟩
 refine ⟨by simp [slot,lkL,fixed,rg,renH,chEq,lookH,eqvL,eqv,eqvF,rnmL,rnm,liveN,Chunk.live,goodH,Chunk.good,okL,ok,sz,szL,storL,stor,renT,okT,has,upG,up,nth,roOk,keepsLive,Chunk.wr,lay,rnmC,putH],trivial,?_⟩
 simpa [rnm,lay] using hK
def primeL:List (BitVec 64):=[2,3,5,7,11,13,17,19,23,29,31,37,41,43,47,53,59,61,67,71,73,79,83,89,97,101,103,107,109,113,127,131,137,139,149,151,157,163,167,173,179,181,191,193,197,199,211,223,227,229,233,239,241,251,257,263,269,271,277,281,283,293,307,311]
def primeB (i:Nat):BitVec 64:=primeL.getD i 0
end Go.Proofs.Ytgocfglmideobaa.S
set_option linter.all false
set_option maxRecDepth 40000
namespace Go.Proofs.Ytgocfglmideobaa.S
open Go Go.Sx
def cntP (p:Nat):Nat:=(primeL.filter fun q=>decide (q.toNat < p)).length
def allP (p k:Nat):Bool:=decide (∀ q,q < k→p % (primeB q).toNat ≠ 0)
theorem prime_yes:∀ p,p < 312→2≤p→allP p (cntP p) = true→(primeB (cntP p)).toNat = p∧cntP (p+1) = cntP p+1:=by decide +kernel
theorem prime_no:∀ p,p < 312→2≤p→allP p (cntP p) = false→cntP (p+1) = cntP p:=by decide +kernel
theorem prime_more:∀ p,p < 312→cntP p < 64:=by decide +kernel
theorem prime_end:cntP 312 = 64:=by decide +kernel
theorem prime_pos:∀ i,i < 64→0 < (primeB i).toNat:=by decide +kernel
theorem cnt2:cntP 2 = 0:=by decide +kernel
theorem res55:Try.f151.results.toList = [.cell 0 180]:=rfl
set_option maxHeartbeats 4000000 in
theorem c55l (K:Tok→SV→List Chunk→Prop) (hK:K .mk (.fam 64 1 fun i=>.int .u64 (nat (primeB i))) []):callP Try.prog 151 [] [] K:=by
 refine callP_of_code tabOk Try.func151 (by kernel_rfl) rfl (Nat.le_of_ble_eq_true rfl) (codeP_of_vc (pl:=np) tabOk follows_mixed (by kernel_rfl) ?_)
 rw [Try.ntmps151]
 simp -implicitDefEqProofs (maxSteps:=1000000) (disch:=omega) only [↓zzP,zzA,zzL,reduceIte,reduceCtorEq,Nat.reduceLT,↓reduceIte,↓gd,↓opP,↓qv,↓ef,slot,putS,putO,ofV,parts,asRow,rdF,Ent.row,ldS,tupS,res55]
 refine codeP_loop (pl:=np) tabOk follows_mixed (by kernel_rfl) (fun m s=>∃ (p:Nat) (j:Nat→Value),p+m = 312∧2≤p∧s = ⟨⟨33,[(0,.ptr 0 0),(1,.ptr 1 0),(2,.int .i64 (cntP p:Nat)),(3,.int .u64 (p:Nat))],j⟩,[.cells true [.fam 64 1 fun _=>.int .u64 0],.cells true [.fam 64 1 fun i=>.int .u64 (nat (if i < cntP p then primeB i else 0))]],[]⟩) ?_ ?_
 ·refine into_mk [some 0,some 1] [(0,.ptr 0 0),(1,.ptr 1 0),(2,.int .i64 (cntP 2:Nat)),(3,.int .u64 (2:Nat))] [.cells true [.fam 64 1 fun _=>.int .u64 0],.cells true [.fam 64 1 fun i=>.int .u64 (nat (if i < cntP 2 then primeB i else 0))]] ?_ ?_ ?_ ?_ ?_ ?_ ?_ ?_
  ·simp [slot,lkL,fixed,rg,renH,chEq,lookH,eqvL,eqv,eqvF,rnmL,rnm,liveN,Chunk.live,goodH,Chunk.good,okL,ok,sz,szL,storL,stor,renT,okT]
  ·simp [slot,lkL,fixed,rg,renH,chEq,lookH,eqvL,eqv,eqvF,rnmL,rnm,liveN,Chunk.live,goodH,Chunk.good,okL,ok,sz,szL,storL,stor,renT,okT]
  ·simp [slot,lkL,fixed,rg,renH,chEq,lookH,eqvL,eqv,eqvF,rnmL,rnm,liveN,Chunk.live,goodH,Chunk.good,okL,ok,sz,szL,storL,stor,renT,okT,cnt2,nat]
  ·simp [slot,lkL,fixed,rg,renH,chEq,lookH,eqvL,eqv,eqvF,rnmL,rnm,liveN,Chunk.live,goodH,Chunk.good,okL,ok,sz,szL,storL,stor,renT,okT]
  ·simp [slot,lkL,fixed,rg,renH,chEq,lookH,eqvL,eqv,eqvF,rnmL,rnm,liveN,Chunk.live,goodH,Chunk.good,okL,ok,sz,szL,storL,stor,renT,okT]
  ·simp [slot,lkL,fixed,rg,renH,chEq,lookH,eqvL,eqv,eqvF,rnmL,rnm,liveN,Chunk.live,goodH,Chunk.good,okL,ok,sz,szL,storL,stor,renT,okT,cnt2]
  ·simp [slot,lkL,fixed,rg,renH,chEq,lookH,eqvL,eqv,eqvF,rnmL,rnm,liveN,Chunk.live,goodH,Chunk.good,okL,ok,sz,szL,storL,stor,renT,okT]
  ·intro j
   exact ⟨310,2,j,by omega,by omega,rfl⟩
 ·rintro m s ⟨p,j,hp,hp2,rfl⟩
  obtain ⟨N,hN⟩:∃ N,N = cntP p:=⟨_,rfl⟩
  rw [← hN]
  simp -implicitDefEqProofs (maxSteps:=1000000) (disch:=omega) only [↓zzP,zzA,zzL,reduceIte,reduceCtorEq,Nat.reduceLT,↓reduceIte,Nat.reduceEqDiff,Nat.reduceLeDiff,↓gd,↓opP,↓qv,↓ef,↓stS,slot,putS,putO,ofV,bnd,slS,lenS,parts,asRow,rdF,Ent.row,ldS,sz,wrF,binH,binS2,binS,stor]
  refine ⟨Sx.imp_intro fun hc=>?_,Sx.imp_intro fun hc=>?_⟩
  ·have hN64:N < 64:=by have:=of_decide_eq_true hc; omega
   have hp312:p < 312:=by
    rcases Nat.lt_or_ge p 312 with h | h
    ·exact h
    ·have h2:p = 312:=by omega
     rw [h2,prime_end] at hN
     omega
   have hm0:0 < m:=by omega
   refine ⟨by omega,?_⟩
   refine codeP_loop (pl:=np) tabOk follows_mixed (by kernel_rfl) (fun m' s=>∃ (k:Nat) (j:Nat→Value),k+m' = N∧s = ⟨⟨33,[(0,.ptr 0 0),(1,.ptr 1 0),(2,.int .i64 (N:Nat)),(3,.int .u64 (p:Nat)),(4,.bool (allP p k)),(12,.sl 1 0 0 1 N 64),(13,.int .i64 (N:Nat)),(14,.int .i64 (k:Nat))],j⟩,[.cells true [.fam 64 1 fun _=>.int .u64 0],.cells true [.fam 64 1 fun i=>.int .u64 (nat (if i < N then primeB i else 0))]],[]⟩) ?_ ?_
   ·refine into_mk [some 0,some 1] [(0,.ptr 0 0),(1,.ptr 1 0),(2,.int .i64 (N:Nat)),(3,.int .u64 (p:Nat)),(4,.bool (allP p 0)),(12,.sl 1 0 0 1 N 64),(13,.int .i64 (N:Nat)),(14,.int .i64 (0:Nat))] [.cells true [.fam 64 1 fun _=>.int .u64 0],.cells true [.fam 64 1 fun i=>.int .u64 (nat (if i < N then primeB i else 0))]] ?_ ?_ ?_ ?_ ?_ ?_ ?_ ?_
    ·simp [slot,lkL,fixed,rg,renH,chEq,lookH,eqvL,eqv,eqvF,rnmL,rnm,liveN,Chunk.live,goodH,Chunk.good,okL,ok,sz,szL,storL,stor,renT,okT]
    ·simp [slot,lkL,fixed,rg,renH,chEq,lookH,eqvL,eqv,eqvF,rnmL,rnm,liveN,Chunk.live,goodH,Chunk.good,okL,ok,sz,szL,storL,stor,renT,okT]
    ·simp [slot,lkL,fixed,rg,renH,chEq,lookH,eqvL,eqv,eqvF,rnmL,rnm,liveN,Chunk.live,goodH,Chunk.good,okL,ok,sz,szL,storL,stor,renT,okT]
    ·simp [slot,lkL,fixed,rg,renH,chEq,lookH,eqvL,eqv,eqvF,rnmL,rnm,liveN,Chunk.live,goodH,Chunk.good,okL,ok,sz,szL,storL,stor,renT,okT]
    ·simp [slot,lkL,fixed,rg,renH,chEq,lookH,eqvL,eqv,eqvF,rnmL,rnm,liveN,Chunk.live,goodH,Chunk.good,okL,ok,sz,szL,storL,stor,renT,okT]
    ·simp [slot,lkL,fixed,rg,renH,chEq,lookH,eqvL,eqv,eqvF,rnmL,rnm,liveN,Chunk.live,goodH,Chunk.good,okL,ok,sz,szL,storL,stor,renT,okT,allP]
    ·simp [slot,lkL,fixed,rg,renH,chEq,lookH,eqvL,eqv,eqvF,rnmL,rnm,liveN,Chunk.live,goodH,Chunk.good,okL,ok,sz,szL,storL,stor,renT,okT]
    ·intro j
     exact ⟨N,0,j,by omega,rfl⟩
   ·rintro m' s ⟨k,j2,hk,rfl⟩
    have a0:IntKind.i64.wrap ((k:Int)+1) = ((k+1:Nat):Int):=by rw [wrap64 (by omega) (by omega)]; omega
    have a1:IntKind.i64.wrap ((N:Int)+1) = ((N+1:Nat):Int):=by rw [wrap64 (by omega) (by omega)]; omega
    have a2:IntKind.u64.wrap ((p:Int)+1) = ((p+1:Nat):Int):=Go.Sx.wrap_small (k:=.u64) rfl (by omega) (by rw [show IntKind.u64.bits = 64 from rfl]; omega)
    simp -implicitDefEqProofs (maxSteps:=1000000) (disch:=omega) only [↓zzP,zzA,zzL,reduceIte,reduceCtorEq,Nat.reduceLT,↓reduceIte,Nat.reduceEqDiff,Array.reduceGetElem?,↓gd,↓opP,↓qv,↓ef,↓stS,slot,putS,putO,ofV,idxA,parts,single,rdF,Ent.row,ldS,sz,binH,binS2,binS,stor,a0,a1,a2]
    refine ⟨Sx.imp_intro fun hc2=>?_,Sx.imp_intro fun hc2=>?_⟩
    ·have hkN:k < N:=by have:=of_decide_eq_true hc2; omega
     have hpos:=prime_pos k (by omega)
     have hv:nat (if k < N then primeB k else 0) = ((primeB k).toNat:Int):=by simp only [hkN,if_true]; rfl
     have hr:((p:Int).tmod (nat (if k < N then primeB k else 0)) != 0) = decide (p % (primeB k).toNat ≠ 0):=by
      rw [hv,Int.tmod_eq_emod_of_nonneg (by omega),← Int.natCast_emod]
      rw [Bool.eq_iff_iff]
      simp only [bne_iff_ne,ne_eq,decide_eq_true_eq]
      omega
     have hs:allP p (k+1) = (allP p k && decide (p % (primeB k).toNat ≠ 0)):=by
      rw [Bool.eq_iff_iff]
      simp only [allP,Bool.and_eq_true,decide_eq_true_eq]
      constructor
      ·exact fun h=>⟨fun q hq=>h q (by omega),h k (by omega)⟩
      ·rintro ⟨h1,h2⟩ q hq
       by_cases e:q = k
       ·exact e ▸ h2
       ·exact h1 q (by omega)
     refine ⟨by omega,by omega,Sx.imp_intro fun hA=>⟨by rw [hv]; omega,?_⟩,Sx.imp_intro fun hA=>?_⟩
     ·rw [hr]
      refine into_mk [some 0,some 1] [(0,.ptr 0 0),(1,.ptr 1 0),(2,.int .i64 (N:Nat)),(3,.int .u64 (p:Nat)),(4,.bool (allP p (k+1))),(12,.sl 1 0 0 1 N 64),(13,.int .i64 (N:Nat)),(14,.int .i64 (k+1:Nat))] [.cells true [.fam 64 1 fun _=>.int .u64 0],.cells true [.fam 64 1 fun i=>.int .u64 (nat (if i < N then primeB i else 0))]] ?_ ?_ ?_ ?_ ?_ ?_ ?_ ?_
      ·simp [slot,lkL,fixed,rg,renH,chEq,lookH,eqvL,eqv,eqvF,rnmL,rnm,liveN,Chunk.live,goodH,Chunk.good,okL,ok,sz,szL,storL,stor,renT,okT]
      ·simp [slot,lkL,fixed,rg,renH,chEq,lookH,eqvL,eqv,eqvF,rnmL,rnm,liveN,Chunk.live,goodH,Chunk.good,okL,ok,sz,szL,storL,stor,renT,okT]
      ·simp [slot,lkL,fixed,rg,renH,chEq,lookH,eqvL,eqv,eqvF,rnmL,rnm,liveN,Chunk.live,goodH,Chunk.good,okL,ok,sz,szL,storL,stor,renT,okT]
      ·simp [slot,lkL,fixed,rg,renH,chEq,lookH,eqvL,eqv,eqvF,rnmL,rnm,liveN,Chunk.live,goodH,Chunk.good,okL,ok,sz,szL,storL,stor,renT,okT]
      ·simp [slot,lkL,fixed,rg,renH,chEq,lookH,eqvL,eqv,eqvF,rnmL,rnm,liveN,Chunk.live,goodH,Chunk.good,okL,ok,sz,szL,storL,stor,renT,okT]
      ·simp [slot,lkL,fixed,rg,renH,chEq,lookH,eqvL,eqv,eqvF,rnmL,rnm,liveN,Chunk.live,goodH,Chunk.good,okL,ok,sz,szL,storL,stor,renT,okT,hs,hA]
      ·simp [slot,lkL,fixed,rg,renH,chEq,lookH,eqvL,eqv,eqvF,rnmL,rnm,liveN,Chunk.live,goodH,Chunk.good,okL,ok,sz,szL,storL,stor,renT,okT]
      ·intro j
       exact ⟨m' - 1,by omega,k+1,j,by omega,rfl⟩
     ·refine into_mk [some 0,some 1] [(0,.ptr 0 0),(1,.ptr 1 0),(2,.int .i64 (N:Nat)),(3,.int .u64 (p:Nat)),(4,.bool (allP p (k+1))),(12,.sl 1 0 0 1 N 64),(13,.int .i64 (N:Nat)),(14,.int .i64 (k+1:Nat))] [.cells true [.fam 64 1 fun _=>.int .u64 0],.cells true [.fam 64 1 fun i=>.int .u64 (nat (if i < N then primeB i else 0))]] ?_ ?_ ?_ ?_ ?_ ?_ ?_ ?_
      ·simp [slot,lkL,fixed,rg,renH,chEq,lookH,eqvL,eqv,eqvF,rnmL,rnm,liveN,Chunk.live,goodH,Chunk.good,okL,ok,sz,szL,storL,stor,renT,okT]
      ·simp [slot,lkL,fixed,rg,renH,chEq,lookH,eqvL,eqv,eqvF,rnmL,rnm,liveN,Chunk.live,goodH,Chunk.good,okL,ok,sz,szL,storL,stor,renT,okT]
      ·simp [slot,lkL,fixed,rg,renH,chEq,lookH,eqvL,eqv,eqvF,rnmL,rnm,liveN,Chunk.live,goodH,Chunk.good,okL,ok,sz,szL,storL,stor,renT,okT]
      ·simp [slot,lkL,fixed,rg,renH,chEq,lookH,eqvL,eqv,eqvF,rnmL,rnm,liveN,Chunk.live,goodH,Chunk.good,okL,ok,sz,szL,storL,stor,renT,okT]
      ·simp [slot,lkL,fixed,rg,renH,chEq,lookH,eqvL,eqv,eqvF,rnmL,rnm,liveN,Chunk.live,goodH,Chunk.good,okL,ok,sz,szL,storL,stor,renT,okT]
      ·simp [slot,lkL,fixed,rg,renH,chEq,lookH,eqvL,eqv,eqvF,rnmL,rnm,liveN,Chunk.live,goodH,Chunk.good,okL,ok,sz,szL,storL,stor,renT,okT,hs,hA]
      ·simp [slot,lkL,fixed,rg,renH,chEq,lookH,eqvL,eqv,eqvF,rnmL,rnm,liveN,Chunk.live,goodH,Chunk.good,okL,ok,sz,szL,storL,stor,renT,okT]
      ·intro j
       exact ⟨m' - 1,by omega,k+1,j,by omega,rfl⟩
    ·have hkN:k = N:=by have:=of_decide_eq_false hc2; omega
     subst hkN
     refine ⟨Sx.imp_intro fun hA=>⟨by omega,hN64,?_⟩,Sx.imp_intro fun hA=>?_⟩
     ·obtain ⟨h1,h2⟩:=prime_yes p hp312 hp2 (hN ▸ hA)
      rw [← hN] at h1 h2
      refine into_mk [some 0,some 1] [(0,.ptr 0 0),(1,.ptr 1 0),(2,.int .i64 (cntP (p+1):Nat)),(3,.int .u64 (p+1:Nat))] [.cells true [.fam 64 1 fun _=>.int .u64 0],.cells true [.fam 64 1 fun i=>.int .u64 (nat (if i < cntP (p+1) then primeB i else 0))]] ?_ ?_ ?_ ?_ ?_ ?_ ?_ ?_
      ·simp [slot,lkL,fixed,rg,renH,chEq,lookH,eqvL,eqv,eqvF,rnmL,rnm,liveN,Chunk.live,goodH,Chunk.good,okL,ok,sz,szL,storL,stor,renT,okT]
      ·simp [slot,lkL,fixed,rg,renH,chEq,lookH,eqvL,eqv,eqvF,rnmL,rnm,liveN,Chunk.live,goodH,Chunk.good,okL,ok,sz,szL,storL,stor,renT,okT]
      ·simp [slot,lkL,fixed,rg,renH,chEq,lookH,eqvL,eqv,eqvF,rnmL,rnm,liveN,Chunk.live,goodH,Chunk.good,okL,ok,sz,szL,storL,stor,renT,okT]
       intro i hi
       rw [h2]
       by_cases h:i = k
       ·subst h
        have h3:(p:Int) = nat (primeB i):=by simp only [nat]; omega
        simp [eqv,h3]
       ·have e:(i < k+1) = (i < k):=by simp only [eq_iff_iff]; omega
        simp only [h,if_false,e,eqv]
      ·simp [slot,lkL,fixed,rg,renH,chEq,lookH,eqvL,eqv,eqvF,rnmL,rnm,liveN,Chunk.live,goodH,Chunk.good,okL,ok,sz,szL,storL,stor,renT,okT]
      ·simp [slot,lkL,fixed,rg,renH,chEq,lookH,eqvL,eqv,eqvF,rnmL,rnm,liveN,Chunk.live,goodH,Chunk.good,okL,ok,sz,szL,storL,stor,renT,okT]
      ·simp [slot,lkL,fixed,rg,renH,chEq,lookH,eqvL,eqv,eqvF,rnmL,rnm,liveN,Chunk.live,goodH,Chunk.good,okL,ok,sz,szL,storL,stor,renT,okT,h2]
      ·simp [slot,lkL,fixed,rg,renH,chEq,lookH,eqvL,eqv,eqvF,rnmL,rnm,liveN,Chunk.live,goodH,Chunk.good,okL,ok,sz,szL,storL,stor,renT,okT]
      ·intro j
       exact ⟨m - 1,by omega,p+1,j,by omega,by omega,rfl⟩
     ·have h2:=prime_no p hp312 hp2 (hN ▸ hA)
      rw [← hN] at h2
      refine into_mk [some 0,some 1] [(0,.ptr 0 0),(1,.ptr 1 0),(2,.int .i64 (cntP (p+1):Nat)),(3,.int .u64 (p+1:Nat))] [.cells true [.fam 64 1 fun _=>.int .u64 0],.cells true [.fam 64 1 fun i=>.int .u64 (nat (if i < cntP (p+1) then primeB i else 0))]] ?_ ?_ ?_ ?_ ?_ ?_ ?_ ?_
      ·simp [slot,lkL,fixed,rg,renH,chEq,lookH,eqvL,eqv,eqvF,rnmL,rnm,liveN,Chunk.live,goodH,Chunk.good,okL,ok,sz,szL,storL,stor,renT,okT]
      ·simp [slot,lkL,fixed,rg,renH,chEq,lookH,eqvL,eqv,eqvF,rnmL,rnm,liveN,Chunk.live,goodH,Chunk.good,okL,ok,sz,szL,storL,stor,renT,okT]
      ·simp [slot,lkL,fixed,rg,renH,chEq,lookH,eqvL,eqv,eqvF,rnmL,rnm,liveN,Chunk.live,goodH,Chunk.good,okL,ok,sz,szL,storL,stor,renT,okT,h2]
      ·simp [slot,lkL,fixed,rg,renH,chEq,lookH,eqvL,eqv,eqvF,rnmL,rnm,liveN,Chunk.live,goodH,Chunk.good,okL,ok,sz,szL,storL,stor,renT,okT]
      ·simp [slot,lkL,fixed,rg,renH,chEq,lookH,eqvL,eqv,eqvF,rnmL,rnm,liveN,Chunk.live,goodH,Chunk.good,okL,ok,sz,szL,storL,stor,renT,okT]
      ·simp [slot,lkL,fixed,rg,renH,chEq,lookH,eqvL,eqv,eqvF,rnmL,rnm,liveN,Chunk.live,goodH,Chunk.good,okL,ok,sz,szL,storL,stor,renT,okT,h2]
      ·simp [slot,lkL,fixed,rg,renH,chEq,lookH,eqvL,eqv,eqvF,rnmL,rnm,liveN,Chunk.live,goodH,Chunk.good,okL,ok,sz,szL,storL,stor,renT,okT]
      ·intro j
       exact ⟨m - 1,by omega,p+1,j,by omega,by omega,rfl⟩
  ·have hN64:N = 64:=by
    have h1:=of_decide_eq_false hc
    rcases Nat.lt_or_ge p 312 with h | h
    ·have:=prime_more p h
     omega
    ·have h2:p = 312:=by omega
     rw [hN,h2,prime_end]
   subst hN64
   refine intoR_mk [] (.fam 64 1 fun i=>.int .u64 (nat (primeB i))) [] ?_ ?_ ?_ ?_ ?_ ?_ ?_ hK
   ·simp [slot,lkL,fixed,rg,renH,chEq,lookH,eqvL,eqv,eqvF,rnmL,rnm,liveN,Chunk.live,goodH,Chunk.good,okL,ok,sz,szL,storL,stor,renT,okT]
   ·simp [slot,lkL,fixed,rg,renH,chEq,lookH,eqvL,eqv,eqvF,rnmL,rnm,liveN,Chunk.live,goodH,Chunk.good,okL,ok,sz,szL,storL,stor,renT,okT]
   ·simp [slot,lkL,fixed,rg,renH,chEq,lookH,eqvL,eqv,eqvF,rnmL,rnm,liveN,Chunk.live,goodH,Chunk.good,okL,ok,sz,szL,storL,stor,renT,okT]
   ·simp [slot,lkL,fixed,rg,renH,chEq,lookH,eqvL,eqv,eqvF,rnmL,rnm,liveN,Chunk.live,goodH,Chunk.good,okL,ok,sz,szL,storL,stor,renT,okT]
   ·simp [slot,lkL,fixed,rg,renH,chEq,lookH,eqvL,eqv,eqvF,rnmL,rnm,liveN,Chunk.live,goodH,Chunk.good,okL,ok,sz,szL,storL,stor,renT,okT]
   ·simp [slot,lkL,fixed,rg,renH,chEq,lookH,eqvL,eqv,eqvF,rnmL,rnm,liveN,Chunk.live,goodH,Chunk.good,okL,ok,sz,szL,storL,stor,renT,okT]
    intro i hi
    simp [hi]
   ·simp [slot,lkL,fixed,rg,renH,chEq,lookH,eqvL,eqv,eqvF,rnmL,rnm,liveN,Chunk.live,goodH,Chunk.good,okL,ok,sz,szL,storL,stor,renT,okT]
theorem c55 {h:List Chunk} (K:Tok→SV→List Chunk→Prop) (hK:K .mk (.fam 64 1 fun i=>.int .u64 (nat (primeB i))) h):callP Try.prog 151 [] h K:=by
 refine callP_frame (argsL:=[]) (KL:=fun _ v h'=>v = .fam 64 1 (fun i=>.int .u64 (nat (primeB i)))∧h' = []) [] (c55l _ ⟨rfl,rfl⟩) List.nodup_nil trivial trivial (by simp [slot,lkL,fixed,rg,renH,chEq,lookH,eqvL,eqv,eqvF,rnmL,rnm,liveN,Chunk.live,goodH,Chunk.good,okL,ok,sz,szL,storL,stor,renT,okT,has,upG,up,nth,roOk,keepsLive,Chunk.wr,lay,rnmC,putH]) rfl ?_
 rintro v h' ⟨rfl,rfl⟩
 refine ⟨by simp [slot,lkL,fixed,rg,renH,chEq,lookH,eqvL,eqv,eqvF,rnmL,rnm,liveN,Chunk.live,goodH,Chunk.good,okL,ok,sz,szL,storL,stor,renT,okT,has,upG,up,nth,roOk,keepsLive,Chunk.wr,lay,rnmC,putH],trivial,?_⟩
 simpa [rnm,lay] using hK
end Go.Proofs.Ytgocfglmideobaa.S
set_option linter.all false
set_option maxRecDepth 40000
namespace Go.Proofs.Ytgocfglmideobaa.S
open Go Go.Sx
theorem res57:Try.f153.results.toList = [.cell 6 183]:=rfl
end Go.Proofs.Ytgocfglmideobaa.S
set_option linter.all false
set_option maxRecDepth 40000
namespace Go.Proofs.Ytgocfglmideobaa.S
open Go Go.Sx
end Go.Proofs.Ytgocfglmideobaa.S
set_option linter.all false
set_option maxRecDepth 40000
namespace Go.Proofs.Ytgocfglmideobaa.S
open Go Go.Sx
end Go.Proofs.Ytgocfglmideobaa.S
