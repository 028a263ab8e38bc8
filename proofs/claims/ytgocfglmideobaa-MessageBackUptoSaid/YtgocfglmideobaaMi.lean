/- Texts put together: Contracts of functions that the laws reach, by the symbolic executor. No condition. -/
import Derived.Test.YtgocfglmideobaaMc
import Derived.Test.YtgocfglmideobaaMh
import Derived.Test.YtgocfglmideobaaMg
set_option linter.all false
set_option maxRecDepth 40000
namespace Go.Proofs.Ytgocfglmideobaa
open Go Go.Sx
theorem res39:Try.f39.results.toList = [.cell 2 31,.tmp 3]:=rfl
theorem readRAt:∀ D,D≤5→ReadRAt D
 | 0,h=>c86 0 h fun D' e=>absurd e (by omega)
 | D+1,h=>c86 (D+1) h fun D' e=>by
  have e2:D' = D:=by omega
  rw [e2]
  exact readRAt D (by omega)
theorem rdR_e {bs:List By} {e:Int} (h:rdR 2 bs = .error e):decS bs = .error e:=by
 unfold rdR at h
 unfold decS
 split at h
 ·rename_i c
  rw [if_pos c]
  exact h
 ·rename_i c
  rw [if_neg c,h]
theorem rdR_o {bs:List By} {m:Msg} (h:rdR 2 bs = .ok m):decS bs = if may m = 0 then .ok m else .error (may m):=by
 unfold rdR at h
 unfold decS
 split at h
 ·cases h
 ·rename_i c
  rw [if_neg c,h]
set_option maxHeartbeats 4000000 in
theorem c39 (bs:List By) (h:List Chunk) (k d e:Nat) (w:Bool) (N:Nat) (F:Nat→SV) (hr:lookH h k = .row w N 1 F) (hN:e+bs.length≤N) (hF:∀ i,i < bs.length→F (e+i) = .int .u8 (nat (bs.getD i 0))) (hl:bs.length≤35184372088832) (K:Tok→SV→List Chunk→Prop) (hE:∀ er,decS bs = .error er→∀ H,Ext (fun _=>False) h H→K .mk (.tup [.agg [.int .i64 0,.int .i64 0,.int .i64 0,.int .i64 0,.fam 32 1 fun _=>.int .u8 0,.v (.slice none 0 0),.v (.slice none 0 0),.v (.slice none 0 0),.v (.slice none 0 0),.int .i64 0,.fam 32 1 fun _=>.int .u8 0],.int .i64 er]) H) (hO:∀ m,decS bs = .ok m→∀ H sv,Ext (fun _=>False) h H→RelM H m sv→K .mk (.tup [sv,.int .i64 0]) H):callP Try.prog 39 [.osl k d e 1 bs.length] h K:=by
 refine callP_of_code tabOk Try.func39 (by kernel_rfl) rfl (Nat.le_of_ble_eq_true rfl) (codeP_of_vc (pl:=np) tabOk follows_mixed (by kernel_rfl) ?_)
 rw [Try.ntmps39]
 simp -implicitDefEqProofs (maxSteps:=1000000) (disch:=omega) only [↓zzP,zzA,zzB,reduceIte,reduceCtorEq,Nat.reduceLT,↓reduceIte,↓gd,↓opP,↓qv,↓ef,slot,putS,putO,ofV,asRow,rdF,Ent.row,ldS,tupS,res39]
 repeat (refine ⟨by omega,?_⟩)
 obtain ⟨H0,hH0⟩:∃ H0,H0 = h++[Chunk.cells true [.int .i64 0,.int .i64 0,.int .i64 0,.int .i64 0,.fam 32 1 fun _=>.int .u8 0,.v (.slice none 0 0),.v (.slice none 0 0),.v (.slice none 0 0),.v (.slice none 0 0),.int .i64 0,.fam 32 1 fun _=>.int .u8 0]]:=⟨_,rfl⟩
 have hE0:Ext (fun _=>False) h H0:=by rw [hH0]; exact (Ext.refl _ _).app _
 have e0:lookH H0 h.length = Chunk.cells true [.int .i64 0,.int .i64 0,.int .i64 0,.int .i64 0,.fam 32 1 fun _=>.int .u8 0,.v (.slice none 0 0),.v (.slice none 0 0),.v (.slice none 0 0),.v (.slice none 0 0),.int .i64 0,.fam 32 1 fun _=>.int .u8 0]:=by rw [hH0]; exact lookH_app0 _ _
 have hr0:=hE0.look hr (by simp) fun h=>h
 rw [← hH0]
 refine readRAt 2 (by omega) bs H0 k d e w N F hr0 hN hF (by omega) _ (fun er he hne H1 x hE1 hx=>?_) (fun m he H1 sv hE1 hrel=>?_)
 ·obtain ⟨lx,rfl,yk,yf,yv,ys,yd,s5,s6,s7,s8,ykey,yof,rfl⟩:=hx
  have z2:(er == 0) = false:=beq_eq_false_iff_ne.2 hne
  have z3:(er != 0) = true:=bne_iff_ne.2 hne
  have f0:=hE1.look e0 (by simp) fun h=>h
  have l0:=lookH_lt f0 (by simp)
  have hE2:=hE0.trans hE1
  simp -implicitDefEqProofs (maxSteps:=1000000) (disch:=omega) only [↓zzP,zzA,zzL,zzB,Nat.reduceSub,reduceIte,reduceCtorEq,Nat.reduceLT,↓reduceIte,Nat.reduceEqDiff,Nat.reduceLeDiff,Nat.reduceAdd,↓gd,↓opP,↓qv,↓ef,↓stS,slot,putS,putO,ofV,asRow,sz,wrF,bldS,binH,binS2,binS,stor,Value.oneCell',z2,z3,f0,lookH_at,putH_at,lookH_pB,lookH_put_same,Sl.sz,Sl.stor]
  repeat (refine ⟨by omega,?_⟩)
  exact intoR_refl (by rw [List.length_append,putH_len]; exact Nat.le_trans hE2.1 (Nat.le_add_right _ _)) (hE er (rdR_e he) _ ((hE2.put (p:=h.length) _ (.inr (Nat.le_refl _))).app _))
 ·obtain ⟨lx,rfl,hmx,hwx⟩:=id hrel
  obtain ⟨xk,xf,xv,xs,xd,xkb,xnb,xkbs,xnbs,xkp,xnp,xkq,xnq,xkey,xof,rfl⟩:=hmx.open
  have z2:((0:Int) == 0) = true:=rfl
  have z3:((0:Int) != 0) = false:=rfl
  have f0:=hE1.look e0 (by simp) fun h=>h
  have l0:=lookH_lt f0 (by simp)
  have hE2:=hE0.trans hE1
  have hd:=rdR_o he
  simp -implicitDefEqProofs (maxSteps:=1000000) (disch:=omega) only [↓zzP,zzA,zzL,zzB,Nat.reduceSub,reduceIte,reduceCtorEq,Nat.reduceLT,↓reduceIte,Nat.reduceEqDiff,Nat.reduceLeDiff,Nat.reduceAdd,↓gd,↓opP,↓qv,↓ef,↓stS,slot,putS,putO,ofV,rdF,Ent.row,ldS,sz,wrF,binH,binS2,binS,stor,z2]
  repeat (refine ⟨by omega,?_⟩)
  refine c16 m _ _ (MsgH.extR (extT (extR_fresh _ _) (extR_app _ _)) hmx) _ ?_
  by_cases c2:may m = 0
  ·rw [if_pos c2] at hd
   rw [c2]
   simp -implicitDefEqProofs (maxSteps:=1000000) (disch:=omega) only [↓zzP,zzA,zzL,zzB,Nat.reduceSub,reduceIte,reduceCtorEq,Nat.reduceLT,↓reduceIte,Nat.reduceEqDiff,Nat.reduceLeDiff,Nat.reduceAdd,↓gd,↓opP,↓qv,↓ef,↓stS,slot,putS,putO,ofV,rdF,Ent.row,ldS,sz,wrF,binH,binS2,binS,stor,z3,f0,lookH_at,putH_at,lookH_pB,lookH_put_same]
   repeat (refine ⟨by omega,?_⟩)
   refine intoR_refl (by rw [List.length_append,putH_len]; exact Nat.le_trans hE2.1 (Nat.le_add_right _ _)) (hO m hd _ _ ((hE2.put (p:=h.length) _ (.inr (Nat.le_refl _))).app _) ⟨_,rfl,?_,hwx⟩)
   exact hmx.extR (extT (extR_f7 hE0.1 (lookH_lt e0 (by simp)) _) (extT (extR_fresh _ _) (extR_app _ _)))
  ·rw [if_neg c2] at hd
   have z4:(may m != 0) = true:=bne_iff_ne.2 c2
   simp -implicitDefEqProofs (maxSteps:=1000000) (disch:=omega) only [↓zzP,zzA,zzL,zzB,Nat.reduceSub,reduceIte,reduceCtorEq,Nat.reduceLT,↓reduceIte,Nat.reduceEqDiff,Nat.reduceLeDiff,Nat.reduceAdd,↓gd,↓opP,↓qv,↓ef,↓stS,slot,putS,putO,ofV,asRow,sz,wrF,bldS,binH,binS2,binS,stor,Value.oneCell',z4,f0,lookH_at,putH_at,lookH_pB,lookH_put_same]
   repeat (refine ⟨by omega,?_⟩)
   exact intoR_refl (by rw [List.length_append,putH_len]; exact Nat.le_trans hE2.1 (Nat.le_add_right _ _)) (hE _ hd _ ((hE2.put (p:=h.length) _ (.inr (Nat.le_refl _))).app _))
end Go.Proofs.Ytgocfglmideobaa
set_option linter.all false
set_option maxRecDepth 40000
namespace Go.Proofs.Ytgocfglmideobaa
open Go Go.Sx
theorem res7:Try.f7.results.toList = [.tmp 2]:=rfl
def pl7:Nat→Plan:=fun _=>.nil
theorem c40z (h:List Chunk) (K:Tok→SV→List Chunk→Prop) (hK:∀ H,Ext (fun _=>False) h H→K .mk (.bool true) H):callP Try.prog 40 [.agg [.int .i64 0,.int .i64 0,.int .i64 0,.int .i64 0,.fam 32 1 fun _=>.int .u8 0,.v (.slice none 0 0),.v (.slice none 0 0),.v (.slice none 0 0),.v (.slice none 0 0),.int .i64 0,.fam 32 1 fun _=>.int .u8 0],.agg [.int .i64 0,.int .i64 0,.int .i64 0,.int .i64 0,.fam 32 1 fun _=>.int .u8 0,.v (.slice none 0 0),.v (.slice none 0 0),.v (.slice none 0 0),.v (.slice none 0 0),.int .i64 0,.fam 32 1 fun _=>.int .u8 0]] h K:=by
 refine callP_nil (args':=[.agg [.int .i64 0,.int .i64 0,.int .i64 0,.int .i64 0,.fam 32 1 fun _=>.int .u8 0,.osl h.length 0 0 1 0,.osl h.length 0 0 1 0,.v (.slice none 0 0),.v (.slice none 0 0),.int .i64 0,.fam 32 1 fun _=>.int .u8 0],.agg [.int .i64 0,.int .i64 0,.int .i64 0,.int .i64 0,.fam 32 1 fun _=>.int .u8 0,.osl h.length 0 0 1 0,.osl h.length 0 0 1 0,.v (.slice none 0 0),.v (.slice none 0 0),.int .i64 0,.fam 32 1 fun _=>.int .u8 0]]) 1 (fun i=>.int .u8 (nat (([]:List By).getD i 0))) (fun ρ hρ=>by simp [denL,denC,den,hρ]) (by simp [okL,ok,sz]) ?_
 obtain ⟨a,ha⟩:∃ a,a = h.length:=⟨_,rfl⟩
 obtain ⟨h1,hh1⟩:∃ h1,h1 = h++[.row true 0 1 fun i=>.int .u8 (nat (([]:List By).getD i 0))]:=⟨_,rfl⟩
 have r1:lookH h1 a = .row true 0 1 (fun i=>.int .u8 (nat (([]:List By).getD i 0))):=by rw [hh1,ha]; exact lookH_end _ _
 have E1:Ext (fun _=>False) h h1:=by rw [hh1]; exact (Ext.refl _ _).app _
 have k1:=lookH_lt r1 (by simp)
 rw [← hh1,← ha]
 clear hh1 ha
 refine callP_nil (args':=[.agg [.int .i64 0,.int .i64 0,.int .i64 0,.int .i64 0,.fam 32 1 fun _=>.int .u8 0,.osl a 0 0 1 0,.osl a 0 0 1 0,.osl h1.length 0 0 73 0,.v (.slice none 0 0),.int .i64 0,.fam 32 1 fun _=>.int .u8 0],.agg [.int .i64 0,.int .i64 0,.int .i64 0,.int .i64 0,.fam 32 1 fun _=>.int .u8 0,.osl a 0 0 1 0,.osl a 0 0 1 0,.osl h1.length 0 0 73 0,.v (.slice none 0 0),.int .i64 0,.fam 32 1 fun _=>.int .u8 0]]) 73 (fun i=>.agg ((fun _=>[]) i)) (fun ρ hρ=>by simp [denL,denC,den,hρ]) (by simp [okL,ok,sz]; omega) ?_
 obtain ⟨b,hb⟩:∃ b,b = h1.length:=⟨_,rfl⟩
 obtain ⟨h2,hh2⟩:∃ h2,h2 = h1++[.row true 0 73 fun i=>.agg ((fun _=>[]) i)]:=⟨_,rfl⟩
 have r2:lookH h2 b = .row true 0 73 (fun i=>.agg ((fun _=>[]) i)):=by rw [hh2,hb]; exact lookH_end _ _
 have E2:Ext (fun _=>False) h1 h2:=by rw [hh2]; exact (Ext.refl _ _).app _
 have r12:=E2.look r1 (by simp) fun h=>h
 have k2:=lookH_lt r2 (by simp)
 have k12:=lookH_lt r12 (by simp)
 rw [← hh2,← hb]
 clear hh2 hb
 refine callP_nil (args':=[.agg [.int .i64 0,.int .i64 0,.int .i64 0,.int .i64 0,.fam 32 1 fun _=>.int .u8 0,.osl a 0 0 1 0,.osl a 0 0 1 0,.osl b 0 0 73 0,.osl h2.length 0 0 74 0,.int .i64 0,.fam 32 1 fun _=>.int .u8 0],.agg [.int .i64 0,.int .i64 0,.int .i64 0,.int .i64 0,.fam 32 1 fun _=>.int .u8 0,.osl a 0 0 1 0,.osl a 0 0 1 0,.osl b 0 0 73 0,.osl h2.length 0 0 74 0,.int .i64 0,.fam 32 1 fun _=>.int .u8 0]]) 74 (fun i=>.agg ((fun _=>[]) i)) (fun ρ hρ=>by simp [denL,denC,den,hρ]) (by simp [okL,ok,sz]; omega) ?_
 have E3:Ext (fun _=>False) h2 (h2++[.row true 0 74 fun i=>.agg ((fun _=>[]) i)]):=(Ext.refl _ _).app _
 have r13:=E3.look r12 (by simp) fun h=>h
 have r23:=E3.look r2 (by simp) fun h=>h
 have hm:MsgH (h2++[.row true 0 74 fun i=>.agg ((fun _=>[]) i)]) (.mk 0 0 0 0 (fun _=>0) [] [] [] [] 0 (fun _=>0)) [.int .i64 0,.int .i64 0,.int .i64 0,.int .i64 0,.fam 32 1 fun _=>.int .u8 0,.osl a 0 0 1 0,.osl a 0 0 1 0,.osl b 0 0 73 0,.osl h2.length 0 0 74 0,.int .i64 0,.fam 32 1 fun _=>.int .u8 0]:=by
  rw [MsgH]
  exact ⟨_,_,b,true,fun _=>[],h2.length,true,fun _=>[],rfl,⟨a,true,rfl,r13⟩,⟨a,true,_,rfl,r13,fun i hi=>absurd hi (Nat.not_lt_zero _)⟩,r23,MsgsH.mk fun i hi=>absurd hi (Nat.not_lt_zero _),lookH_end _ _,PrepsH.mk fun i hi=>absurd hi (Nat.not_lt_zero _)⟩
 exact c40S 0 0 0 0 (fun _=>0) [] [] [] [] 0 (fun _=>0) ⟨by decide,by decide,by decide,fun x hx=>by cases hx⟩ (fun m hm=>by cases hm) (fun x hx=>by cases hx) _ _ _ hm hm K fun H hE=>hK H ((E1.trans (E2.trans E3)).trans hE)
set_option maxHeartbeats 8000000 in
theorem c7 (bs:List By) (h:List Chunk) (sv:SV) (hb:RelBs h bs sv) (K:Tok→SV→List Chunk→Prop) (hK:∀ H,K .mk (.bool true) H):callP Try.prog 7 [sv] h K:=by
 obtain ⟨k,w,rfl,hr⟩:=hb
 have hF:∀ i,i < bs.length→(fun i=>SV.int .u8 (nat (bs.getD i 0))) (0+i) = .int .u8 (nat (bs.getD i 0)):=fun i hi=>by rw [Nat.zero_add]
 refine callP_of_code tabOk Try.func7 (by kernel_rfl) rfl (Nat.le_of_ble_eq_true rfl) (codeP_of_vc (pl:=pl7) tabOk follows_mixed (by kernel_rfl) ?_)
 rw [Try.ntmps7]
 by_cases c:30000 < bs.length
 ·have z1:decide ((bs.length:Int) > 30000) = true:=decide_eq_true (by omega)
  simp -implicitDefEqProofs (maxSteps:=1000000) (disch:=omega) only [↓zzP,zzA,reduceIte,reduceCtorEq,Nat.reduceLT,↓reduceIte,↓gd,↓opP,↓qv,slot,putS,putO,ofV,lenS,binH,binS2,binS,tupS,res7,z1]
  repeat (refine ⟨by omega,?_⟩)
  refine c12 _ _ fun H hE=>?_
  simp -implicitDefEqProofs (maxSteps:=1000000) (disch:=omega) only [↓zzP,zzA,reduceIte,Nat.reduceLT,↓reduceIte,↓gd,↓opP,↓qv,slot,putS,putO]
  repeat (refine ⟨by omega,?_⟩)
  exact intoR_refl hE.1 (hK _)
 have z1:decide ((bs.length:Int) > 30000) = false:=decide_eq_false (by omega)
 simp -implicitDefEqProofs (maxSteps:=1000000) (disch:=omega) only [↓zzP,zzA,reduceIte,reduceCtorEq,Nat.reduceLT,↓reduceIte,↓gd,↓opP,↓qv,slot,putS,putO,ofV,lenS,binH,binS2,binS,tupS,res7,z1]
 repeat (refine ⟨by omega,?_⟩)
 refine c38 bs h k 0 0 w _ _ hr (by omega) hF _ (fun er he H hE=>?_) (fun m he H sv hE hrel=>?_)
 ·have hz:((er:Int) == er) = true:=beq_self_eq_true _
  simp -implicitDefEqProofs (maxSteps:=1000000) (disch:=omega) only [↓zzP,zzA,zzL,zzB,Nat.reduceSub,reduceIte,reduceCtorEq,Nat.reduceLT,↓reduceIte,Nat.reduceEqDiff,Nat.reduceLeDiff,Nat.reduceAdd,↓gd,↓opP,↓qv,↓ef,↓stS,slot,putS,putO,sz,wrF,stor,Value.oneCell']
  repeat (refine ⟨by omega,?_⟩)
  have hr1:=(hE.app [Chunk.cells true [.int .i64 0,.int .i64 0,.int .i64 0,.int .i64 0,.fam 32 1 fun _=>.int .u8 0,.v (.slice none 0 0),.v (.slice none 0 0),.v (.slice none 0 0),.v (.slice none 0 0),.int .i64 0,.fam 32 1 fun _=>.int .u8 0]]).look hr (by simp) fun h=>h
  refine c39 bs _ k 0 0 w _ _ hr1 (by omega) hF (by omega) _ (fun er2 he2 H2 hE2=>?_) (fun m2 he2=>absurd (he.symm.trans he2) (by simp))
  have e:er2 = er:=by rw [he] at he2; cases he2; rfl
  subst e
  have f0:lookH H2 H.length = Chunk.cells true [.int .i64 0,.int .i64 0,.int .i64 0,.int .i64 0,.fam 32 1 fun _=>.int .u8 0,.v (.slice none 0 0),.v (.slice none 0 0),.v (.slice none 0 0),.v (.slice none 0 0),.int .i64 0,.fam 32 1 fun _=>.int .u8 0]:=hE2.look (lookH_app0 _ _) (by simp) fun h=>h
  have l0:=lookH_lt f0 (by simp)
  simp -implicitDefEqProofs (maxSteps:=1000000) (disch:=omega) only [↓zzP,zzA,zzL,zzB,Nat.reduceSub,reduceIte,reduceCtorEq,Nat.reduceLT,↓reduceIte,Nat.reduceEqDiff,Nat.reduceLeDiff,Nat.reduceAdd,↓gd,↓opP,↓qv,↓ef,↓stS,slot,putS,putO,rdF,Ent.row,ldS,sz,wrF,stor,Value.oneCell',f0,lookH_at]
  repeat (refine ⟨by omega,?_⟩)
  refine c40z _ _ fun H3 hE3=>?_
  have f2:lookH H3 H2.length = Chunk.cells true [.int .i64 0,.int .i64 0,.int .i64 0,.int .i64 0,.fam 32 1 fun _=>.int .u8 0,.v (.slice none 0 0),.v (.slice none 0 0),.v (.slice none 0 0),.v (.slice none 0 0),.int .i64 0,.fam 32 1 fun _=>.int .u8 0]:=hE3.look (lookH_app0 _ _) (by simp) fun h=>h
  have f1:lookH H3 H.length = Chunk.cells true [.int .i64 0,.int .i64 0,.int .i64 0,.int .i64 0,.fam 32 1 fun _=>.int .u8 0,.v (.slice none 0 0),.v (.slice none 0 0),.v (.slice none 0 0),.v (.slice none 0 0),.int .i64 0,.fam 32 1 fun _=>.int .u8 0]:=hE3.look (by rw [lookH_at _ l0]; exact f0) (by simp) fun h=>h
  refine ⟨?_,?_⟩
  ·simp [f1,f2]
  simp -implicitDefEqProofs (maxSteps:=1000000) (disch:=omega) only [↓zzP,zzA,zzL,reduceIte,Nat.reduceLT,↓reduceIte,Nat.reduceEqDiff,Array.reduceGetElem?,↓gd,↓opP,↓qv,slot,putS,putO,ofV,binH,binS2,binS,hz]
  repeat (refine ⟨by omega,?_⟩)
  refine c12 _ _ fun H4 hE4=>?_
  simp -implicitDefEqProofs (maxSteps:=1000000) (disch:=omega) only [↓zzP,zzA,zzL,reduceIte,Nat.reduceLT,↓reduceIte,Nat.reduceEqDiff,↓gd,↓opP,↓qv,slot,putS,putO,ofV]
  repeat (refine ⟨by omega,?_⟩)
  exact intoR_refl (by have a1:=hE.1; have a2:=hE2.1; have a3:=hE3.1; have a4:=hE4.1; simp only [List.length_append,List.length_cons,List.length_nil] at a2 a3; omega) (hK _)
 ·obtain ⟨lx,rfl,hmx,hwx⟩:=id hrel
  obtain ⟨xk,xf,xv,xs,xd,xkb,xnb,xkbs,xnbs,xkp,xnp,xkq,xnq,xkey,xof,rfl⟩:=hmx.open
  have hmay:=(decS_back he).2.1
  simp -implicitDefEqProofs (maxSteps:=1000000) (disch:=omega) only [↓zzP,zzA,zzL,zzB,Nat.reduceSub,reduceIte,reduceCtorEq,Nat.reduceLT,↓reduceIte,Nat.reduceEqDiff,Nat.reduceLeDiff,Nat.reduceAdd,↓gd,↓opP,↓qv,↓ef,↓stS,slot,putS,putO,sz,wrF,stor]
  repeat (refine ⟨by omega,?_⟩)
  have hr1:=(hE.app [.cells true [.int .i64 xk,.int .i64 xf,.int .i64 xv,.int .i64 xs,.fam 32 1 fun i=>.int .u8 (nat (xd i)),.osl xkb 0 0 1 xnb,.osl xkbs 0 0 1 xnbs,.osl xkp 0 0 73 xnp,.osl xkq 0 0 74 xnq,.int .i64 xkey,.fam 32 1 fun i=>.int .u8 (nat (xof i))]]).look hr (by simp) fun h=>h
  refine c39 bs _ k 0 0 w _ _ hr1 (by omega) hF (by omega) _ (fun er2 he2=>absurd (he.symm.trans he2) (by simp)) (fun m2 he2 H2 sv2 hE2 hrel2=>?_)
  have e:m2 = m:=by rw [he] at he2; cases he2; rfl
  subst e
  obtain ⟨lx2,rfl,hmx2,hwx2⟩:=id hrel2
  obtain ⟨yk,yf,yv,ys,yd,ykb,ynb,ykbs,ynbs,ykp,ynp,ykq,ynq,ykey,yof,rfl⟩:=hmx2.open
  have f0:lookH H2 H.length = .cells true [.int .i64 xk,.int .i64 xf,.int .i64 xv,.int .i64 xs,.fam 32 1 fun i=>.int .u8 (nat (xd i)),.osl xkb 0 0 1 xnb,.osl xkbs 0 0 1 xnbs,.osl xkp 0 0 73 xnp,.osl xkq 0 0 74 xnq,.int .i64 xkey,.fam 32 1 fun i=>.int .u8 (nat (xof i))]:=hE2.look (lookH_app0 _ _) (by simp) fun h=>h
  have l0:=lookH_lt f0 (by simp)
  simp -implicitDefEqProofs (maxSteps:=1000000) (disch:=omega) only [↓zzP,zzA,zzL,zzB,Nat.reduceSub,reduceIte,reduceCtorEq,Nat.reduceLT,↓reduceIte,Nat.reduceEqDiff,Nat.reduceLeDiff,Nat.reduceAdd,↓gd,↓opP,↓qv,↓ef,↓stS,slot,putS,putO,rdF,Ent.row,ldS,sz,wrF,stor,f0,lookH_at]
  repeat (refine ⟨by omega,?_⟩)
  refine sameAt m2 hmay _ _ _ (hmx.extR (extT (extR_app _ _) (extT (ext_rows hE2 fun _ h=>h.elim) (extR_app _ _)))) (hmx2.extR (extR_app _ _)) _ fun H3 hE3=>?_
  have g2:lookH H3 H2.length = .cells true [.int .i64 yk,.int .i64 yf,.int .i64 yv,.int .i64 ys,.fam 32 1 fun i=>.int .u8 (nat (yd i)),.osl ykb 0 0 1 ynb,.osl ykbs 0 0 1 ynbs,.osl ykp 0 0 73 ynp,.osl ykq 0 0 74 ynq,.int .i64 ykey,.fam 32 1 fun i=>.int .u8 (nat (yof i))]:=hE3.look (lookH_app0 _ _) (by simp) fun h=>h
  have g1:lookH H3 H.length = .cells true [.int .i64 xk,.int .i64 xf,.int .i64 xv,.int .i64 xs,.fam 32 1 fun i=>.int .u8 (nat (xd i)),.osl xkb 0 0 1 xnb,.osl xkbs 0 0 1 xnbs,.osl xkp 0 0 73 xnp,.osl xkq 0 0 74 xnq,.int .i64 xkey,.fam 32 1 fun i=>.int .u8 (nat (xof i))]:=hE3.look (by rw [lookH_at _ l0]; exact f0) (by simp) fun h=>h
  refine ⟨?_,?_⟩
  ·simp [g1,g2]
  simp -implicitDefEqProofs (maxSteps:=1000000) (disch:=omega) only [↓zzP,zzA,zzL,reduceIte,Nat.reduceLT,↓reduceIte,Nat.reduceEqDiff,Array.reduceGetElem?,↓gd,↓opP,↓qv,slot,putS,putO,ofV,binH,binS2,binS,beq_self_eq_true]
  repeat (refine ⟨by omega,?_⟩)
  refine c12 _ _ fun H4 hE4=>?_
  simp -implicitDefEqProofs (maxSteps:=1000000) (disch:=omega) only [↓zzP,zzA,zzL,reduceIte,Nat.reduceLT,↓reduceIte,Nat.reduceEqDiff,↓gd,↓opP,↓qv,slot,putS,putO,ofV]
  repeat (refine ⟨by omega,?_⟩)
  exact intoR_refl (by have a1:=hE.1; have a2:=hE2.1; have a3:=hE3.1; have a4:=hE4.1; simp only [List.length_append,List.length_cons,List.length_nil] at a2 a3; omega) (hK _)
end Go.Proofs.Ytgocfglmideobaa
set_option linter.all false
set_option maxRecDepth 40000
namespace Go.Proofs.Ytgocfglmideobaa
open Go Go.Sx
end Go.Proofs.Ytgocfglmideobaa
set_option linter.all false
set_option maxRecDepth 40000
namespace Go.Proofs.Ytgocfglmideobaa
open Go Go.Sx
theorem res92:Try.f92.results.toList = [.tmp 4]:=rfl
theorem res93:Try.f93.results.toList = [.tmp 6]:=rfl
theorem res94:Try.f94.results.toList = [.tmp 6]:=rfl
theorem res95:Try.f95.results.toList = [.tmp 6]:=rfl
theorem res96:Try.f96.results.toList = [.tmp 4]:=rfl
theorem res47:Try.f47.results.toList = [.tmp 4]:=rfl
def pl92:Nat→Plan:=fun _=>.nil
def pl93:Nat→Plan:=fun _=>.nil
def pl94:Nat→Plan:=fun _=>.nil
def pl95:Nat→Plan:=fun _=>.nil
def pl96:Nat→Plan:=fun _=>.nil
def pl47:Nat→Plan:=fun _=>.nil
abbrev SameM (m m':Msg):Prop:=∀ (l1 l2:List SV) (h:List Chunk),MsgH h m l1→MsgH h m' l2→∀ (K:Tok→SV→List Chunk→Prop),(∀ H,Ext (fun _=>False) h H→K .mk (.bool true) H)→callP Try.prog 47 [.agg l1,.agg l2] h K
theorem c92 (b:List By) (s1 s2:SV) (h:List Chunk) (h1:rowB h s1 b) (h2:rowB h s2 b) (K:Tok→SV→List Chunk→Prop) (hK:K .mk (.bool true) h):callP Try.prog 92 [s1,s2] h K:=by
 obtain ⟨ka,wa,rfl,hra⟩:=h1
 obtain ⟨kb,wb,rfl,hrb⟩:=h2
 refine callP_of_code tabOk Try.func92 (by kernel_rfl) rfl (Nat.le_of_ble_eq_true rfl) (codeP_of_vc (pl:=pl92) tabOk follows_mixed (by kernel_rfl) ?_)
 rw [Try.ntmps92]
 simp -implicitDefEqProofs (maxSteps:=1000000) (disch:=omega) only [↓zzP,zzA,zzL,reduceIte,reduceCtorEq,Nat.reduceLT,↓reduceIte,Nat.reduceEqDiff,Nat.reduceAdd,↓gd,↓opP,↓qv,slot,putS,putO,ofV,convS,valI,binH,binS2,binS,tupS,res92,hra,hrb,beq_self_eq_true]
 repeat (refine ⟨by omega,?_⟩)
 exact intoR_refl (Nat.le_refl _) hK
set_option maxHeartbeats 4000000 in
theorem c93 (bs:List (List By)) (s1 s2:SV) (h:List Chunk) (h1:rowBs h s1 bs) (h2:rowBs h s2 bs) (hl:bs.length≤1125899906842624) (K:Tok→SV→List Chunk→Prop) (hK:K .mk (.bool true) h):callP Try.prog 93 [s1,s2,.fn (.func 92) [] []] h K:=by
 obtain ⟨ka,wa,fa,rfl,hra,hba⟩:=h1
 obtain ⟨kb,wb,fb,rfl,hrb,hbb⟩:=h2
 obtain ⟨n,hn⟩:∃ n,n = bs.length:=⟨_,rfl⟩
 rw [← hn] at hra hrb hl ⊢
 refine callP_of_code tabOk Try.func93 (by kernel_rfl) rfl (Nat.le_of_ble_eq_true rfl) (codeP_of_vc (pl:=pl93) tabOk follows_mixed (by kernel_rfl) ?_)
 rw [Try.ntmps93]
 have z0:(((n:Nat):Int) != (n:Int)) = false:=bne_self_eq_false _
 simp -implicitDefEqProofs (maxSteps:=1000000) (disch:=omega) only [↓zzP,zzA,reduceIte,reduceCtorEq,Nat.reduceLT,↓reduceIte,Nat.reduceEqDiff,Nat.reduceAdd,↓gd,↓opP,↓qv,slot,putS,putO,ofV,lenS,binH,binS2,binS,tupS,res93,z0]
 repeat (refine ⟨by omega,?_⟩)
 refine codeP_loop (pl:=pl93) tabOk follows_mixed (by kernel_rfl) (fun z st=>∃ (i:Nat) (j:Nat→Value),i+z = n∧st = ⟨⟨32,[(0,.osl ka 0 0 1 n),(1,.osl kb 0 0 1 n),(2,.fn (.func 92) [] []),(6,.bool false),(15,.osl ka 0 0 1 n),(16,.int .i64 (n:Nat)),(17,.int .i64 (i:Nat))],j⟩,h,[]⟩) ?_ ?_
 ·exact into_keep [(0,.osl ka 0 0 1 n),(1,.osl kb 0 0 1 n),(2,.fn (.func 92) [] []),(6,.bool false),(15,.osl ka 0 0 1 n),(16,.int .i64 (n:Nat)),(17,.int .i64 (0:Nat))] (by simp [sameT,slot,lkL]) fun j=>⟨n,0,j,by omega,rfl⟩
 rintro z st ⟨i,j,hiz,rfl⟩
 by_cases hi:i < n
 ·have g1:decide ((i:Int) < (n:Nat)) = true:=decide_eq_true (by omega)
  have a1:IntKind.i64.wrap ((i:Int)+1) = ((i+1:Nat):Int):=by rw [wrap64 (by omega) (by omega)]; omega
  have b1:=hba i (by omega)
  have b2:=hbb i (by omega)
  obtain ⟨k1,w1,e1,r1⟩:=id b1
  obtain ⟨k2,w2,e2,r2⟩:=id b2
  rw [e1] at b1
  rw [e2] at b2
  simp -implicitDefEqProofs (maxSteps:=1000000) (disch:=omega) only [↓zzP,zzA,zzL,zzB,reduceIte,reduceCtorEq,Nat.reduceLT,↓reduceIte,Nat.reduceEqDiff,↓gd,↓opP,↓qv,slot,putS,putO,idxA,rdF,Ent.row,ldS,binH,binS2,binS,g1,hra,hrb,e1,e2]
  repeat (refine ⟨by omega,?_⟩)
  refine c92 _ _ _ h b1 b2 _ ?_
  simp -implicitDefEqProofs (maxSteps:=1000000) (disch:=omega) only [↓zzP,zzA,reduceIte,reduceCtorEq,Nat.reduceLT,↓reduceIte,Nat.reduceEqDiff,↓gd,↓opP,↓qv,slot,putS,putO,ofV,unS,binH,binS2,binS,a1]
  repeat (refine ⟨by omega,?_⟩)
  exact into_keep [(0,.osl ka 0 0 1 n),(1,.osl kb 0 0 1 n),(2,.fn (.func 92) [] []),(6,.bool false),(15,.osl ka 0 0 1 n),(16,.int .i64 (n:Nat)),(17,.int .i64 (i+1:Nat))] (by simp [sameT,slot,lkL]) fun j=>⟨z - 1,by omega,i+1,j,by omega,rfl⟩
 ·have g1:decide ((i:Int) < (n:Nat)) = false:=decide_eq_false (by omega)
  simp -implicitDefEqProofs (maxSteps:=1000000) (disch:=omega) only [↓zzP,zzA,zzL,reduceIte,reduceCtorEq,Nat.reduceLT,↓reduceIte,Nat.reduceEqDiff,↓gd,↓opP,↓qv,slot,putS,putO,ofV,binH,binS2,binS,g1]
  repeat (refine ⟨by omega,?_⟩)
  exact intoR_refl (Nat.le_refl _) hK
set_option maxHeartbeats 4000000 in
theorem c94 (p p':List Msg) (hpp:p'.length = p.length) (hl:p.length≤1125899906842624) (IH:∀ i (h1:i < p.length) (h2:i < p'.length),SameM p[i] p'[i]) (ka kb:Nat) (wa wb:Bool) (fa fb:Nat→List SV) (h:List Chunk) (hra:lookH h ka = .row wa p.length 73 fun i=>.agg (fa i)) (hrb:lookH h kb = .row wb p'.length 73 fun i=>.agg (fb i)) (hba:MsgsH h p fa) (hbb:MsgsH h p' fb) (K:Tok→SV→List Chunk→Prop) (hK:∀ H,Ext (fun _=>False) h H→K .mk (.bool true) H):callP Try.prog 94 [.osl ka 0 0 73 p.length,.osl kb 0 0 73 p'.length,.fn (.func 47) [] []] h K:=by
 rw [hpp] at hrb ⊢
 obtain ⟨n,hn⟩:∃ n,n = p.length:=⟨_,rfl⟩
 rw [← hn] at hra hrb hl hpp ⊢
 refine callP_of_code tabOk Try.func94 (by kernel_rfl) rfl (Nat.le_of_ble_eq_true rfl) (codeP_of_vc (pl:=pl94) tabOk follows_mixed (by kernel_rfl) ?_)
 rw [Try.ntmps94]
 have z0:(((n:Nat):Int) != (n:Int)) = false:=bne_self_eq_false _
 simp -implicitDefEqProofs (maxSteps:=1000000) (disch:=omega) only [↓zzP,zzA,reduceIte,reduceCtorEq,Nat.reduceLT,↓reduceIte,Nat.reduceEqDiff,Nat.reduceAdd,↓gd,↓opP,↓qv,slot,putS,putO,ofV,lenS,binH,binS2,binS,tupS,res94,z0]
 repeat (refine ⟨by omega,?_⟩)
 refine codeP_loop (pl:=pl94) tabOk follows_mixed (by kernel_rfl) (fun z st=>∃ (i:Nat) (H:List Chunk) (j:Nat→Value),i+z = n∧Ext (fun _=>False) h H∧st = ⟨⟨32,[(0,.osl ka 0 0 73 n),(1,.osl kb 0 0 73 n),(2,.fn (.func 47) [] []),(6,.bool false),(15,.osl ka 0 0 73 n),(16,.int .i64 (n:Nat)),(17,.int .i64 (i:Nat))],j⟩,H,[]⟩) ?_ ?_
 ·exact into_keep [(0,.osl ka 0 0 73 n),(1,.osl kb 0 0 73 n),(2,.fn (.func 47) [] []),(6,.bool false),(15,.osl ka 0 0 73 n),(16,.int .i64 (n:Nat)),(17,.int .i64 (0:Nat))] (by simp [sameT,slot,lkL]) fun j=>⟨n,0,h,j,by omega,Ext.refl _ _,rfl⟩
 rintro z st ⟨i,H,j,hiz,hE,rfl⟩
 by_cases hi:i < n
 ·have g1:decide ((i:Int) < (n:Nat)) = true:=decide_eq_true (by omega)
  have a1:IntKind.i64.wrap ((i:Int)+1) = ((i+1:Nat):Int):=by rw [wrap64 (by omega) (by omega)]; omega
  have r1:=hE.look hra (by simp) fun h=>h
  have r2:=hE.look hrb (by simp) fun h=>h
  have i1:i < p.length:=by omega
  have i2:i < p'.length:=by omega
  have m1:=(hba.get i1).ext hE
  have m2:=(hbb.get i2).ext hE
  obtain ⟨xk,xf,xv,xs,xd,xkb,xnb,xkbs,xnbs,xkp,xnp,xkq,xnq,xkey,xof,e1⟩:=m1.open
  obtain ⟨yk,yf,yv,ys,yd,ykb,ynb,ykbs,ynbs,ykp,ynp,ykq,ynq,ykey,yof,e2⟩:=m2.open
  rw [e1] at m1
  rw [e2] at m2
  have r3:∀ c,lookH (H++[c]) kb = .row wb n 73 fun i=>.agg (fb i):=fun c=>lookH_old _ _ _ r2 (by simp)
  simp -implicitDefEqProofs (maxSteps:=1000000) (disch:=omega) only [↓zzP,zzA,zzL,zzB,Nat.reduceSub,reduceIte,reduceCtorEq,Nat.reduceLT,↓reduceIte,Nat.reduceEqDiff,Nat.reduceLeDiff,Nat.reduceAdd,↓gd,↓opP,↓qv,↓ef,↓stS,slot,putS,putO,idxA,rdF,Ent.row,ldS,sz,wrF,binH,binS2,binS,stor,g1,r1,r3,e1,e2]
  repeat (refine ⟨by omega,?_⟩)
  refine IH i i1 i2 _ _ _ (m1.ext ((Ext.refl _ _).app _)) (m2.ext ((Ext.refl _ _).app _)) _ fun H2 hE2=>?_
  have hE3:=(hE.app _).trans hE2
  simp -implicitDefEqProofs (maxSteps:=1000000) (disch:=omega) only [↓zzP,zzA,reduceIte,reduceCtorEq,Nat.reduceLT,↓reduceIte,Nat.reduceEqDiff,↓gd,↓opP,↓qv,slot,putS,putO,ofV,unS,binH,binS2,binS,a1]
  repeat (refine ⟨by omega,?_⟩)
  exact into_keep [(0,.osl ka 0 0 73 n),(1,.osl kb 0 0 73 n),(2,.fn (.func 47) [] []),(6,.bool false),(15,.osl ka 0 0 73 n),(16,.int .i64 (n:Nat)),(17,.int .i64 (i+1:Nat))] (by simp [sameT,slot,lkL]) fun j=>⟨z - 1,by omega,i+1,H2,j,by omega,hE3,rfl⟩
 ·have g1:decide ((i:Int) < (n:Nat)) = false:=decide_eq_false (by omega)
  simp -implicitDefEqProofs (maxSteps:=1000000) (disch:=omega) only [↓zzP,zzA,zzL,reduceIte,reduceCtorEq,Nat.reduceLT,↓reduceIte,Nat.reduceEqDiff,↓gd,↓opP,↓qv,slot,putS,putO,ofV,binH,binS2,binS,g1]
  repeat (refine ⟨by omega,?_⟩)
  exact intoR_refl hE.1 (hK _ hE)
set_option maxHeartbeats 4000000 in
theorem c96 (m m':Msg) (p p':List Msg) (hpp:p'.length = p.length) (hl:p.length≤1125899906842624) (IM:SameM m m') (IP:∀ i (h1:i < p.length) (h2:i < p'.length),SameM p[i] p'[i]) (l1 l2:List SV) (ka kb:Nat) (wa wb:Bool) (fa fb:Nat→List SV) (h:List Chunk) (hm1:MsgH h m l1) (hm2:MsgH h m' l2) (hra:lookH h ka = .row wa p.length 73 fun i=>.agg (fa i)) (hrb:lookH h kb = .row wb p'.length 73 fun i=>.agg (fb i)) (hba:MsgsH h p fa) (hbb:MsgsH h p' fb) (K:Tok→SV→List Chunk→Prop) (hK:∀ H,Ext (fun _=>False) h H→K .mk (.bool true) H):callP Try.prog 96 [.agg (l1++[.osl ka 0 0 73 p.length]),.agg (l2++[.osl kb 0 0 73 p'.length])] h K:=by
 obtain ⟨xk,xf,xv,xs,xd,xkb,xnb,xkbs,xnbs,xkp,xnp,xkq,xnq,xkey,xof,rfl⟩:=hm1.open
 obtain ⟨yk,yf,yv,ys,yd,ykb,ynb,ykbs,ynbs,ykp,ynp,ykq,ynq,ykey,yof,rfl⟩:=hm2.open
 simp only [List.cons_append,List.nil_append]
 refine callP_of_code tabOk Try.func96 (by kernel_rfl) rfl (Nat.le_of_ble_eq_true rfl) (codeP_of_vc (pl:=pl96) tabOk follows_mixed (by kernel_rfl) ?_)
 rw [Try.ntmps96]
 simp -implicitDefEqProofs (maxSteps:=1000000) (disch:=omega) only [↓zzP,zzA,zzL,zzB,Nat.reduceSub,reduceIte,reduceCtorEq,Nat.reduceLT,↓reduceIte,Nat.reduceEqDiff,Nat.reduceLeDiff,Nat.reduceAdd,↓gd,↓opP,↓qv,↓ef,slot,putS,putO,ofV,fldA,rdF,Ent.row,ldS,sz,tupS,stor,res96]
 repeat (refine ⟨by omega,?_⟩)
 obtain ⟨H0,hH0⟩:∃ H0,H0 = h++[Chunk.cells true [.int .i64 xk,.int .i64 xf,.int .i64 xv,.int .i64 xs,.fam 32 1 fun i=>.int .u8 (nat (xd i)),.osl xkb 0 0 1 xnb,.osl xkbs 0 0 1 xnbs,.osl xkp 0 0 73 xnp,.osl xkq 0 0 74 xnq,.int .i64 xkey,.fam 32 1 fun i=>.int .u8 (nat (xof i)),.osl ka 0 0 73 p.length],Chunk.cells true [.int .i64 yk,.int .i64 yf,.int .i64 yv,.int .i64 ys,.fam 32 1 fun i=>.int .u8 (nat (yd i)),.osl ykb 0 0 1 ynb,.osl ykbs 0 0 1 ynbs,.osl ykp 0 0 73 ynp,.osl ykq 0 0 74 ynq,.int .i64 ykey,.fam 32 1 fun i=>.int .u8 (nat (yof i)),.osl kb 0 0 73 p'.length]]:=⟨_,rfl⟩
 have hE0:Ext (fun _=>False) h H0:=by rw [hH0]; exact (Ext.refl _ _).app _
 have e0:lookH H0 h.length = Chunk.cells true [.int .i64 xk,.int .i64 xf,.int .i64 xv,.int .i64 xs,.fam 32 1 fun i=>.int .u8 (nat (xd i)),.osl xkb 0 0 1 xnb,.osl xkbs 0 0 1 xnbs,.osl xkp 0 0 73 xnp,.osl xkq 0 0 74 xnq,.int .i64 xkey,.fam 32 1 fun i=>.int .u8 (nat (xof i)),.osl ka 0 0 73 p.length]:=by rw [hH0]; exact lookH_app0 _ _
 have e1:lookH H0 (h.length+1) = Chunk.cells true [.int .i64 yk,.int .i64 yf,.int .i64 yv,.int .i64 ys,.fam 32 1 fun i=>.int .u8 (nat (yd i)),.osl ykb 0 0 1 ynb,.osl ykbs 0 0 1 ynbs,.osl ykp 0 0 73 ynp,.osl ykq 0 0 74 ynq,.int .i64 ykey,.fam 32 1 fun i=>.int .u8 (nat (yof i)),.osl kb 0 0 73 p'.length]:=by rw [hH0]; exact lookH_app _ 1 _
 rw [← hH0]
 refine IM _ _ H0 (hm1.ext hE0) (hm2.ext hE0) _ fun H1 hE1=>?_
 have f0:=hE1.look e0 (by simp) fun h=>h
 have f1:=hE1.look e1 (by simp) fun h=>h
 have hE2:=hE0.trans hE1
 simp -implicitDefEqProofs (maxSteps:=1000000) (disch:=omega) only [↓zzP,zzA,zzL,zzB,Nat.reduceSub,reduceIte,reduceCtorEq,Nat.reduceLT,↓reduceIte,Nat.reduceEqDiff,Nat.reduceLeDiff,Array.reduceGetElem?,↓gd,↓opP,↓qv,slot,putS,putO,fldA,rdF,Ent.row,ldS,sz,f0,f1]
 repeat (refine ⟨by omega,?_⟩)
 refine c94 p p' hpp hl IP ka kb wa wb fa fb H1 (hE2.look hra (by simp) fun h=>h) (hE2.look hrb (by simp) fun h=>h) (MsgsH.ext hE2 hba) (MsgsH.ext hE2 hbb) _ fun H3 hE3=>?_
 have hE4:=hE2.trans hE3
 simp -implicitDefEqProofs (maxSteps:=1000000) (disch:=omega) only [↓zzP,zzA,zzL,reduceIte,Nat.reduceLT,↓reduceIte,Nat.reduceEqDiff,↓gd,↓opP,↓qv,slot,putS,putO,ofV]
 repeat (refine ⟨by omega,?_⟩)
 exact intoR_refl hE4.1 (hK _ hE4)
set_option maxHeartbeats 4000000 in
theorem c95 (q q':List (Msg × List Msg)) (hqq:q'.length = q.length) (hl:q.length≤1125899906842624) (IH:∀ i (h1:i < q.length) (h2:i < q'.length),SameM q[i].1 q'[i].1∧q'[i].2.length = q[i].2.length∧q[i].2.length≤1125899906842624∧∀ j (h3:j < q[i].2.length) (h4:j < q'[i].2.length),SameM q[i].2[j] q'[i].2[j]) (ka kb:Nat) (wa wb:Bool) (fa fb:Nat→List SV) (h:List Chunk) (hra:lookH h ka = .row wa q.length 74 fun i=>.agg (fa i)) (hrb:lookH h kb = .row wb q'.length 74 fun i=>.agg (fb i)) (hba:PrepsH h q fa) (hbb:PrepsH h q' fb) (K:Tok→SV→List Chunk→Prop) (hK:∀ H,Ext (fun _=>False) h H→K .mk (.bool true) H):callP Try.prog 95 [.osl ka 0 0 74 q.length,.osl kb 0 0 74 q'.length,.fn (.func 96) [] []] h K:=by
 rw [hqq] at hrb ⊢
 obtain ⟨n,hn⟩:∃ n,n = q.length:=⟨_,rfl⟩
 rw [← hn] at hra hrb hl hqq ⊢
 refine callP_of_code tabOk Try.func95 (by kernel_rfl) rfl (Nat.le_of_ble_eq_true rfl) (codeP_of_vc (pl:=pl95) tabOk follows_mixed (by kernel_rfl) ?_)
 rw [Try.ntmps95]
 have z0:(((n:Nat):Int) != (n:Int)) = false:=bne_self_eq_false _
 simp -implicitDefEqProofs (maxSteps:=1000000) (disch:=omega) only [↓zzP,zzA,reduceIte,reduceCtorEq,Nat.reduceLT,↓reduceIte,Nat.reduceEqDiff,Nat.reduceAdd,↓gd,↓opP,↓qv,slot,putS,putO,ofV,lenS,binH,binS2,binS,tupS,res95,z0]
 repeat (refine ⟨by omega,?_⟩)
 refine codeP_loop (pl:=pl95) tabOk follows_mixed (by kernel_rfl) (fun z st=>∃ (i:Nat) (H:List Chunk) (j:Nat→Value),i+z = n∧Ext (fun _=>False) h H∧st = ⟨⟨32,[(0,.osl ka 0 0 74 n),(1,.osl kb 0 0 74 n),(2,.fn (.func 96) [] []),(6,.bool false),(15,.osl ka 0 0 74 n),(16,.int .i64 (n:Nat)),(17,.int .i64 (i:Nat))],j⟩,H,[]⟩) ?_ ?_
 ·exact into_keep [(0,.osl ka 0 0 74 n),(1,.osl kb 0 0 74 n),(2,.fn (.func 96) [] []),(6,.bool false),(15,.osl ka 0 0 74 n),(16,.int .i64 (n:Nat)),(17,.int .i64 (0:Nat))] (by simp [sameT,slot,lkL]) fun j=>⟨n,0,h,j,by omega,Ext.refl _ _,rfl⟩
 rintro z st ⟨i,H,j,hiz,hE,rfl⟩
 by_cases hi:i < n
 ·have g1:decide ((i:Int) < (n:Nat)) = true:=decide_eq_true (by omega)
  have a1:IntKind.i64.wrap ((i:Int)+1) = ((i+1:Nat):Int):=by rw [wrap64 (by omega) (by omega)]; omega
  have r1:=hE.look hra (by simp) fun h=>h
  have r2:=hE.look hrb (by simp) fun h=>h
  have i1:i < q.length:=by omega
  have i2:i < q'.length:=by omega
  obtain ⟨lm,xkl,wl,fl,hfi,hM,hrl,hls⟩:=hba.get i1
  obtain ⟨lm',ykl,wl',fl',hfi',hM',hrl',hls'⟩:=hbb.get i2
  obtain ⟨xk,xf,xv,xs,xd,xkb,xnb,xkbs,xnbs,xkp,xnp,xkq,xnq,xkey,xof,hlm⟩:=hM.open
  obtain ⟨yk,yf,yv,ys,yd,ykb,ynb,ykbs,ynbs,ykp,ynp,ykq,ynq,ykey,yof,hlm'⟩:=hM'.open
  obtain ⟨j1,j2,j3,j4⟩:=IH i i1 i2
  rw [hlm] at hM hfi
  rw [hlm'] at hM' hfi'
  simp only [List.cons_append,List.nil_append] at hfi hfi'
  obtain ⟨xnl,hxnl⟩:∃ x,x = q[i].2.length:=⟨_,rfl⟩
  obtain ⟨ynl,hynl⟩:∃ x,x = q'[i].2.length:=⟨_,rfl⟩
  rw [← hxnl] at hfi
  rw [← hynl] at hfi'
  have r3:∀ c,lookH (H++[c]) kb = .row wb n 74 fun i=>.agg (fb i):=fun c=>lookH_old _ _ _ r2 (by simp)
  simp -implicitDefEqProofs (maxSteps:=1000000) (disch:=omega) only [↓zzP,zzA,zzL,zzB,Nat.reduceSub,reduceIte,reduceCtorEq,Nat.reduceLT,↓reduceIte,Nat.reduceEqDiff,Nat.reduceLeDiff,Nat.reduceAdd,↓gd,↓opP,↓qv,↓ef,↓stS,slot,putS,putO,idxA,rdF,Ent.row,ldS,sz,wrF,binH,binS2,binS,stor,g1,r1,r3,hfi,hfi']
  repeat (refine ⟨by omega,?_⟩)
  rw [hxnl,hynl]
  have hEa:=fun x=>hE.app x
  refine c96 q[i].1 q'[i].1 q[i].2 q'[i].2 j2 j3 j1 j4 [.int .i64 xk,.int .i64 xf,.int .i64 xv,.int .i64 xs,.fam 32 1 fun i=>.int .u8 (nat (xd i)),.osl xkb 0 0 1 xnb,.osl xkbs 0 0 1 xnbs,.osl xkp 0 0 73 xnp,.osl xkq 0 0 74 xnq,.int .i64 xkey,.fam 32 1 fun i=>.int .u8 (nat (xof i))] [.int .i64 yk,.int .i64 yf,.int .i64 yv,.int .i64 ys,.fam 32 1 fun i=>.int .u8 (nat (yd i)),.osl ykb 0 0 1 ynb,.osl ykbs 0 0 1 ynbs,.osl ykp 0 0 73 ynp,.osl ykq 0 0 74 ynq,.int .i64 ykey,.fam 32 1 fun i=>.int .u8 (nat (yof i))] xkl ykl wl wl' fl fl' _ (hM.ext (hEa _)) (hM'.ext (hEa _)) ((hEa _).look hrl (by simp) fun h=>h) ((hEa _).look hrl' (by simp) fun h=>h) (MsgsH.ext (hEa _) hls) (MsgsH.ext (hEa _) hls') _ fun H2 hE2=>?_
  have hE3:=(hE.app _).trans hE2
  simp -implicitDefEqProofs (maxSteps:=1000000) (disch:=omega) only [↓zzP,zzA,reduceIte,reduceCtorEq,Nat.reduceLT,↓reduceIte,Nat.reduceEqDiff,↓gd,↓opP,↓qv,slot,putS,putO,ofV,unS,binH,binS2,binS,a1]
  repeat (refine ⟨by omega,?_⟩)
  exact into_keep [(0,.osl ka 0 0 74 n),(1,.osl kb 0 0 74 n),(2,.fn (.func 96) [] []),(6,.bool false),(15,.osl ka 0 0 74 n),(16,.int .i64 (n:Nat)),(17,.int .i64 (i+1:Nat))] (by simp [sameT,slot,lkL]) fun j=>⟨z - 1,by omega,i+1,H2,j,by omega,hE3,rfl⟩
 ·have g1:decide ((i:Int) < (n:Nat)) = false:=decide_eq_false (by omega)
  simp -implicitDefEqProofs (maxSteps:=1000000) (disch:=omega) only [↓zzP,zzA,zzL,reduceIte,reduceCtorEq,Nat.reduceLT,↓reduceIte,Nat.reduceEqDiff,↓gd,↓opP,↓qv,slot,putS,putO,ofV,binH,binS2,binS,g1]
  repeat (refine ⟨by omega,?_⟩)
  exact intoR_refl hE.1 (hK _ hE)
set_option maxHeartbeats 8000000 in
theorem c47S (k f v s:Int) (d d':Nat→By) (b:List By) (bs:List (List By)) (p p':List Msg) (q q':List (Msg × List Msg)) (key:Int) (of of':Nat→By) (hd:∀ i,i < 32→d' i = d i) (ho:∀ i,i < 32→of' i = of i) (hl:bs.length≤1125899906842624∧p.length≤1125899906842624∧q.length≤1125899906842624) (hpp:p'.length = p.length) (hqq:q'.length = q.length) (IP:∀ i (h1:i < p.length) (h2:i < p'.length),SameM p[i] p'[i]) (IQ:∀ i (h1:i < q.length) (h2:i < q'.length),SameM q[i].1 q'[i].1∧q'[i].2.length = q[i].2.length∧q[i].2.length≤1125899906842624∧∀ j (h3:j < q[i].2.length) (h4:j < q'[i].2.length),SameM q[i].2[j] q'[i].2[j]):SameM (.mk k f v s d b bs p q key of) (.mk k f v s d' b bs p' q' key of'):=by
 intro l1 l2 h hm1 hm2 K hK
 rw [MsgH] at hm1 hm2
 obtain ⟨sb,sbs,kp,wp,fp,kq,wq,fq,hl1,h1,h2,h3,h4,h5,h6⟩:=hm1
 obtain ⟨kb,wb,rfl,hkb⟩:=id h1
 obtain ⟨kbs,wbs,fb,rfl,hkbs,hfb⟩:=id h2
 obtain ⟨sb',sbs',kp',wp',fp',kq',wq',fq',hl2,h1',h2',h3',h4',h5',h6'⟩:=hm2
 obtain ⟨kb',wb',rfl,hkb'⟩:=id h1'
 obtain ⟨kbs',wbs',fb',rfl,hkbs',hfb'⟩:=id h2'
 unfold dig32 at hl1 hl2
 subst hl1 hl2
 have fd:famEq 32 (fun i=>SV.int .u8 (nat (d i))) (fun i=>.int .u8 (nat (d' i))) = true:=decide_eq_true fun i hi=>by show valI (SV.int .u8 (nat (d i))) = valI (SV.int .u8 (nat (d' i))); rw [hd i hi]
 have fo:famEq 32 (fun i=>SV.int .u8 (nat (of i))) (fun i=>.int .u8 (nat (of' i))) = true:=decide_eq_true fun i hi=>by show valI (SV.int .u8 (nat (of i))) = valI (SV.int .u8 (nat (of' i))); rw [ho i hi]
 refine callP_of_code tabOk Try.func47 (by kernel_rfl) rfl (Nat.le_of_ble_eq_true rfl) (codeP_of_vc (pl:=pl47) tabOk follows_mixed (by kernel_rfl) ?_)
 rw [Try.ntmps47]
 simp -implicitDefEqProofs (maxSteps:=1000000) (disch:=omega) only [↓zzP,zzA,zzL,zzB,Nat.reduceSub,reduceIte,reduceCtorEq,Nat.reduceLT,↓reduceIte,Nat.reduceEqDiff,Nat.reduceLeDiff,Nat.reduceAdd,Array.reduceGetElem?,↓gd,↓opP,↓qv,↓ef,slot,putS,putO,ofV,fldA,asRow,rdF,Ent.row,ldS,sz,binH,binS2,binS,arrS,isI,tupS,stor,res47,bne_self_eq_false,fd,fo]
 repeat (refine ⟨by omega,?_⟩)
 obtain ⟨H0,hH0⟩:∃ H0,H0 = h++[Chunk.cells true [.int .i64 k,.int .i64 f,.int .i64 v,.int .i64 s,.fam 32 1 fun i=>.int .u8 (nat (d i)),.osl kb 0 0 1 b.length,.osl kbs 0 0 1 bs.length,.osl kp 0 0 73 p.length,.osl kq 0 0 74 q.length,.int .i64 key,.fam 32 1 fun i=>.int .u8 (nat (of i))],Chunk.cells true [.int .i64 k,.int .i64 f,.int .i64 v,.int .i64 s,.fam 32 1 fun i=>.int .u8 (nat (d' i)),.osl kb' 0 0 1 b.length,.osl kbs' 0 0 1 bs.length,.osl kp' 0 0 73 p'.length,.osl kq' 0 0 74 q'.length,.int .i64 key,.fam 32 1 fun i=>.int .u8 (nat (of' i))]]:=⟨_,rfl⟩
 have hE0:Ext (fun _=>False) h H0:=by rw [hH0]; exact (Ext.refl _ _).app _
 have e0:lookH H0 h.length = Chunk.cells true [.int .i64 k,.int .i64 f,.int .i64 v,.int .i64 s,.fam 32 1 fun i=>.int .u8 (nat (d i)),.osl kb 0 0 1 b.length,.osl kbs 0 0 1 bs.length,.osl kp 0 0 73 p.length,.osl kq 0 0 74 q.length,.int .i64 key,.fam 32 1 fun i=>.int .u8 (nat (of i))]:=by rw [hH0]; exact lookH_app0 _ _
 have e1:lookH H0 (h.length+1) = Chunk.cells true [.int .i64 k,.int .i64 f,.int .i64 v,.int .i64 s,.fam 32 1 fun i=>.int .u8 (nat (d' i)),.osl kb' 0 0 1 b.length,.osl kbs' 0 0 1 bs.length,.osl kp' 0 0 73 p'.length,.osl kq' 0 0 74 q'.length,.int .i64 key,.fam 32 1 fun i=>.int .u8 (nat (of' i))]:=by rw [hH0]; exact lookH_app _ 1 _
 rw [← hH0]
 clear hH0
 refine c92 b _ _ H0 (h1.ext hE0) (h1'.ext hE0) _ ?_
 simp -implicitDefEqProofs (maxSteps:=1000000) (disch:=omega) only [↓zzP,zzA,zzL,zzB,Nat.reduceSub,reduceIte,reduceCtorEq,Nat.reduceLT,↓reduceIte,Nat.reduceEqDiff,Nat.reduceLeDiff,Array.reduceGetElem?,↓gd,↓opP,↓qv,slot,putS,putO,fldA,rdF,Ent.row,ldS,sz,e0,e1]
 repeat (refine ⟨by omega,?_⟩)
 refine c93 bs _ _ H0 (h2.ext hE0) (h2'.ext hE0) hl.1 _ ?_
 simp -implicitDefEqProofs (maxSteps:=1000000) (disch:=omega) only [↓zzP,zzA,zzL,zzB,Nat.reduceSub,reduceIte,reduceCtorEq,Nat.reduceLT,↓reduceIte,Nat.reduceEqDiff,Nat.reduceLeDiff,Array.reduceGetElem?,↓gd,↓opP,↓qv,slot,putS,putO,ofV,fldA,rdF,Ent.row,ldS,sz,e0,e1]
 repeat (refine ⟨by omega,?_⟩)
 refine c94 p p' hpp hl.2.1 IP kp kp' wp wp' fp fp' H0 (hE0.look h3 (by simp) fun h=>h) (hE0.look h3' (by simp) fun h=>h) (MsgsH.ext hE0 h4) (MsgsH.ext hE0 h4') _ fun H1 hE1=>?_
 have f0:=hE1.look e0 (by simp) fun h=>h
 have f1:=hE1.look e1 (by simp) fun h=>h
 have hE2:=hE0.trans hE1
 clear e0 e1 hE0 hE1
 simp -implicitDefEqProofs (maxSteps:=1000000) (disch:=omega) only [↓zzP,zzA,zzL,zzB,Nat.reduceSub,reduceIte,reduceCtorEq,Nat.reduceLT,↓reduceIte,Nat.reduceEqDiff,Nat.reduceLeDiff,Array.reduceGetElem?,↓gd,↓opP,↓qv,slot,putS,putO,ofV,fldA,rdF,Ent.row,ldS,sz,f0,f1]
 repeat (refine ⟨by omega,?_⟩)
 refine c95 q q' hqq hl.2.2 IQ kq kq' wq wq' fq fq' H1 (hE2.look h5 (by simp) fun h=>h) (hE2.look h5' (by simp) fun h=>h) (PrepsH.ext hE2 h6) (PrepsH.ext hE2 h6') _ fun H3 hE3=>?_
 have hE4:=hE2.trans hE3
 simp -implicitDefEqProofs (maxSteps:=1000000) (disch:=omega) only [↓zzP,zzA,zzL,reduceIte,Nat.reduceLT,↓reduceIte,Nat.reduceEqDiff,↓gd,↓opP,↓qv,slot,putS,putO,ofV]
 repeat (refine ⟨by omega,?_⟩)
 exact intoR_refl hE4.1 (hK _ hE4)
mutual
theorem sameMM:∀ m m':Msg,eqM m m'→may m = 0→SameM m m'
 | .mk k f v s d b bs p q key of,.mk k' f' v' s' d' b' bs' p' q' key' of',h,hm=>by
  rw [eqM] at h
  obtain ⟨rfl,rfl,rfl,rfl,hd,rfl,rfl,hp,hq,rfl,ho⟩:=h
  obtain ⟨_,_,i3,_,_,i6,_,i8,i9,_,i11⟩:=may_in hm
  have e1:=sameML p p' hp fun m hm=>(i8 m hm).2
  have e2:=sameMQ q q' hq fun x hx=>⟨(i11 x hx).1.2,fun m hm=>((i11 x hx).2.2 m hm).2⟩
  refine c47S k f v s d d' b bs p p' q q' key of of' hd ho ⟨by omega,by omega,by omega⟩ e1.1 e2.1 e1.2 fun i h1 h2=>?_
  obtain ⟨j1,j2,j3⟩:=e2.2 i h1 h2
  exact ⟨j1,j2,by have:=(i11 _ (List.getElem_mem h1)).2.1; omega,j3⟩
theorem sameML:∀ l l':List Msg,eqMs l l'→(∀ m ∈ l,may m = 0)→l'.length = l.length∧∀ i (h1:i < l.length) (h2:i < l'.length),SameM l[i] l'[i]
 | [],[],_,_=>⟨rfl,fun i h1=>absurd h1 (Nat.not_lt_zero _)⟩
 | m :: l,m' :: l',h,hm=>by
  rw [eqMs] at h
  have a1:=sameMM m m' h.1 (hm m (by simp))
  have a2:=sameML l l' h.2 fun x hx=>hm x (by simp [hx])
  refine ⟨by rw [List.length_cons,List.length_cons,a2.1],fun i h1 h2=>?_⟩
  cases i with
  | zero=>exact a1
  | succ i=>exact a2.2 i (Nat.lt_of_succ_lt_succ h1) (Nat.lt_of_succ_lt_succ h2)
 | [],_ :: _,h,_=>by rw [eqMs] at h; exact h.elim
 | _ :: _,[],h,_=>by rw [eqMs] at h; exact h.elim
theorem sameMQ:∀ l l':List (Msg × List Msg),eqPs l l'→(∀ x ∈ l,may x.1 = 0∧∀ m ∈ x.2,may m = 0)→l'.length = l.length∧∀ i (h1:i < l.length) (h2:i < l'.length),SameM l[i].1 l'[i].1∧l'[i].2.length = l[i].2.length∧∀ j (h3:j < l[i].2.length) (h4:j < l'[i].2.length),SameM l[i].2[j] l'[i].2[j]
 | [],[],_,_=>⟨rfl,fun i h1=>absurd h1 (Nat.not_lt_zero _)⟩
 | (m,x) :: l,(m',x') :: l',h,hm=>by
  rw [eqPs] at h
  have h0:=hm (m,x) (by simp)
  have a1:=sameMM m m' h.1.1 h0.1
  have a2:=sameML x x' h.1.2 h0.2
  have a3:=sameMQ l l' h.2 fun y hy=>hm y (by simp [hy])
  refine ⟨by rw [List.length_cons,List.length_cons,a3.1],fun i h1 h2=>?_⟩
  cases i with
  | zero=>exact ⟨a1,a2.1,a2.2⟩
  | succ i=>exact a3.2 i (Nat.lt_of_succ_lt_succ h1) (Nat.lt_of_succ_lt_succ h2)
 | [],_ :: _,h,_=>by rw [eqPs] at h; exact h.elim
 | _ :: _,[],h,_=>by rw [eqPs] at h; exact h.elim
end
end Go.Proofs.Ytgocfglmideobaa
set_option linter.all false
set_option maxRecDepth 40000
namespace Go.Proofs.Ytgocfglmideobaa
open Go Go.Sx
theorem res10:Try.f10.results.toList = [.tmp 8]:=rfl
def pl10:Nat→Plan:=fun _=>.nil
set_option maxHeartbeats 8000000 in
theorem c10 (m:Msg) (ho:wfM m) (hsz:blkM m≤1048576) (l:List SV) (cut:Int) (hcut:rng cut) (mo raw:List By) (hml:mo.length≤1048576) (hrl:raw.length≤1048576) (smo sraw:SV) (h:List Chunk) (hm:MsgH h m l) (hmo:RelBs h mo smo) (hraw:RelBs h raw sraw) (K:Tok→SV→List Chunk→Prop) (hK:∀ H,K .mk (.bool true) H):callP Try.prog 10 [.agg l,.int .i64 cut,smo,sraw] h K:=by
 obtain ⟨xk,xf,xv,xs,xd,xkb,xnb,xkbs,xnbs,xkp,xnp,xkq,xnq,xkey,xof,rfl⟩:=hm.open
 obtain ⟨kq,wq,rfl,hq⟩:=hmo
 obtain ⟨kr,wr,rfl,hr⟩:=hraw
 have hE0:Ext (fun _=>False) h (h++[Chunk.cells true [.int .i64 xk,.int .i64 xf,.int .i64 xv,.int .i64 xs,.fam 32 1 fun i=>.int .u8 (nat (xd i)),.osl xkb 0 0 1 xnb,.osl xkbs 0 0 1 xnbs,.osl xkp 0 0 73 xnp,.osl xkq 0 0 74 xnq,.int .i64 xkey,.fam 32 1 fun i=>.int .u8 (nat (xof i))]]):=(Ext.refl _ _).app _
 obtain ⟨H0,hH0⟩:∃ H0,H0 = h++[Chunk.cells true [.int .i64 xk,.int .i64 xf,.int .i64 xv,.int .i64 xs,.fam 32 1 fun i=>.int .u8 (nat (xd i)),.osl xkb 0 0 1 xnb,.osl xkbs 0 0 1 xnbs,.osl xkp 0 0 73 xnp,.osl xkq 0 0 74 xnq,.int .i64 xkey,.fam 32 1 fun i=>.int .u8 (nat (xof i))]]:=⟨_,rfl⟩
 refine callP_of_code tabOk Try.func10 (by kernel_rfl) rfl (Nat.le_of_ble_eq_true rfl) ?_
 rw [Try.ntmps10]
 refine codeP_seq (pl:=pl10) tabOk follows_mixed (by kernel_rfl) _ ?_ (fun s h=>h)
 simp -implicitDefEqProofs (maxSteps:=1000000) (disch:=omega) only [↓zzP,zzA,zzL,zzB,reduceIte,Nat.reduceLT,↓reduceIte,Nat.reduceAdd,↓gd,↓opP,↓qv,↓ef,slot,putS,putO,ofV,tupS,stor,res10]
 repeat (refine ⟨by omega,?_⟩)
 refine into_refl ?_
 rw [← hH0] at hE0 ⊢
 have e0:lookH H0 h.length = Chunk.cells true [.int .i64 xk,.int .i64 xf,.int .i64 xv,.int .i64 xs,.fam 32 1 fun i=>.int .u8 (nat (xd i)),.osl xkb 0 0 1 xnb,.osl xkbs 0 0 1 xnbs,.osl xkp 0 0 73 xnp,.osl xkq 0 0 74 xnq,.int .i64 xkey,.fam 32 1 fun i=>.int .u8 (nat (xof i))]:=by rw [hH0]; exact lookH_end _ _
 clear hH0
 have q0:=hE0.look hq (by simp) fun h=>h
 have r0:=hE0.look hr (by simp) fun h=>h
 refine codeP_seq (pl:=pl10) tabOk follows_mixed (by kernel_rfl) (fun st=>raw.length≤5000∧∃ j:Nat→Value,st = ⟨⟨123,[(1,.int .i64 cut),(2,.osl kq 0 0 1 mo.length),(3,.osl kr 0 0 1 raw.length),(4,.ptr h.length 0),(8,.bool false)],j⟩,H0,[]⟩) ?_ ?_
 ·simp -implicitDefEqProofs (maxSteps:=1000000) (disch:=omega) only [↓zzP,zzA,zzL,Nat.reduceSub,reduceIte,reduceCtorEq,Nat.reduceLT,↓reduceIte,Nat.reduceEqDiff,Nat.reduceLeDiff,↓gd,↓opP,↓qv,slot,putS,putO,rdF,Ent.row,ldS,sz,e0]
  repeat (refine ⟨by omega,?_⟩)
  refine c11 m hsz _ _ (hm.ext hE0) _ ?_
  cases hl:(cntM 1 m 0).isSome with
  | false =>
   simp -implicitDefEqProofs (maxSteps:=1000000) (disch:=omega) only [↓zzP,zzA,reduceIte,Nat.reduceLT,↓reduceIte,Nat.reduceEqDiff,Array.reduceGetElem?,↓gd,↓opP,↓qv,slot,putS,putO,ofV,unS]
   repeat (refine ⟨by omega,?_⟩)
   refine c12 _ _ ?_
   intro Hz hEz
   simp -implicitDefEqProofs (maxSteps:=1000000) (disch:=omega) only [↓zzP,zzA,reduceIte,reduceCtorEq,Nat.reduceLT,↓reduceIte,↓gd,↓opP,↓qv,slot,putS,putO]
   repeat (refine ⟨by omega,?_⟩)
   exact intoR_refl (hE0.trans hEz).1 (hK _)
  | true =>
   by_cases c:raw.length > 5000
   ·have z1:decide ((raw.length:Int) > 5000) = true:=decide_eq_true (by omega)
    simp -implicitDefEqProofs (maxSteps:=1000000) (disch:=omega) only [↓zzP,zzA,zzL,reduceIte,reduceCtorEq,Nat.reduceLT,↓reduceIte,Nat.reduceEqDiff,Array.reduceGetElem?,↓gd,↓opP,↓qv,slot,putS,putO,ofV,unS,lenS,binH,binS2,binS,z1]
    repeat (refine ⟨by omega,?_⟩)
    refine c12 _ _ ?_
    intro Hz hEz
    simp -implicitDefEqProofs (maxSteps:=1000000) (disch:=omega) only [↓zzP,zzA,reduceIte,reduceCtorEq,Nat.reduceLT,↓reduceIte,↓gd,↓opP,↓qv,slot,putS,putO]
    repeat (refine ⟨by omega,?_⟩)
    exact intoR_refl (hE0.trans hEz).1 (hK _)
   ·have z1:decide ((raw.length:Int) > 5000) = false:=decide_eq_false (by omega)
    simp -implicitDefEqProofs (maxSteps:=1000000) (disch:=omega) only [↓zzP,zzA,zzL,reduceIte,reduceCtorEq,Nat.reduceLT,↓reduceIte,Nat.reduceEqDiff,Array.reduceGetElem?,↓gd,↓opP,↓qv,slot,putS,putO,ofV,unS,lenS,binH,binS2,binS,z1]
    repeat (refine ⟨by omega,?_⟩)
    exact into_keep [(1,.int .i64 cut),(2,.osl kq 0 0 1 mo.length),(3,.osl kr 0 0 1 raw.length),(4,.ptr h.length 0),(8,.bool false)] (by simp [sameT,slot,lkL]) fun j=>⟨by omega,j,rfl⟩
 rintro _ ⟨hr5,j,rfl⟩
 refine codeP_seq (pl:=pl10) tabOk follows_mixed (by kernel_rfl) (fun st=>∃ (H:List Chunk) (j:Nat→Value),Ext (fun _=>False) H0 H∧st = ⟨⟨123,[(1,.int .i64 cut),(2,.osl kq 0 0 1 mo.length),(4,.ptr h.length 0),(8,.bool false)],j⟩,H,[]⟩) ?_ ?_
 ·simp -implicitDefEqProofs (maxSteps:=1000000) (disch:=omega) only [↓zzP,zzA,zzL,reduceIte,Nat.reduceLT,↓reduceIte,Nat.reduceEqDiff,↓gd,↓opP,↓qv,slot,putS,putO]
  repeat (refine ⟨by omega,?_⟩)
  refine c38 raw H0 kr 0 0 wr _ _ r0 (by omega) (fun i hi=>by rw [Nat.zero_add]) _ (fun er he H hE=>?_) (fun mx he H sv hE hrel=>?_)
  ·have z1:(er == 0) = false:=beq_eq_false_iff_ne.2 (decS_ne he)
   simp -implicitDefEqProofs (maxSteps:=1000000) (disch:=omega) only [↓zzP,zzA,zzL,zzB,Nat.reduceSub,reduceIte,reduceCtorEq,Nat.reduceLT,↓reduceIte,Nat.reduceEqDiff,Nat.reduceLeDiff,Nat.reduceAdd,↓gd,↓opP,↓qv,↓ef,↓stS,slot,putS,putO,ofV,sz,wrF,binH,binS2,binS,stor,Value.oneCell',z1]
   repeat (refine ⟨by omega,?_⟩)
   exact into_keep [(1,.int .i64 cut),(2,.osl kq 0 0 1 mo.length),(4,.ptr h.length 0),(8,.bool false)] (by simp [sameT,slot,lkL]) fun j=>⟨_,j,hE.app _,rfl⟩
  ·obtain ⟨lx,rfl,hmx,hwx⟩:=id hrel
   obtain ⟨yk,yf,yv,ys,yd,ykb,ynb,ykbs,ynbs,ykp,ynp,ykq,ynq,ykey,yof,rfl⟩:=hmx.open
   obtain ⟨a1,a2,a3,a4⟩:=decS_back he
   have z0:((0:Int) == 0) = true:=rfl
   have z1:((0:Int) != 0) = false:=rfl
   simp -implicitDefEqProofs (maxSteps:=1000000) (disch:=omega) only [↓zzP,zzA,zzL,zzB,Nat.reduceSub,reduceIte,reduceCtorEq,Nat.reduceLT,↓reduceIte,Nat.reduceEqDiff,Nat.reduceLeDiff,Nat.reduceAdd,↓gd,↓opP,↓qv,↓ef,↓stS,slot,putS,putO,ofV,rdF,Ent.row,ldS,sz,wrF,binH,binS2,binS,stor,z0]
   repeat (refine ⟨by omega,?_⟩)
   refine c13 mx hwx _ _ (hmx.extR (extR_app _ _)) _ (fun e=>absurd a2 e) (fun _ c=>absurd c (by rw [a1]; omega)) (fun _ _ H1 k1 hE1 hk1 hr1=>?_)
   rw [a1] at hr1 ⊢
   have r1:=((hE.app _).trans hE1).look r0 (by simp) fun h=>h
   simp -implicitDefEqProofs (maxSteps:=1000000) (disch:=omega) only [↓zzP,zzA,zzL,reduceIte,Nat.reduceLT,↓reduceIte,Nat.reduceEqDiff,Nat.reduceAdd,Array.reduceGetElem?,↓gd,↓opP,↓qv,slot,putS,putO,ofV,convS,valI,binH,binS2,binS,z1,hr1,r1,beq_self_eq_true]
   repeat (refine ⟨by omega,?_⟩)
   exact into_keep [(1,.int .i64 cut),(2,.osl kq 0 0 1 mo.length),(4,.ptr h.length 0),(8,.bool false)] (by simp [sameT,slot,lkL]) fun j=>⟨H1,j,(hE.app _).trans hE1,rfl⟩
 rintro _ ⟨H,j,hE,rfl⟩
 have e1:=hE.look e0 (by simp) fun h=>h
 have hEh:=hE0.trans hE
 refine codeP_seq (pl:=pl10) tabOk follows_mixed (by kernel_rfl) _ ?_ (fun s h=>h)
 simp -implicitDefEqProofs (maxSteps:=1000000) (disch:=omega) only [↓zzP,zzA,Nat.reduceSub,reduceIte,reduceCtorEq,Nat.reduceLT,↓reduceIte,Nat.reduceEqDiff,Nat.reduceLeDiff,↓gd,↓opP,↓qv,slot,putS,putO,rdF,Ent.row,ldS,sz,e1]
 repeat (refine ⟨by omega,?_⟩)
 refine c13 m ho _ _ (hm.ext hEh) _ (fun e=>?_) (fun e c=>?_) (fun e c H1 k1 hE1 hk1 hr1=>?_)
 ·have z1:(may m != 0) = true:=bne_iff_ne.2 e
  simp -implicitDefEqProofs (maxSteps:=1000000) (disch:=omega) only [↓zzP,zzA,reduceIte,Nat.reduceLT,↓reduceIte,Nat.reduceEqDiff,Nat.reduceAdd,↓gd,↓opP,↓qv,slot,putS,putO]
  repeat (refine ⟨by omega,?_⟩)
  refine into_refl ?_
  refine codeP_of_vc (pl:=pl10) tabOk follows_mixed (by kernel_rfl) ?_
  by_cases c2:may m = 2
  ·have z2:(may m == 2) = true:=beq_iff_eq.2 c2
   simp -implicitDefEqProofs (maxSteps:=1000000) (disch:=omega) only [↓zzP,zzA,reduceIte,Nat.reduceLT,↓reduceIte,Nat.reduceEqDiff,Array.reduceGetElem?,↓gd,↓opP,↓qv,slot,putS,putO,ofV,binH,binS2,binS,z1,z2]
   repeat (refine ⟨by omega,?_⟩)
   refine c12 _ _ ?_
   intro Hz hEz
   simp -implicitDefEqProofs (maxSteps:=1000000) (disch:=omega) only [↓zzP,zzA,zzL,reduceIte,Nat.reduceLT,↓reduceIte,Nat.reduceEqDiff,↓gd,↓opP,↓qv,slot,putS,putO,ofV]
   repeat (refine ⟨by omega,?_⟩)
   exact intoR_refl (hEh.trans hEz).1 (hK _)
  ·have z2:(may m == 2) = false:=beq_eq_false_iff_ne.2 c2
   simp -implicitDefEqProofs (maxSteps:=1000000) (disch:=omega) only [↓zzP,zzA,Nat.reduceSub,reduceIte,reduceCtorEq,Nat.reduceLT,↓reduceIte,Nat.reduceEqDiff,Nat.reduceLeDiff,Array.reduceGetElem?,↓gd,↓opP,↓qv,slot,putS,putO,ofV,rdF,Ent.row,ldS,sz,binH,binS2,binS,z1,z2,e1]
   repeat (refine ⟨by omega,?_⟩)
   refine c15 m _ _ (hm.ext hEh) _ ?_
   simp -implicitDefEqProofs (maxSteps:=1000000) (disch:=omega) only [↓zzP,zzA,zzL,reduceIte,Nat.reduceLT,↓reduceIte,Nat.reduceEqDiff,Array.reduceGetElem?,↓gd,↓opP,↓qv,slot,putS,putO,ofV,binH,binS2,binS,beq_self_eq_true]
   repeat (refine ⟨by omega,?_⟩)
   refine c12 _ _ ?_
   intro Hz hEz
   simp -implicitDefEqProofs (maxSteps:=1000000) (disch:=omega) only [↓zzP,zzA,zzL,reduceIte,Nat.reduceLT,↓reduceIte,Nat.reduceEqDiff,↓gd,↓opP,↓qv,slot,putS,putO,ofV]
   repeat (refine ⟨by omega,?_⟩)
   exact intoR_refl (hEh.trans hEz).1 (hK _)
 ·have z1:((2:Int) != 0) = true:=rfl
  have z2:((2:Int) == 2) = true:=rfl
  simp -implicitDefEqProofs (maxSteps:=1000000) (disch:=omega) only [↓zzP,zzA,reduceIte,Nat.reduceLT,↓reduceIte,Nat.reduceEqDiff,Nat.reduceAdd,↓gd,↓opP,↓qv,slot,putS,putO]
  repeat (refine ⟨by omega,?_⟩)
  refine into_refl ?_
  refine codeP_of_vc (pl:=pl10) tabOk follows_mixed (by kernel_rfl) ?_
  simp -implicitDefEqProofs (maxSteps:=1000000) (disch:=omega) only [↓zzP,zzA,reduceIte,Nat.reduceLT,↓reduceIte,Nat.reduceEqDiff,Array.reduceGetElem?,↓gd,↓opP,↓qv,slot,putS,putO,ofV,binH,binS2,binS,z1,z2]
  repeat (refine ⟨by omega,?_⟩)
  refine c12 _ _ ?_
  intro Hz hEz
  simp -implicitDefEqProofs (maxSteps:=1000000) (disch:=omega) only [↓zzP,zzA,zzL,reduceIte,Nat.reduceLT,↓reduceIte,Nat.reduceEqDiff,↓gd,↓opP,↓qv,slot,putS,putO,ofV]
  repeat (refine ⟨by omega,?_⟩)
  exact intoR_refl (hEh.trans hEz).1 (hK _)
 obtain ⟨L,hL⟩:∃ L,L = (enc m).length:=⟨_,rfl⟩
 have hL0:=enc_ge m
 have q1:=hE1.look (hE.look q0 (by simp) fun h=>h) (by simp) fun h=>h
 have e2:=hE1.look e1 (by simp) fun h=>h
 have hEg:=hEh.trans hE1
 obtain ⟨m',hdec,hm'⟩:=decS_rt e ho c
 obtain ⟨B,hB⟩:∃ B,B = enc m:=⟨_,rfl⟩
 rw [← hB] at hL hL0 c hr1 hdec ⊢
 have hkq:=lookH_lt hq (by simp)
 have hle:=hEg.1
 clear hE0 hE hE1 hEh q0 r0 hr5 e0 e1
 simp -implicitDefEqProofs (maxSteps:=1000000) (disch:=omega) only [↓zzP,zzA,reduceIte,Nat.reduceLT,↓reduceIte,Nat.reduceEqDiff,Nat.reduceAdd,↓gd,↓opP,↓qv,slot,putS,putO]
 repeat (refine ⟨by omega,?_⟩)
 refine into_refl ?_
 have z0:((0:Int) != 0) = false:=rfl
 refine codeP_seq (pl:=pl10) tabOk follows_mixed (by kernel_rfl) _ ?_ (fun s h=>h)
 simp -implicitDefEqProofs (maxSteps:=1000000) (disch:=omega) only [↓zzP,zzA,reduceIte,Nat.reduceLT,↓reduceIte,↓gd,↓opP,↓qv,slot,putS,putO,ofV,binH,binS2,binS,z0]
 repeat (refine ⟨by omega,?_⟩)
 refine into_refl ?_
 refine codeP_seq (pl:=pl10) tabOk follows_mixed (by kernel_rfl) _ ?_ (fun s h=>h)
 simp -implicitDefEqProofs (maxSteps:=1000000) (disch:=omega) only [↓zzP,zzA,reduceIte,Nat.reduceLT,↓reduceIte,Nat.reduceEqDiff,↓gd,↓opP,↓qv,slot,putS,putO]
 repeat (refine ⟨by omega,?_⟩)
 refine c38 B H1 k1 0 0 true _ _ hr1 (by omega) (fun i hi=>by rw [Nat.zero_add]) _ (fun er he=>by rw [hdec] at he; cases he) (fun my he H2 sv hE2 hrel=>?_)
 have hmy:my = m':=by rw [hdec] at he; cases he; rfl
 subst hmy
 obtain ⟨lx,rfl,hmx,hwx⟩:=id hrel
 obtain ⟨yk,yf,yv,ys,yd,ykb,ynb,ykbs,ynbs,ykp,ynp,ykq,ynq,ykey,yof,rfl⟩:=hmx.open
 simp -implicitDefEqProofs (maxSteps:=1000000) (disch:=omega) only [↓zzP,zzA,zzL,zzB,Nat.reduceSub,reduceIte,reduceCtorEq,Nat.reduceLT,↓reduceIte,Nat.reduceEqDiff,Nat.reduceLeDiff,Nat.reduceAdd,↓gd,↓opP,↓qv,↓ef,↓stS,slot,putS,putO,sz,wrF,stor]
 repeat (refine ⟨by omega,?_⟩)
 refine into_refl ?_
 refine codeP_seq (pl:=pl10) tabOk follows_mixed (by kernel_rfl) (fun st=>∃ (H:List Chunk) (j:Nat→Value),Ext (fun _=>False) H1 H∧st = ⟨⟨123,[(1,.int .i64 cut),(2,.osl kq 0 0 1 mo.length),(4,.ptr h.length 0),(8,.bool false),(13,.osl k1 0 0 1 B.length)],j⟩,H,[]⟩) ?_ ?_
 ·have e3:=hE2.look e2 (by simp) fun h=>h
  have l0:=lookH_lt e3 (by simp)
  have g1:decide ((B.length:Int) < 40) = false:=decide_eq_false (by omega)
  have hE3:Ext (fun _=>False) H1 (H2++[.cells true [.int .i64 yk,.int .i64 yf,.int .i64 yv,.int .i64 ys,.fam 32 1 fun i=>.int .u8 (nat (yd i)),.osl ykb 0 0 1 ynb,.osl ykbs 0 0 1 ynbs,.osl ykp 0 0 73 ynp,.osl ykq 0 0 74 ynq,.int .i64 ykey,.fam 32 1 fun i=>.int .u8 (nat (yof i))]]):=hE2.app _
  simp -implicitDefEqProofs (maxSteps:=1000000) (disch:=omega) only [↓zzP,zzA,zzL,zzB,Nat.reduceSub,reduceIte,reduceCtorEq,Nat.reduceLT,↓reduceIte,Nat.reduceEqDiff,Nat.reduceLeDiff,Array.reduceGetElem?,↓gd,↓opP,↓qv,slot,putS,putO,ofV,rdF,Ent.row,ldS,sz,binH,binS2,binS,z0,e3,lookH_at]
  repeat (refine ⟨by omega,?_⟩)
  refine sameMM m my hm' e _ _ _ (hm.ext (hEg.trans hE3)) (hmx.extR (extR_app _ _)) _ fun H3 hE4=>?_
  simp -implicitDefEqProofs (maxSteps:=1000000) (disch:=omega) only [↓zzP,zzA,zzL,reduceIte,Nat.reduceLT,↓reduceIte,Nat.reduceEqDiff,Array.reduceGetElem?,↓gd,↓opP,↓qv,slot,putS,putO,ofV,unS,lenS,binH,binS2,binS,g1]
  repeat (refine ⟨by omega,?_⟩)
  exact into_keep [(1,.int .i64 cut),(2,.osl kq 0 0 1 mo.length),(4,.ptr h.length 0),(8,.bool false),(13,.osl k1 0 0 1 B.length)] (by simp [sameT,slot,lkL]) fun j=>⟨H3,j,hE3.trans hE4,rfl⟩
 clear hrel hmx hE2 hwx
 rintro _ ⟨H,j,hE,rfl⟩
 obtain ⟨U,hU⟩:∃ U,U = BitVec.ofInt 64 cut:=⟨_,rfl⟩
 have r0:IntKind.u64.wrap cut = nat U:=by rw [hU]; exact wrap_ofInt cut
 have r1:IntKind.u64.wrap (B.length:Int) = (B.length:Int):=Go.Sx.wrap_small rfl (by omega) (by rw [show IntKind.u64.bits = 64 from rfl]; omega)
 obtain ⟨ix,hix⟩:∃ ix,ix = U.toNat % B.length:=⟨_,rfl⟩
 have hxl:ix < B.length:=by rw [hix]; exact Nat.mod_lt _ (by omega)
 have r2:IntKind.i64.wrap ((nat U).tmod (B.length:Int)) = ((ix:Nat):Int):=by
  have e:(nat U).tmod (B.length:Int) = ((ix:Nat):Int):=by rw [hix]; exact (Int.ofNat_tmod _ _).symm
  rw [e,wrap64 (by omega) (by omega)]
 refine codeP_seq (pl:=pl10) tabOk follows_mixed (by kernel_rfl) _ ?_ (fun s h=>h)
 simp -implicitDefEqProofs (maxSteps:=1000000) (disch:=omega) only [↓zzP,zzA,zzL,reduceIte,Nat.reduceLT,↓reduceIte,Nat.reduceEqDiff,↓gd,↓opP,↓qv,slot,putS,putO,convS,lenS,binH,binS2,binS,r0,r1,r2]
 repeat (refine ⟨by omega,?_⟩)
 refine into_refl ?_
 have hrB:=hE.look hr1 (by simp) fun h=>h
 have hqB:=hE.look q1 (by simp) fun h=>h
 obtain ⟨ec,hc1,hc2⟩:=decS_cut hdec hxl
 obtain ⟨D,hD⟩:∃ D,D = B.take ix:=⟨_,rfl⟩
 have hDl:ix = D.length:=by rw [hD,List.length_take]; omega
 rw [← hD] at hc1
 refine codeP_seq (pl:=pl10) tabOk follows_mixed (by kernel_rfl) _ ?_ (fun s h=>h)
 simp -implicitDefEqProofs (maxSteps:=1000000) (disch:=omega) only [↓zzP,zzA,reduceIte,Nat.reduceLT,↓reduceIte,Nat.reduceEqDiff,↓gd,↓opP,↓qv,slot,putS,putO,bnd,slS,hrB]
 repeat (refine ⟨by omega,?_⟩)
 rw [hDl]
 refine c38 D H k1 0 0 true _ _ hrB (by omega) (fun i hi=>by
  rw [Nat.zero_add,hD]
  simp [List.getD,List.getElem?_take,show i < ix by omega]) _ (fun er he H4 hE4=>?_) (fun my he=>by rw [hc1] at he; cases he)
 have her:er = ec:=by rw [hc1] at he; cases he; rfl
 subst her
 simp -implicitDefEqProofs (maxSteps:=1000000) (disch:=omega) only [↓zzP,zzA,zzL,zzB,Nat.reduceSub,reduceIte,reduceCtorEq,Nat.reduceLT,↓reduceIte,Nat.reduceEqDiff,Nat.reduceLeDiff,Nat.reduceAdd,↓gd,↓opP,↓qv,↓ef,↓stS,slot,putS,putO,sz,wrF,stor,Value.oneCell']
 repeat (refine ⟨by omega,?_⟩)
 refine into_refl ?_
 have hrC:=(hE4.app [Chunk.cells true [.int .i64 0,.int .i64 0,.int .i64 0,.int .i64 0,.fam 32 1 fun _=>.int .u8 0,.v (.slice none 0 0),.v (.slice none 0 0),.v (.slice none 0 0),.v (.slice none 0 0),.int .i64 0,.fam 32 1 fun _=>.int .u8 0]]).look hrB (by simp) fun h=>h
 have hqC:=(hE4.app [Chunk.cells true [.int .i64 0,.int .i64 0,.int .i64 0,.int .i64 0,.fam 32 1 fun _=>.int .u8 0,.v (.slice none 0 0),.v (.slice none 0 0),.v (.slice none 0 0),.v (.slice none 0 0),.int .i64 0,.fam 32 1 fun _=>.int .u8 0]]).look hqB (by simp) fun h=>h
 have hE5:=hE.trans (hE4.app [Chunk.cells true [.int .i64 0,.int .i64 0,.int .i64 0,.int .i64 0,.fam 32 1 fun _=>.int .u8 0,.v (.slice none 0 0),.v (.slice none 0 0),.v (.slice none 0 0),.v (.slice none 0 0),.int .i64 0,.fam 32 1 fun _=>.int .u8 0]])
 obtain ⟨H5,hH5⟩:∃ H5,H5 = H4++[Chunk.cells true [.int .i64 0,.int .i64 0,.int .i64 0,.int .i64 0,.fam 32 1 fun _=>.int .u8 0,.v (.slice none 0 0),.v (.slice none 0 0),.v (.slice none 0 0),.v (.slice none 0 0),.int .i64 0,.fam 32 1 fun _=>.int .u8 0]]:=⟨_,rfl⟩
 rw [← hH5] at hrC hqC hE5 ⊢
 clear hH5 hE4
 have hb:∀ c,lookH (H5++[c]) k1 = .row true B.length 1 (fun i=>.int .u8 (nat (B.getD i 0))):=fun c=>lookH_old _ _ _ hrC (by simp)
 have hq2:∀ a b,lookH (H5++[a,b]) kq = .row wq mo.length 1 (fun i=>.int .u8 (nat (mo.getD i 0))):=fun a b=>by rw [lookH_at _ (lookH_lt hqC (by simp))]; exact hqC
 refine codeP_seq (pl:=pl10) tabOk follows_mixed (by kernel_rfl) _ ?_ (fun s h=>h)
 simp -implicitDefEqProofs (maxSteps:=1000000) (disch:=omega) only [↓zzP,zzA,zzB,reduceIte,Nat.reduceLT,↓reduceIte,Nat.reduceEqDiff,Nat.reduceAdd,↓gd,↓opP,↓qv,↓ef,↓bslS,↓appS,slot,putS,putO,srcS,notInt,hb,hq2]
 repeat (refine ⟨by omega,?_⟩)
 refine ⟨fun _ h=>h.elim,?_⟩
 repeat (refine ⟨by omega,?_⟩)
 obtain ⟨Q,hQ⟩:∃ Q,Q = B++mo:=⟨_,rfl⟩
 have hQl:B.length+mo.length = Q.length:=by rw [hQ,List.length_append]
 rw [hQl]
 obtain ⟨FQ,hFQ⟩:∃ FQ:Nat→SV,FQ = fun i=>if i < B.length then if i < 0 then SV.tup [] else .int .u8 (nat (B.getD i 0)) else .int .u8 (nat (mo.getD (i - B.length) 0)):=⟨_,rfl⟩
 rw [← hFQ]
 have hFQ2:∀ i,i < Q.length→FQ (0+i) = .int .u8 (nat (Q.getD i 0)):=fun i hi=>by
  rw [Nat.zero_add,hFQ,hQ,← app_byte]
  simp only [Nat.not_lt_zero,if_false]
 clear hFQ
 obtain ⟨H6,hH6⟩:∃ H6,H6 = H5++[.none,.none,.row true Q.length 1 FQ]:=⟨_,rfl⟩
 have hr6:lookH H6 (H5.length+2) = .row true Q.length 1 FQ:=by rw [hH6]; exact lookH_app _ 2 _
 have hE6:Ext (fun _=>False) h H6:=by rw [hH6]; exact (hEg.trans hE5).app _
 rw [← hH6]
 have g0:(er != 0) = true:=bne_iff_ne.2 hc2
 by_cases hm0:mo = []
 ·have hQB:Q = B:=by rw [hQ,hm0,List.append_nil]
  have z1:(((mo.length:Nat):Int) == 0) = true:=by rw [hm0]; rfl
  have z2:((0:Int) == 0) = true:=rfl
  refine c38 Q H6 (H5.length+2) 0 0 true _ _ hr6 (by omega) hFQ2 _ (fun e2 he=>by rw [hQB,hdec] at he; cases he) (fun mz he H7 sv hE7 hrel=>?_)
  obtain ⟨lx,rfl,hmx,hwx⟩:=id hrel
  obtain ⟨yk,yf,yv,ys,yd,ykb,ynb,ykbs,ynbs,ykp,ynp,ykq,ynq,ykey,yof,rfl⟩:=hmx.open
  simp -implicitDefEqProofs (maxSteps:=1000000) (disch:=omega) only [↓zzP,zzA,zzL,zzB,Nat.reduceSub,reduceIte,reduceCtorEq,Nat.reduceLT,↓reduceIte,Nat.reduceEqDiff,Nat.reduceLeDiff,Nat.reduceAdd,↓gd,↓opP,↓qv,↓ef,↓stS,slot,putS,putO,sz,wrF,stor]
  repeat (refine ⟨by omega,?_⟩)
  refine into_refl ?_
  refine codeP_of_vc (pl:=pl10) tabOk follows_mixed (by kernel_rfl) ?_
  simp -implicitDefEqProofs (maxSteps:=1000000) (disch:=omega) only [↓zzP,zzA,zzL,reduceIte,Nat.reduceLT,↓reduceIte,Nat.reduceEqDiff,Array.reduceGetElem?,↓gd,↓opP,↓qv,slot,putS,putO,ofV,lenS,binH,binS2,binS,g0,z1,z2,beq_self_eq_true]
  repeat (refine ⟨by omega,?_⟩)
  refine c12 _ _ ?_
  intro Hz hEz
  simp -implicitDefEqProofs (maxSteps:=1000000) (disch:=omega) only [↓zzP,zzA,zzL,reduceIte,Nat.reduceLT,↓reduceIte,Nat.reduceEqDiff,↓gd,↓opP,↓qv,slot,putS,putO,ofV]
  repeat (refine ⟨by omega,?_⟩)
  exact intoR_refl ((hE6.trans (hE7.app _)).trans hEz).1 (hK _)
 ·have z1:(((mo.length:Nat):Int) == 0) = false:=by
   have:=List.length_pos_iff.2 hm0
   rw [beq_eq_false_iff_ne]
   omega
  obtain ⟨em,hem,hem2⟩:=decS_more hdec hm0
  rw [← hQ] at hem
  have z2:((em:Int) == 0) = false:=beq_eq_false_iff_ne.2 hem2
  refine c38 Q H6 (H5.length+2) 0 0 true _ _ hr6 (by omega) hFQ2 _ (fun e2 he H7 hE7=>?_) (fun mz he=>by rw [hem] at he; cases he)
  have hee:e2 = em:=by rw [hem] at he; cases he; rfl
  subst hee
  simp -implicitDefEqProofs (maxSteps:=1000000) (disch:=omega) only [↓zzP,zzA,zzL,zzB,Nat.reduceSub,reduceIte,reduceCtorEq,Nat.reduceLT,↓reduceIte,Nat.reduceEqDiff,Nat.reduceLeDiff,Nat.reduceAdd,↓gd,↓opP,↓qv,↓ef,↓stS,slot,putS,putO,sz,wrF,stor,Value.oneCell']
  repeat (refine ⟨by omega,?_⟩)
  refine into_refl ?_
  refine codeP_of_vc (pl:=pl10) tabOk follows_mixed (by kernel_rfl) ?_
  simp -implicitDefEqProofs (maxSteps:=1000000) (disch:=omega) only [↓zzP,zzA,zzL,reduceIte,Nat.reduceLT,↓reduceIte,Nat.reduceEqDiff,Array.reduceGetElem?,↓gd,↓opP,↓qv,slot,putS,putO,ofV,lenS,binH,binS2,binS,g0,z1,z2,beq_self_eq_true]
  repeat (refine ⟨by omega,?_⟩)
  refine c12 _ _ ?_
  intro Hz hEz
  simp -implicitDefEqProofs (maxSteps:=1000000) (disch:=omega) only [↓zzP,zzA,zzL,reduceIte,Nat.reduceLT,↓reduceIte,Nat.reduceEqDiff,↓gd,↓opP,↓qv,slot,putS,putO,ofV]
  repeat (refine ⟨by omega,?_⟩)
  exact intoR_refl ((hE6.trans (hE7.app _)).trans hEz).1 (hK _)
end Go.Proofs.Ytgocfglmideobaa
