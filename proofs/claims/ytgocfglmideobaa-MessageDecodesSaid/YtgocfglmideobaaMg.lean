/- Texts put together: Contracts of functions that the laws reach, by the symbolic executor. No condition. -/
import Derived.Test.YtgocfglmideobaaMc
import Derived.Test.YtgocfglmideobaaMe
import Derived.Test.YtgocfglmideobaaMf
set_option linter.all false
set_option maxRecDepth 40000
namespace Go.Proofs.Ytgocfglmideobaa
open Go Go.Sx
theorem res134:Try.f134.results.toList = [.cell 4 31,.tmp 5,.tmp 6]:=rfl
theorem res136:Try.f136.results.toList = [.cell 4 45,.tmp 5,.tmp 6]:=rfl
abbrev ReadAt (D:Nat):Prop:=∀ (bs:List By) (h:List Chunk) (k d e:Nat) (w:Bool) (N:Nat) (F:Nat→SV),lookH h k = .row w N 1 F→e+bs.length≤N→(∀ i,i < bs.length→F (e+i) = .int .u8 (nat (bs.getD i 0)))→bs.length≤1048576→∀ (K:Tok→SV→List Chunk→Prop),
 (∀ er,rdMsg (qM D) bs = .error er→∀ H x,Ext (fun _=>False) h H→ErrM x→K .mk (.tup [x,.int .i64 er]) H) →
 (∀ m,rdMsg (qM D) bs = .ok m→∀ H sv,Ext (fun _=>False) h H→RelM (fresh h.length H) m sv→K .mk (.tup [sv,.int .i64 0]) H) →
 callP Try.prog 85 [.osl k d e 1 bs.length,.int .i64 (3 - (D:Int))] h K
theorem tb_most {bs:List By} {most v:Nat} {c:List By} (h:tb bs most = .ok (c,v)):c.length≤most:=by
 unfold tb at h
 split at h
 ·cases h
 ·split at h
  ·cases h
  ·split at h
   ·cases h
   ·cases h
    rw [List.length_take]
    omega
theorem extR_f6 {n a m:Nat} {H1:List Chunk} (hn:n≤a) (hm:m < a) (c:Chunk) (x:List Chunk):ExtR (fresh a H1) (fresh n (putH H1 m c++x)):=fun k w b s f hk=>by
 rw [fresh_look] at hk ⊢
 split at hk
 ·cases hk
 ·rename_i c2
  rw [if_neg (by omega),lookH_at _ (by rw [putH_len]; exact lookH_lt hk (by simp)),lookH_put_ne _ (by omega)]
  exact hk
theorem extR_f7 {n a m:Nat} {H1:List Chunk} (hn:n≤a) (hm:m < a) (c:Chunk):ExtR (fresh a H1) (fresh n (putH H1 m c)):=by
 have:=extR_f6 (H1:=H1) hn hm c []
 rwa [List.append_nil] at this
set_option maxHeartbeats 4000000 in
theorem c134z (h:List Chunk) (kr kx dx ex nx:Nat) (ee:Int) (hk:lookH h kr = .cells true [.osl kx dx ex 1 nx,.int .i64 3,.int .i64 ee]):QAt 134 kr h RelM ErrM (qM 0):=by
 intro b2 H k d e w N F hEx hr hN hF hl K hE hO
 have hkH:=hEx.look hk (by simp) fun h=>h
 have hlt:=lookH_lt hkH (by simp)
 have z1:((3:Int) == 3) = true:=rfl
 refine callP_of_code tabOk Try.func134 (by kernel_rfl) rfl (Nat.le_of_ble_eq_true rfl) (codeP_of_vc (pl:=np) tabOk follows_mixed (by kernel_rfl) ?_)
 rw [Try.ntmps134]
 simp -implicitDefEqProofs (maxSteps:=1000000) (disch:=omega) only [↓zzP,zzA,zzL,zzB,Nat.reduceSub,reduceIte,reduceCtorEq,Nat.reduceLT,↓reduceIte,Nat.reduceEqDiff,Nat.reduceLeDiff,Nat.reduceAdd,↓gd,↓opP,↓qv,↓ef,↓stS,slot,putS,putO,ofV,fldA,asRow,rdF,Ent.row,ldS,sz,wrF,bldS,binH,binS2,binS,tupS,stor,Value.oneCell',res134,z1,hkH,lookH_at]
 repeat (refine ⟨by omega,?_⟩)
 exact intoR_refl (by simp) (hE 4 (by rw [qM]) (by decide) _ _ _ ((Ext.refl _ _).app _) ⟨_,rfl,0,0,0,0,z32,.nil,.nil,.nil,.nil,0,z32,rfl⟩)
set_option maxHeartbeats 8000000 in
theorem c134s (D:Nat) (hR:ReadAt D) (h:List Chunk) (kr kx dx ex nx:Nat) (ee:Int) (hD:D≤5) (hk:lookH h kr = .cells true [.osl kx dx ex 1 nx,.int .i64 (3 - ((D+1:Nat):Int)),.int .i64 ee]):QAt 134 kr h RelM ErrM (qM (D+1)):=by
 intro b2 H k d e w N F hEx hr hN hF hl K hE hO
 have hkH:=hEx.look hk (by simp) fun h=>h
 have hlt:=lookH_lt hkH (by simp)
 obtain ⟨dp,hdp⟩:∃ dp:Int,dp = 3 - ((D+1:Nat):Int):=⟨_,rfl⟩
 rw [← hdp] at hkH
 have z1:(dp == 3) = false:=by rw [beq_eq_false_iff_ne]; omega
 have z2:IntKind.i64.wrap (dp+1) = 3 - (D:Int):=by rw [wrap64 (by omega) (by omega)]; omega
 refine callP_of_code tabOk Try.func134 (by kernel_rfl) rfl (Nat.le_of_ble_eq_true rfl) (codeP_of_vc (pl:=np) tabOk follows_mixed (by kernel_rfl) ?_)
 rw [Try.ntmps134]
 simp -implicitDefEqProofs (maxSteps:=1000000) (disch:=omega) only [↓zzP,zzA,zzL,zzB,reduceIte,reduceCtorEq,Nat.reduceLT,↓reduceIte,Nat.reduceEqDiff,Nat.reduceLeDiff,Nat.reduceAdd,↓gd,↓opP,↓qv,↓ef,slot,putS,putO,ofV,fldA,asRow,rdF,Ent.row,ldS,sz,binH,binS2,binS,tupS,res134,z1,hkH,lookH_at]
 repeat (refine ⟨by omega,?_⟩)
 obtain ⟨H0,hH0⟩:∃ H0,H0 = H++[Chunk.cells true [.int .i64 0,.int .i64 0,.int .i64 0,.int .i64 0,.fam 32 1 fun _=>.int .u8 0,.v (.slice none 0 0),.v (.slice none 0 0),.v (.slice none 0 0),.v (.slice none 0 0),.int .i64 0,.fam 32 1 fun _=>.int .u8 0]]:=⟨_,rfl⟩
 have hE0:Ext (fun _=>False) H H0:=by rw [hH0]; exact (Ext.refl _ _).app _
 have e0:lookH H0 H.length = Chunk.cells true [.int .i64 0,.int .i64 0,.int .i64 0,.int .i64 0,.fam 32 1 fun _=>.int .u8 0,.v (.slice none 0 0),.v (.slice none 0 0),.v (.slice none 0 0),.v (.slice none 0 0),.int .i64 0,.fam 32 1 fun _=>.int .u8 0]:=by rw [hH0]; exact lookH_app0 _ _
 have hr0:=hE0.look hr (by simp) fun h=>h
 have hk0:=hE0.look hkH (by simp) fun h=>h
 rw [← hH0]
 refine c156 b2 H0 k d e w N F hr0 hN hF hl 1048576 (by omega) _ (fun er he=>?_) (fun s u he H1 k1 hE1 hk1 hr1=>?_)
 ·have hne:=tb_err he
  have z3:(er != 0) = true:=bne_iff_ne.2 hne
  have l0:=lookH_lt e0 (by simp)
  simp -implicitDefEqProofs (maxSteps:=1000000) (disch:=omega) only [↓zzP,zzA,zzL,zzB,Nat.reduceSub,reduceIte,reduceCtorEq,Nat.reduceLT,↓reduceIte,Nat.reduceEqDiff,Nat.reduceLeDiff,Nat.reduceAdd,↓gd,↓opP,↓qv,↓ef,↓stS,slot,putS,putO,ofV,asRow,sz,wrF,bldS,binH,binS2,binS,stor,Value.oneCell',z3,e0,lookH_put_same]
  repeat (refine ⟨by omega,?_⟩)
  refine intoR_refl (by rw [putH_len]; exact hE0.1) (hE er (by rw [qM,he]) hne _ _ _ (hE0.put _ (.inr (Nat.le_refl _))) ⟨_,rfl,0,0,0,0,z32,.nil,.nil,.nil,.nil,0,z32,rfl⟩)
 ·have hu:=tb_ok he
  have hs:=tb_most he
  have z3:((0:Int) != 0) = false:=rfl
  have f0:=hE1.look e0 (by simp) fun h=>h
  have hk2:=hE1.look hk0 (by simp) fun h=>h
  simp -implicitDefEqProofs (maxSteps:=1000000) (disch:=omega) only [↓zzP,zzA,zzL,zzB,reduceIte,reduceCtorEq,Nat.reduceLT,↓reduceIte,Nat.reduceEqDiff,Nat.reduceLeDiff,Nat.reduceAdd,↓gd,↓opP,↓qv,slot,putS,putO,ofV,fldA,rdF,Ent.row,ldS,sz,binH,binS2,binS,z3,hk2,z2]
  repeat (refine ⟨by omega,?_⟩)
  refine hR s H1 k1 0 0 true s.length _ hr1 (by omega) (fun i hi=>by rw [Nat.zero_add]) hs _ (fun er he2 H2 x hE2 hx=>?_) (fun m he2 H2 sv hE2 hrel=>?_)
  ·obtain ⟨lx,rfl,yk,yf,yv,ys,yd,s5,s6,s7,s8,ykey,yof,rfl⟩:=hx
   have g0:=hE2.look f0 (by simp) fun h=>h
   have l0:=lookH_lt g0 (by simp)
   have hE3:=hE0.trans (hE1.trans hE2)
   simp -implicitDefEqProofs (maxSteps:=1000000) (disch:=omega) only [↓zzP,zzA,zzL,zzB,Nat.reduceSub,reduceIte,reduceCtorEq,Nat.reduceLT,↓reduceIte,Nat.reduceEqDiff,Nat.reduceLeDiff,Nat.reduceAdd,↓gd,↓opP,↓qv,↓ef,↓stS,slot,putS,putO,rdF,Ent.row,ldS,sz,wrF,stor,g0,lookH_at,putH_at,lookH_pB,lookH_put_same,Sl.sz,Sl.stor]
   repeat (refine ⟨by omega,?_⟩)
   refine intoR_refl (by rw [List.length_append,putH_len]; exact Nat.le_trans hE3.1 (Nat.le_add_right _ _)) (hE er (by rw [qM,he]; simp only [he2]) (rdMsg_ne (qM_ne D) _ _ he2) _ _ _ ((hE3.put (p:=H.length) _ (.inr (Nat.le_refl _))).app _) ⟨_,rfl,yk,yf,yv,ys,yd,s5,s6,s7,s8,ykey,yof,rfl⟩)
  ·obtain ⟨lx,rfl,hmx,hwx⟩:=id hrel
   obtain ⟨xk,xf,xv,xs,xd,xkb,xnb,xkbs,xnbs,xkp,xnp,xkq,xnq,xkey,xof,rfl⟩:=hmx.open
   have g0:=hE2.look f0 (by simp) fun h=>h
   have l0:=lookH_lt g0 (by simp)
   have hE3:=hE0.trans (hE1.trans hE2)
   simp -implicitDefEqProofs (maxSteps:=1000000) (disch:=omega) only [↓zzP,zzA,zzL,zzB,Nat.reduceSub,reduceIte,reduceCtorEq,Nat.reduceLT,↓reduceIte,Nat.reduceEqDiff,Nat.reduceLeDiff,Nat.reduceAdd,↓gd,↓opP,↓qv,↓ef,↓stS,slot,putS,putO,rdF,Ent.row,ldS,sz,wrF,stor,g0,lookH_at,putH_at,lookH_pB,lookH_put_same]
   repeat (refine ⟨by omega,?_⟩)
   refine intoR_refl (by rw [List.length_append,putH_len]; exact Nat.le_trans hE3.1 (Nat.le_add_right _ _)) (hO m u (by rw [qM,he]; simp only [he2]) ⟨hu.1,hu.2.1⟩ _ _ ((hE3.put (p:=H.length) _ (.inr (Nat.le_refl _))).app _) (RelM.mono _ _ _ _ (extR_f6 (by have:=lookH_lt f0 (by simp); omega) (lookH_lt f0 (by simp)) _ _) hrel))
set_option maxHeartbeats 8000000 in
theorem c136 (D:Nat) (h:List Chunk) (kr:Nat) (hkr:kr < h.length) (hq:∀ H,Ext (fun _=>False) h H→QAt 134 kr H RelM ErrM (qM D)):QAt 136 kr h RelP ErrP (qPf (qM D)):=by
 intro b2 H k d e w N F hEx hr hN hF hl K hE hO
 have hlt:kr < H.length:=Nat.lt_of_lt_of_le hkr hEx.1
 refine callP_of_code tabOk Try.func136 (by kernel_rfl) rfl (Nat.le_of_ble_eq_true rfl) (codeP_of_vc (pl:=np) tabOk follows_mixed (by kernel_rfl) ?_)
 rw [Try.ntmps136]
 simp -implicitDefEqProofs (maxSteps:=1000000) (disch:=omega) only [↓zzP,zzA,zzB,reduceIte,reduceCtorEq,Nat.reduceLT,↓reduceIte,Nat.reduceEqDiff,Nat.reduceAdd,↓gd,↓opP,↓qv,↓ef,slot,putS,putO,ofV,asRow,rdF,Ent.row,ldS,tupS,res136]
 repeat (refine ⟨by omega,?_⟩)
 obtain ⟨H0,hH0⟩:∃ H0,H0 = H++[Chunk.cells true [.int .i64 0,.int .i64 0,.int .i64 0,.int .i64 0,.fam 32 1 fun _=>.int .u8 0,.v (.slice none 0 0),.v (.slice none 0 0),.v (.slice none 0 0),.v (.slice none 0 0),.int .i64 0,.fam 32 1 fun _=>.int .u8 0,.v (.slice none 0 0)]]:=⟨_,rfl⟩
 have hE0:Ext (fun _=>False) H H0:=by rw [hH0]; exact (Ext.refl _ _).app _
 have e0:lookH H0 H.length = Chunk.cells true [.int .i64 0,.int .i64 0,.int .i64 0,.int .i64 0,.fam 32 1 fun _=>.int .u8 0,.v (.slice none 0 0),.v (.slice none 0 0),.v (.slice none 0 0),.v (.slice none 0 0),.int .i64 0,.fam 32 1 fun _=>.int .u8 0,.v (.slice none 0 0)]:=by rw [hH0]; exact lookH_app0 _ _
 have hr0:=hE0.look hr (by simp) fun h=>h
 rw [← hH0]
 refine hq H0 (hEx.trans hE0) b2 H0 k d e w N F (Ext.refl _ _) hr0 hN hF hl _ (fun er he hne H1 x v hE1 hx=>?_) (fun m u he hu H1 sv hE1 hrel=>?_)
 ·obtain ⟨lx,rfl,yk,yf,yv,ys,yd,s5,s6,s7,s8,ykey,yof,rfl⟩:=hx
  have z1:(er != 0) = true:=bne_iff_ne.2 hne
  have g0:=hE1.look e0 (by simp) fun h=>h
  have l0:=lookH_lt g0 (by simp)
  simp -implicitDefEqProofs (maxSteps:=1000000) (disch:=omega) only [↓zzP,zzA,zzL,zzB,Nat.reduceSub,reduceIte,reduceCtorEq,Nat.reduceLT,↓reduceIte,Nat.reduceEqDiff,Nat.reduceLeDiff,Nat.reduceAdd,↓gd,↓opP,↓qv,↓ef,↓stS,slot,putS,putO,ofV,asRow,sz,wrF,bldS,binH,binS2,binS,stor,Value.oneCell',z1,g0,lookH_at,putH_at,lookH_pB,lookH_put_same,Sl.sz,Sl.stor]
  repeat (refine ⟨by omega,?_⟩)
  have hE2:=hE0.trans hE1
  exact intoR_refl (by rw [List.length_append,putH_len]; exact Nat.le_trans hE2.1 (Nat.le_add_right _ _)) (hE er (by unfold qPf; rw [he]) hne _ _ _ ((hE2.put (p:=H.length) _ (.inr (Nat.le_refl _))).app _) ⟨_,.nil,rfl,0,0,0,0,z32,.nil,.nil,.nil,.nil,0,z32,rfl⟩)
 ·obtain ⟨lx,rfl,hmx,hwx⟩:=id hrel
  obtain ⟨xk,xf,xv,xs,xd,xkb,xnb,xkbs,xnbs,xkp,xnp,xkq,xnq,xkey,xof,rfl⟩:=hmx.open
  have z1:((0:Int) != 0) = false:=rfl
  have g0:=hE1.look e0 (by simp) fun h=>h
  have l0:=lookH_lt g0 (by simp)
  have hr1:=hE1.look hr0 (by simp) fun h=>h
  have hkl1:=lookH_lt hr1 (by simp)
  have hdl:(b2.drop u).length = b2.length - u:=List.length_drop ..
  obtain ⟨b3,hb3⟩:∃ b,b = b2.drop u:=⟨_,rfl⟩
  rw [← hb3] at hdl
  have hF2:∀ i,i < b3.length→F (e+u+i) = .int .u8 (nat (b3.getD i 0)):=fun i hi=>by
   rw [Nat.add_assoc,hF _ (by omega),hb3]
   congr 2
   simp [List.getD,List.getElem?_drop]
  simp -implicitDefEqProofs (maxSteps:=1000000) (disch:=omega) only [↓zzP,zzA,zzL,zzB,Nat.reduceSub,reduceIte,reduceCtorEq,Nat.reduceLT,↓reduceIte,Nat.reduceEqDiff,Nat.reduceLeDiff,Nat.reduceAdd,↓gd,↓opP,↓qv,↓ef,↓stS,slot,putS,putO,ofV,bnd,slS,sz,wrF,binH,binS2,binS,stor,z1,hr1,lookH_at]
  repeat (refine ⟨by omega,?_⟩)
  rw [← hdl]
  obtain ⟨H2,hH2⟩:∃ H2,H2 = H1++[Chunk.cells true [.int .i64 xk,.int .i64 xf,.int .i64 xv,.int .i64 xs,.fam 32 1 fun i=>.int .u8 (nat (xd i)),.osl xkb 0 0 1 xnb,.osl xkbs 0 0 1 xnbs,.osl xkp 0 0 73 xnp,.osl xkq 0 0 74 xnq,.int .i64 xkey,.fam 32 1 fun i=>.int .u8 (nat (xof i))]]:=⟨_,rfl⟩
  have hE2:Ext (fun _=>False) H1 H2:=by rw [hH2]; exact (Ext.refl _ _).app _
  have g1:lookH H2 H.length = Chunk.cells true [.int .i64 0,.int .i64 0,.int .i64 0,.int .i64 0,.fam 32 1 fun _=>.int .u8 0,.v (.slice none 0 0),.v (.slice none 0 0),.v (.slice none 0 0),.v (.slice none 0 0),.int .i64 0,.fam 32 1 fun _=>.int .u8 0,.v (.slice none 0 0)]:=hE2.look g0 (by simp) fun h=>h
  have g2:lookH H2 H1.length = Chunk.cells true [.int .i64 xk,.int .i64 xf,.int .i64 xv,.int .i64 xs,.fam 32 1 fun i=>.int .u8 (nat (xd i)),.osl xkb 0 0 1 xnb,.osl xkbs 0 0 1 xnbs,.osl xkp 0 0 73 xnp,.osl xkq 0 0 74 xnq,.int .i64 xkey,.fam 32 1 fun i=>.int .u8 (nat (xof i))]:=by rw [hH2]; exact lookH_app0 _ _
  have hr2:=hE2.look hr1 (by simp) fun h=>h
  have hE3:=(hE0.trans hE1).trans hE2
  have hl3:=hE3.1
  rw [← hH2]
  refine c158 b3 H2 k _ (e+u) w N F hr2 (by omega) hF2 (by omega) kr (by omega) (qM D) (hq H2 (hEx.trans hE3)) 64 (by omega) _ (fun er he2 H3 v hE4=>?_) (fun X v hv he2 H3 m2 F2 hE4 hm2 hrow hX=>?_)
  ·have f1:=hE4.look g1 (by simp) fun h=>h
   have f2:=hE4.look g2 (by simp) fun h=>h
   have l1:=lookH_lt f1 (by simp)
   have hE5:=hE3.trans hE4
   simp -implicitDefEqProofs (maxSteps:=1000000) (disch:=omega) only [↓zzP,zzA,zzL,zzB,Nat.reduceSub,reduceIte,reduceCtorEq,Nat.reduceLT,↓reduceIte,Nat.reduceEqDiff,Nat.reduceLeDiff,Nat.reduceAdd,↓gd,↓opP,↓qv,↓ef,↓stS,slot,putS,putO,rdF,Ent.row,ldS,sz,wrF,plT,bldS,binH,binS2,binS,stor,Value.oneCell',f1,f2,lookH_put_same]
   repeat (refine ⟨by omega,?_⟩)
   exact intoR_refl (by rw [putH_len]; exact hE5.1) (hE er (by unfold qPf; rw [he]; simp only [← hb3,he2]) (tl_err (qM_ne D) he2) _ _ _ (hE5.put (p:=H.length) _ (.inr (Nat.le_refl _))) ⟨_,.nil,rfl,xk,xf,xv,xs,xd,.at xkb xnb,.at xkbs xnbs,.at xkp xnp,.at xkq xnq,xkey,xof,rfl⟩)
  ·have f1:=hE4.look g1 (by simp) fun h=>h
   have f2:=hE4.look g2 (by simp) fun h=>h
   have l1:=lookH_lt f1 (by simp)
   have hE5:=hE3.trans hE4
   have hv2:u+v = b2.length - (b3.drop v).length:=by rw [List.length_drop]; omega
   have z2:IntKind.i64.wrap ((u:Int)+(v:Int)) = ((u+v:Nat):Int):=by rw [wrap64 (by omega) (by omega)]; omega
   simp -implicitDefEqProofs (maxSteps:=1000000) (disch:=omega) only [↓zzP,zzA,zzL,zzB,Nat.reduceSub,reduceIte,reduceCtorEq,Nat.reduceLT,↓reduceIte,Nat.reduceEqDiff,Nat.reduceLeDiff,Nat.reduceAdd,↓gd,↓opP,↓qv,↓ef,↓stS,slot,putS,putO,rdF,Ent.row,ldS,sz,wrF,plT,bldS,binH,binS2,binS,stor,f1,f2,lookH_put_same,z2]
   repeat (refine ⟨by omega,?_⟩)
   have hn0:=lookH_lt f1 (by simp)
   have hlh:H.length < H2.length:=lookH_lt g1 (by simp)
   have hll:=lookH_lt e0 (by simp)
   have hXm:MsgsH (fresh H2.length H3) X F2:=MsgsH.mk fun i hi=>by
    obtain ⟨l,e1,hm1,_⟩:=hX i hi
    cases e1
    exact hm1
   have hXw:wfL X:=wfL.mk fun i hi=>by
    obtain ⟨l,e1,_,hw1⟩:=hX i hi
    exact hw1
   refine intoR_refl (by rw [putH_len]; exact hE5.1) (hO (m,X) (u+v) (by unfold qPf; rw [he]; simp only [← hb3,he2]; rw [hv2]) (by omega) _ _ (hE5.put (p:=H.length) _ (.inr (Nat.le_refl _))) ⟨_,rfl,⟨[.int .i64 xk,.int .i64 xf,.int .i64 xv,.int .i64 xs,.fam 32 1 fun i=>.int .u8 (nat (xd i)),.osl xkb 0 0 1 xnb,.osl xkbs 0 0 1 xnbs,.osl xkp 0 0 73 xnp,.osl xkq 0 0 74 xnq,.int .i64 xkey,.fam 32 1 fun i=>.int .u8 (nat (xof i))],m2,true,F2,rfl,?_,?_,?_⟩,hwx,hXw⟩)
   ·refine (hmx.extR (extR_f4 (hE2.trans hE4))).extR ?_
    exact extR_f7 (by omega) (by omega) _
   ·rw [fresh_look,if_neg (by omega),lookH_put_ne _ (by omega)]
    exact hrow
   ·exact MsgsH.extR (extR_f7 (by omega) (by omega) _) hXm
end Go.Proofs.Ytgocfglmideobaa
set_option linter.all false
set_option maxRecDepth 40000
namespace Go.Proofs.Ytgocfglmideobaa
open Go Go.Sx
theorem res85:Try.f85.results.toList = [.cell 4 31,.tmp 5]:=rfl
def pl85:Nat→Plan
 | 14=>(.q 0 (.q 1 (.q 2 (.q 3 (.q 4 (.e1 5 [0] (.q 6 .nil)))))))
 | _=>.nil
theorem unz_rng (u:BitVec 64):rng (unz u):=by
 have:=u.isLt
 unfold rng unz
 split <;> omega
theorem ext_new {h H H2:List Chunk} {kr:Nat} (hE:Ext (fun _=>False) h H) (hE2:Ext (fun j=>j = kr) H H2) (hk:h.length≤kr):Ext (fun _=>False) h H2:=⟨Nat.le_trans hE.1 hE2.1,fun k hk1 _=>by
 rw [hE2.2 k (Nat.lt_of_lt_of_le hk1 hE.1) (by omega),hE.2 k hk1 fun h=>h]⟩
theorem extT {a b c:List Chunk} (h1:ExtR a b) (h2:ExtR b c):ExtR a c:=fun k w n s f e=>h2 _ _ _ _ _ (h1 _ _ _ _ _ e)
theorem extR_fk {n kr:Nat} {H H2:List Chunk} {wr:Bool} {fs:List SV} (hE:Ext (fun j=>j = kr) H H2) (hk:lookH H kr = .cells wr fs):ExtR (fresh n H) (fresh n H2):=fun k w a s f hh=>by
 rw [fresh_look] at hh ⊢
 split at hh
 ·cases hh
 ·rw [if_neg (by assumption)]
  exact ext_rd hE hk _ _ _ _ _ hh
set_option maxHeartbeats 4000000 in
theorem c130b (bs:List By) (h:List Chunk) (k d e:Nat) (w:Bool) (N:Nat) (F:Nat→SV) (hr:lookH h k = .row w N 1 F) (hN:e+bs.length≤N) (hF:∀ i,i < bs.length→F (e+i) = .int .u8 (nat (bs.getD i 0))) (hl:bs.length≤35184372088832) (K:Tok→SV→List Chunk→Prop) (hE:∀ er,tb bs 8192 = .error er→K .mk (.tup [.v (.slice none 0 0),.int .i64 0,.int .i64 er]) h) (hO:∀ c v,tb bs 8192 = .ok (c,v)→∀ H k',Ext (fun _=>False) h H→h.length≤k'→lookH H k' = .row true c.length 1 (bt c)→K .mk (.tup [.osl k' 0 0 1 c.length,.int .i64 (v:Nat),.int .i64 0]) H):callP Try.prog 130 [.osl k d e 1 bs.length] h K:=by
 refine callP_of_code tabOk Try.func130 (by kernel_rfl) rfl (Nat.le_of_ble_eq_true rfl) (codeP_of_vc (pl:=np) tabOk follows_mixed (by kernel_rfl) ?_)
 rw [Try.ntmps130]
 simp -implicitDefEqProofs (maxSteps:=1000000) (disch:=omega) only [↓zzP,zzA,reduceIte,reduceCtorEq,Nat.reduceLT,↓reduceIte,↓gd,↓opP,↓qv,slot,putS,putO,ofV,tupS]
 repeat (refine ⟨by omega,?_⟩)
 refine c156 bs h k d e w N F hr hN hF hl 8192 (by omega) _ (fun er he=>?_) (fun c v he H k' hE1 hk' hr1=>?_)
 ·simp -implicitDefEqProofs (maxSteps:=1000000) (disch:=omega) only [↓zzP,zzA,reduceIte,Nat.reduceLT,↓reduceIte,Nat.reduceEqDiff,Nat.reduceAdd,↓gd,↓opP,↓qv,slot,putS,putO]
  repeat (refine ⟨by omega,?_⟩)
  exact intoR_refl (Nat.le_refl _) (hE er he)
 ·simp -implicitDefEqProofs (maxSteps:=1000000) (disch:=omega) only [↓zzP,zzA,reduceIte,Nat.reduceLT,↓reduceIte,Nat.reduceEqDiff,Nat.reduceAdd,↓gd,↓opP,↓qv,slot,putS,putO]
  repeat (refine ⟨by omega,?_⟩)
  exact intoR_refl hE1.1 (hO c v he _ _ hE1 hk' hr1)
theorem pKind_ok {bs r:List By} {k:Int} (h:pKind bs = .ok (k,r)):rng k∧r.length≤bs.length:=by
 unfold pKind at h
 split at h
 ·cases h
 ·rename_i b l
  cases h
  have:=b.isLt
  unfold rng
  rw [List.length_cons]
  omega
theorem pInt_ok {bs r:List By} {k:Int} (h:pInt bs = .ok (k,r)):rng k∧r.length≤bs.length:=by
 unfold pInt at h
 split at h
 ·cases h
 ·cases h
  rw [List.length_drop]
  exact ⟨unz_rng _,by omega⟩
theorem pNum_ok {bs r:List By} {k:Int} (h:pNum bs = .ok (k,r)):rng k∧r.length≤bs.length:=by
 unfold pNum at h
 split at h
 ·cases h
 ·split at h
  ·cases h
  ·cases h
   rw [List.length_drop]
   unfold rng
   omega
theorem pDig_ok {bs r:List By} {d:Nat→By} (h:pDig bs = .ok (d,r)):r.length≤bs.length:=by
 unfold pDig at h
 split at h
 ·cases h
 ·cases h
  rw [List.length_drop]
  omega
set_option maxHeartbeats 16000000 in
theorem c85 (D:Nat) (hD:D≤5) (hq134:∀ (h:List Chunk) (kr kx dx ex nx:Nat) (ee:Int),lookH h kr = .cells true [.osl kx dx ex 1 nx,.int .i64 (3 - (D:Int)),.int .i64 ee]→QAt 134 kr h RelM ErrM (qM D)):ReadAt D:=by
 intro bs h k0 d0 e0 w0 N0 F0 hr0 hN0 hF0 hl0 K hE hO
 obtain ⟨dp,hdp⟩:∃ dp:Int,dp = 3 - (D:Int):=⟨_,rfl⟩
 rw [← hdp]
 obtain ⟨R,hRdef⟩:∃ R,R = rdMsg (qM D) bs:=⟨_,rfl⟩
 rw [← hRdef] at hE hO
 have hEE:=hE
 have hOO:=hO
 clear hE hO
 refine callP_of_code tabOk Try.func85 (by kernel_rfl) rfl (Nat.le_of_ble_eq_true rfl) ?_
 rw [Try.ntmps85]
 refine codeP_seq (pl:=pl85) tabOk follows_mixed (by kernel_rfl) _ ?_ (fun s h=>h)
 simp -implicitDefEqProofs (maxSteps:=1000000) (disch:=omega) only [↓zzP,zzA,zzB,reduceIte,Nat.reduceLT,↓reduceIte,Nat.reduceAdd,↓gd,↓opP,↓qv,↓ef,slot,putS,putO,ofV,asRow,rdF,Ent.row,ldS,tupS,res85]
 repeat (refine ⟨by omega,?_⟩)
 refine into_refl ?_
 refine codeP_seq (pl:=pl85) tabOk follows_mixed (by kernel_rfl) _ ?_ (fun s h=>h)
 simp -implicitDefEqProofs (maxSteps:=1000000) (disch:=omega) only [↓zzP,zzA,zzB,reduceIte,reduceCtorEq,Nat.reduceLT,↓reduceIte,Nat.reduceEqDiff,Nat.reduceLeDiff,↓gd,↓opP,↓qv,↓ef,slot,putS,putO,sz,wrF,plT,bldS,stor]
 repeat (refine ⟨by omega,?_⟩)
 refine into_refl ?_
 obtain ⟨J5,hJ5⟩:∃ J:St→Prop,∀ st,J st ↔ (∃ (H:List Chunk) (km:Nat) (k f v s:Int) (d:Nat→By) (s5 s6 s7 s8:Sl) (key:Int) (of:Nat→By) (sv:SV) (r:List By) (er:Int) (j:Nat→Value),Ext (fun _=>False) h H∧lookH H h.length = Chunk.cells true [.int .i64 0,.int .i64 0,.int .i64 0,.int .i64 0,.fam 32 1 fun _=>.int .u8 0,.v (.slice none 0 0),.v (.slice none 0 0),.v (.slice none 0 0),.v (.slice none 0 0),.int .i64 0,.fam 32 1 fun _=>.int .u8 0]∧lookH H (h.length+1) = .cells true [sv,.int .i64 dp,.int .i64 er]∧RdB H sv r∧h.length+1 < km∧lookH H km = .cells true [.int .i64 k,.int .i64 f,.int .i64 v,.int .i64 s,.fam 32 1 fun i=>.int .u8 (nat (d i)),Sl.sv 1 s5,Sl.sv 1 s6,Sl.sv 73 s7,Sl.sv 74 s8,.int .i64 key,.fam 32 1 fun i=>.int .u8 (nat (of i))]∧((er ≠ 0∧R = .error er) ∨ (er = 0∧r.length≤1048576∧rng k∧rng f∧rng v∧rng s∧R = r5 (qM D) k f v s d r))∧st = ⟨⟨88,[(4,.ptr h.length 0),(6,.ptr (h.length+1) 0),(7,.ptr km 0)],j⟩,H,[]⟩):=⟨_,fun _=>Iff.rfl⟩
 refine codeP_seq (pl:=pl85) tabOk follows_mixed (by kernel_rfl) J5 ?_ ?_
 ·simp -implicitDefEqProofs (maxSteps:=1000000) (disch:=omega) only [↓zzP,zzA,reduceIte,Nat.reduceLT,↓reduceIte,↓gd,↓opP,↓qv,slot,putS,putO]
  repeat (refine ⟨by omega,?_⟩)
  obtain ⟨H0,hH0⟩:∃ H0,H0 = h++[Chunk.cells true [.int .i64 0,.int .i64 0,.int .i64 0,.int .i64 0,.fam 32 1 fun _=>.int .u8 0,.v (.slice none 0 0),.v (.slice none 0 0),.v (.slice none 0 0),.v (.slice none 0 0),.int .i64 0,.fam 32 1 fun _=>.int .u8 0],.cells true [.osl k0 d0 e0 1 bs.length,.int .i64 dp,.int .i64 0]]:=⟨_,rfl⟩
  have hEh0:Ext (fun _=>False) h H0:=by rw [hH0]; exact (Ext.refl _ _).app _
  have hz0:lookH H0 h.length = Chunk.cells true [.int .i64 0,.int .i64 0,.int .i64 0,.int .i64 0,.fam 32 1 fun _=>.int .u8 0,.v (.slice none 0 0),.v (.slice none 0 0),.v (.slice none 0 0),.v (.slice none 0 0),.int .i64 0,.fam 32 1 fun _=>.int .u8 0]:=by rw [hH0]; exact lookH_app0 _ _
  have hk0:lookH H0 (h.length+1) = .cells true [.osl k0 d0 e0 1 bs.length,.int .i64 dp,.int .i64 0]:=by rw [hH0]; exact lookH_app _ 1 _
  have hB0:RdB H0 (.osl k0 d0 e0 1 bs.length) bs:=⟨k0,d0,e0,w0,N0,F0,rfl,hEh0.look hr0 (by simp) fun h=>h,hN0,hF0⟩
  rw [← hH0]
  clear hH0
  have hR:R = rdMsg (qM D) bs:=hRdef
  refine c126 bs H0 _ _ dp hk0 hB0 (by omega) _ (fun e2 he v0 H1 sv1 ra1 hE1 hk1 hB1=>?_) (fun x0 ra1 he H1 sv1 hE1 hk1 hB1=>?_)
  ·have hne:=pKind_ne he
   have hR2:R = .error e2:=by rw [hR]; simp only [rdMsg,he]
   have hEn:=ext_new hEh0 hE1 (Nat.le_succ _)
   have hzn:=hE1.look hz0 (by simp) fun h=>absurd h (by omega)
   obtain ⟨k1,d1,x1,w1,N1,F1,rfl,hr1,hN1,hF1⟩:=id hB1
   have hkx:=hk1
   simp -implicitDefEqProofs (maxSteps:=1000000) (disch:=omega) only [↓zzP,zzA,reduceIte,Nat.reduceLT,↓reduceIte,Nat.reduceEqDiff,↓gd,↓opP,↓qv,slot,putS,putO]
   repeat (refine ⟨by omega,?_⟩)
   refine c127x H1 _ k1 d1 x1 _ dp e2 hkx hne _ ?_
   simp -implicitDefEqProofs (maxSteps:=1000000) (disch:=omega) only [↓zzP,zzA,reduceIte,Nat.reduceLT,↓reduceIte,Nat.reduceEqDiff,↓gd,↓opP,↓qv,slot,putS,putO]
   repeat (refine ⟨by omega,?_⟩)
   refine c128x H1 _ k1 d1 x1 _ dp e2 hkx hne _ ?_
   simp -implicitDefEqProofs (maxSteps:=1000000) (disch:=omega) only [↓zzP,zzA,reduceIte,Nat.reduceLT,↓reduceIte,Nat.reduceEqDiff,↓gd,↓opP,↓qv,slot,putS,putO]
   repeat (refine ⟨by omega,?_⟩)
   refine c128x H1 _ k1 d1 x1 _ dp e2 hkx hne _ ?_
   simp -implicitDefEqProofs (maxSteps:=1000000) (disch:=omega) only [↓zzP,zzA,reduceIte,Nat.reduceLT,↓reduceIte,Nat.reduceEqDiff,↓gd,↓opP,↓qv,slot,putS,putO]
   repeat (refine ⟨by omega,?_⟩)
   refine c129x H1 _ k1 d1 x1 _ dp e2 hkx hne _ (fun H6 hE6=>?_)
   simp -implicitDefEqProofs (maxSteps:=1000000) (disch:=omega) only [↓zzP,zzA,zzL,zzB,Nat.reduceSub,reduceIte,reduceCtorEq,Nat.reduceLT,↓reduceIte,Nat.reduceEqDiff,Nat.reduceLeDiff,Nat.reduceAdd,↓gd,↓opP,↓qv,↓ef,↓stS,slot,putS,putO,sz,wrF,plT,bldS,stor,Value.oneCell']
   repeat (refine ⟨by omega,?_⟩)
   have hE7:=hEn.trans hE6
   have hz7:=hE6.look hzn (by simp) fun h=>h
   have hk7:=hE6.look hkx (by simp) fun h=>h
   have hB7:=RdB.ext hB1 (ext_rows hE6 fun _ h=>h.elim)
   exact into_keep [(4,.ptr h.length 0),(6,.ptr (h.length+1) 0),(7,.ptr (H6).length 0)] (by simp [sameT,slot,lkL]) fun j=>(hJ5 _).2 ⟨_,(H6).length,v0,0,0,0,fun _=>0,.nil,.nil,.nil,.nil,0,fun _=>0,_,_,_,j,(hE7).app _,by rw [lookH_at _ (lookH_lt hz7 (by simp))]; exact hz7,by rw [lookH_at _ (lookH_lt hk7 (by simp))]; exact hk7,RdB.ext hB7 (extR_app _ _),lookH_lt hk7 (by simp),lookH_app0 _ _,.inl ⟨hne,hR2⟩,rfl⟩
  ·have hpo:=pKind_ok he
   simp only [rdMsg,he] at hR
   have hEh1:=ext_new hEh0 hE1 (Nat.le_succ _)
   have hz1:=hE1.look hz0 (by simp) fun h=>absurd h (by omega)
   have hrg0:=hpo.1
   have hln1:ra1.length≤1048576:=by have:=hpo.2; omega
   clear hpo he
   simp -implicitDefEqProofs (maxSteps:=1000000) (disch:=omega) only [↓zzP,zzA,reduceIte,Nat.reduceLT,↓reduceIte,Nat.reduceEqDiff,↓gd,↓opP,↓qv,slot,putS,putO]
   repeat (refine ⟨by omega,?_⟩)
   refine c127 ra1 H1 _ _ dp hk1 hB1 (by omega) _ (fun e2 he v0 H2 sv2 ra2 hE2 hk2 hB2=>?_) (fun x1v ra2 he H2 sv2 hE2 hk2 hB2=>?_)
   ·have hne:=pInt_ne he
    have hR2:R = .error e2:=by rw [hR]; simp only [r1,he]
    have hEn:=ext_new hEh1 hE2 (Nat.le_succ _)
    have hzn:=hE2.look hz1 (by simp) fun h=>absurd h (by omega)
    obtain ⟨k1,d1,x1,w1,N1,F1,rfl,hr1,hN1,hF1⟩:=id hB2
    have hkx:=hk2
    simp -implicitDefEqProofs (maxSteps:=1000000) (disch:=omega) only [↓zzP,zzA,reduceIte,Nat.reduceLT,↓reduceIte,Nat.reduceEqDiff,↓gd,↓opP,↓qv,slot,putS,putO]
    repeat (refine ⟨by omega,?_⟩)
    refine c128x H2 _ k1 d1 x1 _ dp e2 hkx hne _ ?_
    simp -implicitDefEqProofs (maxSteps:=1000000) (disch:=omega) only [↓zzP,zzA,reduceIte,Nat.reduceLT,↓reduceIte,Nat.reduceEqDiff,↓gd,↓opP,↓qv,slot,putS,putO]
    repeat (refine ⟨by omega,?_⟩)
    refine c128x H2 _ k1 d1 x1 _ dp e2 hkx hne _ ?_
    simp -implicitDefEqProofs (maxSteps:=1000000) (disch:=omega) only [↓zzP,zzA,reduceIte,Nat.reduceLT,↓reduceIte,Nat.reduceEqDiff,↓gd,↓opP,↓qv,slot,putS,putO]
    repeat (refine ⟨by omega,?_⟩)
    refine c129x H2 _ k1 d1 x1 _ dp e2 hkx hne _ (fun H6 hE6=>?_)
    simp -implicitDefEqProofs (maxSteps:=1000000) (disch:=omega) only [↓zzP,zzA,zzL,zzB,Nat.reduceSub,reduceIte,reduceCtorEq,Nat.reduceLT,↓reduceIte,Nat.reduceEqDiff,Nat.reduceLeDiff,Nat.reduceAdd,↓gd,↓opP,↓qv,↓ef,↓stS,slot,putS,putO,sz,wrF,plT,bldS,stor,Value.oneCell']
    repeat (refine ⟨by omega,?_⟩)
    have hE7:=hEn.trans hE6
    have hz7:=hE6.look hzn (by simp) fun h=>h
    have hk7:=hE6.look hkx (by simp) fun h=>h
    have hB7:=RdB.ext hB2 (ext_rows hE6 fun _ h=>h.elim)
    exact into_keep [(4,.ptr h.length 0),(6,.ptr (h.length+1) 0),(7,.ptr (H6).length 0)] (by simp [sameT,slot,lkL]) fun j=>(hJ5 _).2 ⟨_,(H6).length,x0,v0,0,0,fun _=>0,.nil,.nil,.nil,.nil,0,fun _=>0,_,_,_,j,(hE7).app _,by rw [lookH_at _ (lookH_lt hz7 (by simp))]; exact hz7,by rw [lookH_at _ (lookH_lt hk7 (by simp))]; exact hk7,RdB.ext hB7 (extR_app _ _),lookH_lt hk7 (by simp),lookH_app0 _ _,.inl ⟨hne,hR2⟩,rfl⟩
   ·have hpo:=pInt_ok he
    simp only [r1,he] at hR
    have hEh2:=ext_new hEh1 hE2 (Nat.le_succ _)
    have hz2:=hE2.look hz1 (by simp) fun h=>absurd h (by omega)
    have hrg1:=hpo.1
    have hln2:ra2.length≤1048576:=by have:=hpo.2; omega
    clear hpo he
    simp -implicitDefEqProofs (maxSteps:=1000000) (disch:=omega) only [↓zzP,zzA,reduceIte,Nat.reduceLT,↓reduceIte,Nat.reduceEqDiff,↓gd,↓opP,↓qv,slot,putS,putO]
    repeat (refine ⟨by omega,?_⟩)
    refine c128 ra2 H2 _ _ dp hk2 hB2 (by omega) _ (fun e2 he v0 H3 sv3 ra3 hE3 hk3 hB3=>?_) (fun x2 ra3 he H3 sv3 hE3 hk3 hB3=>?_)
    ·have hne:=pNum_ne he
     have hR2:R = .error e2:=by rw [hR]; simp only [r2,he]
     have hEn:=ext_new hEh2 hE3 (Nat.le_succ _)
     have hzn:=hE3.look hz2 (by simp) fun h=>absurd h (by omega)
     obtain ⟨k1,d1,x1,w1,N1,F1,rfl,hr1,hN1,hF1⟩:=id hB3
     have hkx:=hk3
     simp -implicitDefEqProofs (maxSteps:=1000000) (disch:=omega) only [↓zzP,zzA,reduceIte,Nat.reduceLT,↓reduceIte,Nat.reduceEqDiff,↓gd,↓opP,↓qv,slot,putS,putO]
     repeat (refine ⟨by omega,?_⟩)
     refine c128x H3 _ k1 d1 x1 _ dp e2 hkx hne _ ?_
     simp -implicitDefEqProofs (maxSteps:=1000000) (disch:=omega) only [↓zzP,zzA,reduceIte,Nat.reduceLT,↓reduceIte,Nat.reduceEqDiff,↓gd,↓opP,↓qv,slot,putS,putO]
     repeat (refine ⟨by omega,?_⟩)
     refine c129x H3 _ k1 d1 x1 _ dp e2 hkx hne _ (fun H6 hE6=>?_)
     simp -implicitDefEqProofs (maxSteps:=1000000) (disch:=omega) only [↓zzP,zzA,zzL,zzB,Nat.reduceSub,reduceIte,reduceCtorEq,Nat.reduceLT,↓reduceIte,Nat.reduceEqDiff,Nat.reduceLeDiff,Nat.reduceAdd,↓gd,↓opP,↓qv,↓ef,↓stS,slot,putS,putO,sz,wrF,plT,bldS,stor,Value.oneCell']
     repeat (refine ⟨by omega,?_⟩)
     have hE7:=hEn.trans hE6
     have hz7:=hE6.look hzn (by simp) fun h=>h
     have hk7:=hE6.look hkx (by simp) fun h=>h
     have hB7:=RdB.ext hB3 (ext_rows hE6 fun _ h=>h.elim)
     exact into_keep [(4,.ptr h.length 0),(6,.ptr (h.length+1) 0),(7,.ptr (H6).length 0)] (by simp [sameT,slot,lkL]) fun j=>(hJ5 _).2 ⟨_,(H6).length,x0,x1v,v0,0,fun _=>0,.nil,.nil,.nil,.nil,0,fun _=>0,_,_,_,j,(hE7).app _,by rw [lookH_at _ (lookH_lt hz7 (by simp))]; exact hz7,by rw [lookH_at _ (lookH_lt hk7 (by simp))]; exact hk7,RdB.ext hB7 (extR_app _ _),lookH_lt hk7 (by simp),lookH_app0 _ _,.inl ⟨hne,hR2⟩,rfl⟩
    ·have hpo:=pNum_ok he
     simp only [r2,he] at hR
     have hEh3:=ext_new hEh2 hE3 (Nat.le_succ _)
     have hz3:=hE3.look hz2 (by simp) fun h=>absurd h (by omega)
     have hrg2:=hpo.1
     have hln3:ra3.length≤1048576:=by have:=hpo.2; omega
     clear hpo he
     simp -implicitDefEqProofs (maxSteps:=1000000) (disch:=omega) only [↓zzP,zzA,reduceIte,Nat.reduceLT,↓reduceIte,Nat.reduceEqDiff,↓gd,↓opP,↓qv,slot,putS,putO]
     repeat (refine ⟨by omega,?_⟩)
     refine c128 ra3 H3 _ _ dp hk3 hB3 (by omega) _ (fun e2 he v0 H4 sv4 ra4 hE4 hk4 hB4=>?_) (fun x3 ra4 he H4 sv4 hE4 hk4 hB4=>?_)
     ·have hne:=pNum_ne he
      have hR2:R = .error e2:=by rw [hR]; simp only [r3,he]
      have hEn:=ext_new hEh3 hE4 (Nat.le_succ _)
      have hzn:=hE4.look hz3 (by simp) fun h=>absurd h (by omega)
      obtain ⟨k1,d1,x1,w1,N1,F1,rfl,hr1,hN1,hF1⟩:=id hB4
      have hkx:=hk4
      simp -implicitDefEqProofs (maxSteps:=1000000) (disch:=omega) only [↓zzP,zzA,reduceIte,Nat.reduceLT,↓reduceIte,Nat.reduceEqDiff,↓gd,↓opP,↓qv,slot,putS,putO]
      repeat (refine ⟨by omega,?_⟩)
      refine c129x H4 _ k1 d1 x1 _ dp e2 hkx hne _ (fun H6 hE6=>?_)
      simp -implicitDefEqProofs (maxSteps:=1000000) (disch:=omega) only [↓zzP,zzA,zzL,zzB,Nat.reduceSub,reduceIte,reduceCtorEq,Nat.reduceLT,↓reduceIte,Nat.reduceEqDiff,Nat.reduceLeDiff,Nat.reduceAdd,↓gd,↓opP,↓qv,↓ef,↓stS,slot,putS,putO,sz,wrF,plT,bldS,stor,Value.oneCell']
      repeat (refine ⟨by omega,?_⟩)
      have hE7:=hEn.trans hE6
      have hz7:=hE6.look hzn (by simp) fun h=>h
      have hk7:=hE6.look hkx (by simp) fun h=>h
      have hB7:=RdB.ext hB4 (ext_rows hE6 fun _ h=>h.elim)
      exact into_keep [(4,.ptr h.length 0),(6,.ptr (h.length+1) 0),(7,.ptr (H6).length 0)] (by simp [sameT,slot,lkL]) fun j=>(hJ5 _).2 ⟨_,(H6).length,x0,x1v,x2,v0,fun _=>0,.nil,.nil,.nil,.nil,0,fun _=>0,_,_,_,j,(hE7).app _,by rw [lookH_at _ (lookH_lt hz7 (by simp))]; exact hz7,by rw [lookH_at _ (lookH_lt hk7 (by simp))]; exact hk7,RdB.ext hB7 (extR_app _ _),lookH_lt hk7 (by simp),lookH_app0 _ _,.inl ⟨hne,hR2⟩,rfl⟩
     ·have hpo:=pNum_ok he
      simp only [r3,he] at hR
      have hEh4:=ext_new hEh3 hE4 (Nat.le_succ _)
      have hz4:=hE4.look hz3 (by simp) fun h=>absurd h (by omega)
      have hrg3:=hpo.1
      have hln4:ra4.length≤1048576:=by have:=hpo.2; omega
      clear hpo he
      simp -implicitDefEqProofs (maxSteps:=1000000) (disch:=omega) only [↓zzP,zzA,reduceIte,Nat.reduceLT,↓reduceIte,Nat.reduceEqDiff,↓gd,↓opP,↓qv,slot,putS,putO]
      repeat (refine ⟨by omega,?_⟩)
      refine c129 ra4 H4 _ _ dp hk4 hB4 (by omega) _ (fun e2 he H5 sv5 ra5 hE5 hk5 hB5=>?_) (fun x4 ra5 he H5 sv5 hE5 hk5 hB5=>?_)
      ·have hne:=pDig_ne he
       have hR2:R = .error e2:=by rw [hR]; simp only [r4,he]
       have hEn:=ext_new hEh4 hE5 (Nat.le_succ _)
       have hzn:=hE5.look hz4 (by simp) fun h=>absurd h (by omega)
       simp -implicitDefEqProofs (maxSteps:=1000000) (disch:=omega) only [↓zzP,zzA,zzL,zzB,Nat.reduceSub,reduceIte,reduceCtorEq,Nat.reduceLT,↓reduceIte,Nat.reduceEqDiff,Nat.reduceLeDiff,Nat.reduceAdd,↓gd,↓opP,↓qv,↓ef,↓stS,slot,putS,putO,sz,wrF,plT,bldS,stor,Value.oneCell']
       repeat (refine ⟨by omega,?_⟩)
       exact into_keep [(4,.ptr h.length 0),(6,.ptr (h.length+1) 0),(7,.ptr (H5).length 0)] (by simp [sameT,slot,lkL]) fun j=>(hJ5 _).2 ⟨_,(H5).length,x0,x1v,x2,x3,fun _=>0,.nil,.nil,.nil,.nil,0,fun _=>0,_,_,_,j,(hEn).app _,by rw [lookH_at _ (lookH_lt hzn (by simp))]; exact hzn,by rw [lookH_at _ (lookH_lt hk5 (by simp))]; exact hk5,RdB.ext hB5 (extR_app _ _),lookH_lt hk5 (by simp),lookH_app0 _ _,.inl ⟨hne,hR2⟩,rfl⟩
      ·have hpo:=pDig_ok he
       simp only [r4,he] at hR
       have hEh5:=ext_new hEh4 hE5 (Nat.le_succ _)
       have hz5:=hE5.look hz4 (by simp) fun h=>absurd h (by omega)
       have hln5:ra5.length≤1048576:=by omega
       clear hpo he
       unfold dig32
       simp -implicitDefEqProofs (maxSteps:=1000000) (disch:=omega) only [↓zzP,zzA,zzL,zzB,Nat.reduceSub,reduceIte,reduceCtorEq,Nat.reduceLT,↓reduceIte,Nat.reduceEqDiff,Nat.reduceLeDiff,Nat.reduceAdd,↓gd,↓opP,↓qv,↓ef,↓stS,slot,putS,putO,sz,wrF,plT,bldS,stor,Value.oneCell']
       repeat (refine ⟨by omega,?_⟩)
       exact into_keep [(4,.ptr h.length 0),(6,.ptr (h.length+1) 0),(7,.ptr (H5).length 0)] (by simp [sameT,slot,lkL]) fun j=>(hJ5 _).2 ⟨_,(H5).length,x0,x1v,x2,x3,x4,.nil,.nil,.nil,.nil,0,fun _=>0,_,_,_,j,(hEh5).app _,by rw [lookH_at _ (lookH_lt hz5 (by simp))]; exact hz5,by rw [lookH_at _ (lookH_lt hk5 (by simp))]; exact hk5,RdB.ext hB5 (extR_app _ _),lookH_lt hk5 (by simp),lookH_app0 _ _,.inr ⟨rfl,hln5,hrg0,hrg1,hrg2,hrg3,hR⟩,rfl⟩
 intro st hst
 obtain ⟨H,km,k,f,v,s,d,s5,s6,s7,s8,key,of,sv,r,er,j,hE,hz,hk,hB,hkm,hm,hcase,rfl⟩:=(hJ5 st).1 hst
 clear hst
 have hzl:=lookH_lt hz (by simp)
 have hkl:=lookH_lt hk (by simp)
 have hml:=lookH_lt hm (by simp)
 obtain ⟨J6,hJ6⟩:∃ J:St→Prop,∀ st,J st ↔ (∃ (H:List Chunk) (km:Nat) (k f v s:Int) (d:Nat→By) (s5 s6 s7 s8:Sl) (key:Int) (of:Nat→By) (sv:SV) (r:List By) (er:Int) (j:Nat→Value),Ext (fun _=>False) h H∧lookH H h.length = Chunk.cells true [.int .i64 0,.int .i64 0,.int .i64 0,.int .i64 0,.fam 32 1 fun _=>.int .u8 0,.v (.slice none 0 0),.v (.slice none 0 0),.v (.slice none 0 0),.v (.slice none 0 0),.int .i64 0,.fam 32 1 fun _=>.int .u8 0]∧lookH H (h.length+1) = .cells true [sv,.int .i64 dp,.int .i64 er]∧RdB H sv r∧h.length+1 < km∧lookH H km = .cells true [.int .i64 k,.int .i64 f,.int .i64 v,.int .i64 s,.fam 32 1 fun i=>.int .u8 (nat (d i)),Sl.sv 1 s5,Sl.sv 1 s6,Sl.sv 73 s7,Sl.sv 74 s8,.int .i64 key,.fam 32 1 fun i=>.int .u8 (nat (of i))]∧((er ≠ 0∧R = .error er) ∨ (er = 0∧r.length≤1048576∧rng k∧rng f∧rng v∧rng s∧∃ b,rowB (fresh h.length H) (Sl.sv 1 s5) b∧R = r6 (qM D) k f v s d b r))∧st = ⟨⟨88,[(4,.ptr h.length 0),(6,.ptr (h.length+1) 0),(7,.ptr km 0)],j⟩,H,[]⟩):=⟨_,fun _=>Iff.rfl⟩
 refine codeP_seq (pl:=pl85) tabOk follows_mixed (by kernel_rfl) J6 ?_ ?_
 ·rcases hcase with ⟨hne,hR⟩ | ⟨rfl,hln,hg1,hg2,hg3,hg4,hR⟩
  ·obtain ⟨k1,d1,x1,w1,N1,F1,rfl,hr1,hN1,hF1⟩:=id hB
   have zz:(er == 0) = false:=beq_eq_false_iff_ne.2 hne
   simp -implicitDefEqProofs (maxSteps:=1000000) (disch:=omega) only [↓zzP,zzA,zzL,zzB,Nat.reduceSub,reduceIte,reduceCtorEq,Nat.reduceLT,↓reduceIte,Nat.reduceEqDiff,Nat.reduceLeDiff,↓gd,↓opP,↓qv,slot,putS,putO,ofV,fldA,rdF,Ent.row,ldS,sz,binH,binS2,binS,zz,hk]
   repeat (refine ⟨by omega,?_⟩)
   exact into_keep [(4,.ptr h.length 0),(6,.ptr (h.length+1) 0),(7,.ptr km 0)] (by simp [sameT,slot,lkL]) fun j=>(hJ6 _).2 ⟨_,km,k,f,v,s,d,s5,s6,s7,s8,key,of,_,_,_,j,hE,hz,hk,hB,hkm,hm,.inl ⟨hne,hR⟩,rfl⟩
  ·obtain ⟨k1,d1,x1,w1,N1,F1,rfl,hr1,hN1,hF1⟩:=id hB
   have zz:((0:Int) == 0) = true:=rfl
   simp -implicitDefEqProofs (maxSteps:=1000000) (disch:=omega) only [↓zzP,zzA,zzL,zzB,Nat.reduceSub,reduceIte,reduceCtorEq,Nat.reduceLT,↓reduceIte,Nat.reduceEqDiff,Nat.reduceLeDiff,↓gd,↓opP,↓qv,slot,putS,putO,ofV,fldA,rdF,Ent.row,ldS,sz,binH,binS2,binS,zz,hk]
   repeat (refine ⟨by omega,?_⟩)
   refine c130b r H k1 d1 x1 w1 N1 F1 hr1 hN1 hF1 (by omega) _ (fun e2 he=>?_) (fun c u he H1 k' hE1 hk' hrow=>?_)
   ·have hne:=tb_err he
    have hR2:R = .error e2:=by rw [hR]; simp only [r5,he]
    simp -implicitDefEqProofs (maxSteps:=1000000) (disch:=omega) only [↓zzP,zzA,reduceIte,Nat.reduceLT,↓reduceIte,Nat.reduceEqDiff,Nat.reduceAdd,↓gd,↓opP,↓qv,slot,putS,putO]
    repeat (refine ⟨by omega,?_⟩)
    refine callP_skipE r H _ k1 d1 x1 w1 N1 F1 dp 0 hk 0 e2 hne _ ?_
    obtain ⟨H2,hH2⟩:∃ H2,H2 = putH H (h.length+1) (.cells true [.osl k1 d1 x1 1 r.length,.int .i64 dp,.int .i64 e2]):=⟨_,rfl⟩
    have hE2:Ext (fun _=>False) h H2:=by rw [hH2]; exact hE.put (p:=h.length+1) _ (.inr (Nat.le_succ _))
    have hz2:lookH H2 h.length = Chunk.cells true [.int .i64 0,.int .i64 0,.int .i64 0,.int .i64 0,.fam 32 1 fun _=>.int .u8 0,.v (.slice none 0 0),.v (.slice none 0 0),.v (.slice none 0 0),.v (.slice none 0 0),.int .i64 0,.fam 32 1 fun _=>.int .u8 0]:=by rw [hH2,lookH_put_ne _ (by omega)]; exact hz
    have hk2:lookH H2 (h.length+1) = .cells true [.osl k1 d1 x1 1 r.length,.int .i64 dp,.int .i64 e2]:=by rw [hH2]; exact lookH_put_same _ hkl
    have hB2:RdB H2 (.osl k1 d1 x1 1 r.length) r:=by rw [hH2]; exact RdB.put hB hk _
    have hm2:=hm
    replace hm2:lookH H2 km = .cells true [.int .i64 k,.int .i64 f,.int .i64 v,.int .i64 s,.fam 32 1 fun i=>.int .u8 (nat (d i)),Sl.sv 1 s5,Sl.sv 1 s6,Sl.sv 73 s7,Sl.sv 74 s8,.int .i64 key,.fam 32 1 fun i=>.int .u8 (nat (of i))]:=by rw [hH2,lookH_put_ne _ (by omega)]; exact hm
    rw [← hH2]
    simp -implicitDefEqProofs (maxSteps:=1000000) (disch:=omega) only [↓zzP,zzA,zzL,zzB,Nat.reduceSub,reduceIte,reduceCtorEq,Nat.reduceLT,↓reduceIte,Nat.reduceEqDiff,Nat.reduceLeDiff,↓gd,↓opP,↓qv,↓ef,↓stS,slot,putS,putO,fldA,sz,wrF,stor,Value.oneCell',hm2,Sl.sz]
    repeat (refine ⟨by omega,?_⟩)
    exact into_keep [(4,.ptr h.length 0),(6,.ptr (h.length+1) 0),(7,.ptr km 0)] (by simp [sameT,slot,lkL]) fun j=>(hJ6 _).2 ⟨_,km,k,f,v,s,d,.nil,s6,s7,s8,key,of,_,_,_,j,hE2.put (p:=km) _ (.inr (by omega)),by rw [lookH_put_ne _ (by omega)]; exact hz2,by rw [lookH_put_ne _ (by omega)]; exact hk2,RdB.put hB2 hm2 _,hkm,lookH_put_same _ (lookH_lt hm2 (by simp)),.inl ⟨hne,hR2⟩,rfl⟩
   ·have hu:=tb_ok he
    simp only [r5,he] at hR
    have hz1:=hE1.look hz (by simp) fun h=>h
    have hk1:=hE1.look hk (by simp) fun h=>h
    have hm1:=hE1.look hm (by simp) fun h=>h
    have hr2:=hE1.look hr1 (by simp) fun h=>h
    have hkl1:=lookH_lt hk1 (by simp)
    simp -implicitDefEqProofs (maxSteps:=1000000) (disch:=omega) only [↓zzP,zzA,reduceIte,Nat.reduceLT,↓reduceIte,Nat.reduceEqDiff,Nat.reduceAdd,↓gd,↓opP,↓qv,slot,putS,putO]
    repeat (refine ⟨by omega,?_⟩)
    refine c131 r H1 _ k1 d1 x1 w1 N1 F1 dp 0 hk1 hr2 hN1 hF1 (by omega) u hu.2.1 _ fun d'=>?_
    obtain ⟨H2,hH2⟩:∃ H2,H2 = putH H1 (h.length+1) (.cells true [(.osl k1 d' (x1+u) 1 (r.length - u)),.int .i64 dp,.int .i64 0]):=⟨_,rfl⟩
    have hE2:Ext (fun _=>False) h H2:=by rw [hH2]; exact (hE.trans hE1).put (p:=h.length+1) _ (.inr (Nat.le_succ _))
    have hz2:lookH H2 h.length = Chunk.cells true [.int .i64 0,.int .i64 0,.int .i64 0,.int .i64 0,.fam 32 1 fun _=>.int .u8 0,.v (.slice none 0 0),.v (.slice none 0 0),.v (.slice none 0 0),.v (.slice none 0 0),.int .i64 0,.fam 32 1 fun _=>.int .u8 0]:=by rw [hH2,lookH_put_ne _ (by omega)]; exact hz1
    have hk2:lookH H2 (h.length+1) = .cells true [(.osl k1 d' (x1+u) 1 (r.length - u)),.int .i64 dp,.int .i64 0]:=by rw [hH2]; exact lookH_put_same _ hkl1
    have hB2:RdB H2 (.osl k1 d' (x1+u) 1 (r.length - u)) (r.drop u):=by rw [hH2]; exact RdB.put (RdB.drop hr2 hN1 hF1 u d' hu.2.1) hk1 _
    have hm2:lookH H2 km = .cells true [.int .i64 k,.int .i64 f,.int .i64 v,.int .i64 s,.fam 32 1 fun i=>.int .u8 (nat (d i)),Sl.sv 1 s5,Sl.sv 1 s6,Sl.sv 73 s7,Sl.sv 74 s8,.int .i64 key,.fam 32 1 fun i=>.int .u8 (nat (of i))]:=by rw [hH2,lookH_put_ne _ (by omega)]; exact hm1
    have hrow2:lookH H2 k' = .row true c.length 1 (bt c):=by rw [hH2,lookH_put_ne _ (by omega)]; exact hrow
    have hle:=hE.1
    rw [← hH2]
    simp -implicitDefEqProofs (maxSteps:=1000000) (disch:=omega) only [↓zzP,zzA,zzL,zzB,Nat.reduceSub,reduceIte,reduceCtorEq,Nat.reduceLT,↓reduceIte,Nat.reduceEqDiff,Nat.reduceLeDiff,↓gd,↓opP,↓qv,↓ef,↓stS,slot,putS,putO,fldA,sz,wrF,stor,hm2,Sl.sz]
    repeat (refine ⟨by omega,?_⟩)
    exact into_keep [(4,.ptr h.length 0),(6,.ptr (h.length+1) 0),(7,.ptr km 0)] (by simp [sameT,slot,lkL]) fun j=>(hJ6 _).2 ⟨_,km,k,f,v,s,d,(.at k' c.length),s6,s7,s8,key,of,_,_,_,j,hE2.put (p:=km) _ (.inr (by omega)),by rw [lookH_put_ne _ (by omega)]; exact hz2,by rw [lookH_put_ne _ (by omega)]; exact hk2,RdB.put hB2 hm2 _,hkm,lookH_put_same _ (lookH_lt hm2 (by simp)),.inr ⟨rfl,by rw [List.length_drop]; omega,hg1,hg2,hg3,hg4,c,⟨k',true,rfl,by rw [fresh_look,if_neg (by omega),lookH_put_ne _ (by omega)]; exact hrow2⟩,hR⟩,rfl⟩
 intro st hst
 obtain ⟨H,km,k,f,v,s,d,s5,s6,s7,s8,key,of,sv,r,er,j,hE,hz,hk,hB,hkm,hm,hcase,rfl⟩:=(hJ6 st).1 hst
 clear hst
 have hzl:=lookH_lt hz (by simp)
 have hkl:=lookH_lt hk (by simp)
 have hml:=lookH_lt hm (by simp)
 obtain ⟨J7,hJ7⟩:∃ J:St→Prop,∀ st,J st ↔ (∃ (H:List Chunk) (km:Nat) (k f v s:Int) (d:Nat→By) (s5 s6 s7 s8:Sl) (key:Int) (of:Nat→By) (sv:SV) (r:List By) (er:Int) (j:Nat→Value),Ext (fun _=>False) h H∧lookH H h.length = Chunk.cells true [.int .i64 0,.int .i64 0,.int .i64 0,.int .i64 0,.fam 32 1 fun _=>.int .u8 0,.v (.slice none 0 0),.v (.slice none 0 0),.v (.slice none 0 0),.v (.slice none 0 0),.int .i64 0,.fam 32 1 fun _=>.int .u8 0]∧lookH H (h.length+1) = .cells true [sv,.int .i64 dp,.int .i64 er]∧RdB H sv r∧h.length+1 < km∧lookH H km = .cells true [.int .i64 k,.int .i64 f,.int .i64 v,.int .i64 s,.fam 32 1 fun i=>.int .u8 (nat (d i)),Sl.sv 1 s5,Sl.sv 1 s6,Sl.sv 73 s7,Sl.sv 74 s8,.int .i64 key,.fam 32 1 fun i=>.int .u8 (nat (of i))]∧((er ≠ 0∧R = .error er) ∨ (er = 0∧r.length≤1048576∧rng k∧rng f∧rng v∧rng s∧∃ b bs2,rowB (fresh h.length H) (Sl.sv 1 s5) b∧rowBs (fresh h.length H) (Sl.sv 1 s6) bs2∧R = r7 (qM D) k f v s d b bs2 r))∧st = ⟨⟨88,[(4,.ptr h.length 0),(6,.ptr (h.length+1) 0),(7,.ptr km 0)],j⟩,H,[]⟩):=⟨_,fun _=>Iff.rfl⟩
 refine codeP_seq (pl:=pl85) tabOk follows_mixed (by kernel_rfl) J7 ?_ ?_
 ·rcases hcase with ⟨hne,hR⟩ | ⟨rfl,hln,hg1,hg2,hg3,hg4,b,hb,hR⟩
  ·obtain ⟨k1,d1,x1,w1,N1,F1,rfl,hr1,hN1,hF1⟩:=id hB
   simp -implicitDefEqProofs (maxSteps:=1000000) (disch:=omega) only [↓zzP,zzA,reduceIte,Nat.reduceLT,↓reduceIte,Nat.reduceEqDiff,↓gd,↓opP,↓qv,slot,putS,putO,ofV]
   repeat (refine ⟨by omega,?_⟩)
   refine c132x H _ k1 d1 x1 _ dp er hk hne _ _ _ ?_
   simp -implicitDefEqProofs (maxSteps:=1000000) (disch:=omega) only [↓zzP,zzA,zzL,zzB,Nat.reduceSub,reduceIte,reduceCtorEq,Nat.reduceLT,↓reduceIte,Nat.reduceEqDiff,Nat.reduceLeDiff,↓gd,↓opP,↓qv,↓ef,↓stS,slot,putS,putO,fldA,sz,wrF,stor,Value.oneCell',hm,Sl.sz]
   repeat (refine ⟨by omega,?_⟩)
   exact into_keep [(4,.ptr h.length 0),(6,.ptr (h.length+1) 0),(7,.ptr km 0)] (by simp [sameT,slot,lkL]) fun j=>(hJ7 _).2 ⟨_,km,k,f,v,s,d,s5,.nil,s7,s8,key,of,_,_,_,j,hE.put (p:=km) _ (.inr (by omega)),by rw [lookH_put_ne _ (by omega)]; exact hz,by rw [lookH_put_ne _ (by omega)]; exact hk,RdB.put hB hm _,hkm,lookH_put_same _ (lookH_lt hm (by simp)),.inl ⟨hne,hR⟩,rfl⟩
  ·obtain ⟨k1,d1,x1,w1,N1,F1,rfl,hr1,hN1,hF1⟩:=id hB
   simp -implicitDefEqProofs (maxSteps:=1000000) (disch:=omega) only [↓zzP,zzA,reduceIte,Nat.reduceLT,↓reduceIte,Nat.reduceEqDiff,↓gd,↓opP,↓qv,slot,putS,putO,ofV]
   repeat (refine ⟨by omega,?_⟩)
   refine c132 r H _ _ dp hk hB (by omega) 512 (by omega) _ (fun e2 he H1 sv1 ra hE1 hk1 hB1=>?_) (fun X ra he hle H1 sv1 m F2 hE1 hk1 hB1 hmm hrow hrel=>?_)
   ·have hne:=tl_err (fun b er h=>tb_err h) he
    have hR2:R = .error e2:=by rw [hR]; simp only [r6,he]
    have hEn:=ext_new hE hE1 (Nat.le_succ _)
    have hz2:=hE1.look hz (by simp) fun h=>absurd h (by omega)
    have hm2:=hE1.look hm (by simp) fun h=>absurd h (by omega)
    have hX:ExtR (fresh h.length H) (fresh h.length H1):=extR_fk hE1 hk
    have hle1:=hE.1
    simp -implicitDefEqProofs (maxSteps:=1000000) (disch:=omega) only [↓zzP,zzA,zzL,zzB,Nat.reduceSub,reduceIte,reduceCtorEq,Nat.reduceLT,↓reduceIte,Nat.reduceEqDiff,Nat.reduceLeDiff,↓gd,↓opP,↓qv,↓ef,↓stS,slot,putS,putO,fldA,sz,wrF,stor,Value.oneCell',hm2,Sl.sz]
    repeat (refine ⟨by omega,?_⟩)
    exact into_keep [(4,.ptr h.length 0),(6,.ptr (h.length+1) 0),(7,.ptr km 0)] (by simp [sameT,slot,lkL]) fun j=>(hJ7 _).2 ⟨_,km,k,f,v,s,d,s5,.nil,s7,s8,key,of,_,_,_,j,hEn.put (p:=km) _ (.inr (by omega)),by rw [lookH_put_ne _ (by omega)]; exact hz2,by rw [lookH_put_ne _ (by omega)]; exact hk1,RdB.put hB1 hm2 _,hkm,lookH_put_same _ (lookH_lt hm2 (by simp)),.inl ⟨hne,hR2⟩,rfl⟩
   ·simp only [r6,he] at hR
    have hEn:=ext_new hE hE1 (Nat.le_succ _)
    have hz2:=hE1.look hz (by simp) fun h=>absurd h (by omega)
    have hm2:=hE1.look hm (by simp) fun h=>absurd h (by omega)
    have hX:ExtR (fresh h.length H) (fresh h.length H1):=extR_fk hE1 hk
    have hle1:=hE.1
    simp -implicitDefEqProofs (maxSteps:=1000000) (disch:=omega) only [↓zzP,zzA,zzL,zzB,Nat.reduceSub,reduceIte,reduceCtorEq,Nat.reduceLT,↓reduceIte,Nat.reduceEqDiff,Nat.reduceLeDiff,↓gd,↓opP,↓qv,↓ef,↓stS,slot,putS,putO,fldA,sz,wrF,stor,hm2,Sl.sz]
    repeat (refine ⟨by omega,?_⟩)
    exact into_keep [(4,.ptr h.length 0),(6,.ptr (h.length+1) 0),(7,.ptr km 0)] (by simp [sameT,slot,lkL]) fun j=>(hJ7 _).2 ⟨_,km,k,f,v,s,d,s5,(.at m X.length),s7,s8,key,of,_,_,_,j,hEn.put (p:=km) _ (.inr (by omega)),by rw [lookH_put_ne _ (by omega)]; exact hz2,by rw [lookH_put_ne _ (by omega)]; exact hk1,RdB.put hB1 hm2 _,hkm,lookH_put_same _ (lookH_lt hm2 (by simp)),.inr ⟨rfl,by omega,hg1,hg2,hg3,hg4,b,X,hb.extR (extT hX (extR_cells _ hm2)),⟨m,true,F2,rfl,(by rw [fresh_look,if_neg (by omega),lookH_put_ne _ (by omega)]; exact hrow),fun i hi=>by rw [show X.getD i [] = X[i] from by simp [hi]]; exact RelBs.mono _ _ _ _ (extT (extR_f5 hle1) (extR_cells _ hm2)) (hrel i hi)⟩,hR⟩,rfl⟩
 intro st hst
 obtain ⟨H,km,k,f,v,s,d,s5,s6,s7,s8,key,of,sv,r,er,j,hE,hz,hk,hB,hkm,hm,hcase,rfl⟩:=(hJ7 st).1 hst
 clear hst
 have hzl:=lookH_lt hz (by simp)
 have hkl:=lookH_lt hk (by simp)
 have hml:=lookH_lt hm (by simp)
 obtain ⟨J8,hJ8⟩:∃ J:St→Prop,∀ st,J st ↔ (∃ (H:List Chunk) (km:Nat) (k f v s:Int) (d:Nat→By) (s5 s6 s7 s8:Sl) (key:Int) (of:Nat→By) (sv:SV) (r:List By) (er:Int) (j:Nat→Value),Ext (fun _=>False) h H∧lookH H h.length = Chunk.cells true [.int .i64 0,.int .i64 0,.int .i64 0,.int .i64 0,.fam 32 1 fun _=>.int .u8 0,.v (.slice none 0 0),.v (.slice none 0 0),.v (.slice none 0 0),.v (.slice none 0 0),.int .i64 0,.fam 32 1 fun _=>.int .u8 0]∧lookH H (h.length+1) = .cells true [sv,.int .i64 dp,.int .i64 er]∧RdB H sv r∧h.length+1 < km∧lookH H km = .cells true [.int .i64 k,.int .i64 f,.int .i64 v,.int .i64 s,.fam 32 1 fun i=>.int .u8 (nat (d i)),Sl.sv 1 s5,Sl.sv 1 s6,Sl.sv 73 s7,Sl.sv 74 s8,.int .i64 key,.fam 32 1 fun i=>.int .u8 (nat (of i))]∧((er ≠ 0∧R = .error er) ∨ (er = 0∧r.length≤1048576∧rng k∧rng f∧rng v∧rng s∧∃ b bs2,rowB (fresh h.length H) (Sl.sv 1 s5) b∧rowBs (fresh h.length H) (Sl.sv 1 s6) bs2∧∃ p m7 f7,s7 = .at m7 p.length∧lookH (fresh h.length H) m7 = .row true p.length 73 (fun i=>.agg (f7 i))∧MsgsH (fresh h.length H) p f7∧wfL p∧R = r8 (qM D) k f v s d b bs2 p r))∧st = ⟨⟨88,[(4,.ptr h.length 0),(6,.ptr (h.length+1) 0),(7,.ptr km 0)],j⟩,H,[]⟩):=⟨_,fun _=>Iff.rfl⟩
 refine codeP_seq (pl:=pl85) tabOk follows_mixed (by kernel_rfl) J8 ?_ ?_
 ·rcases hcase with ⟨hne,hR⟩ | ⟨rfl,hln,hg1,hg2,hg3,hg4,b,bs2,hb,hbs,hR⟩
  ·obtain ⟨k1,d1,x1,w1,N1,F1,rfl,hr1,hN1,hF1⟩:=id hB
   simp -implicitDefEqProofs (maxSteps:=1000000) (disch:=omega) only [↓zzP,zzA,reduceIte,Nat.reduceLT,↓reduceIte,Nat.reduceEqDiff,↓gd,↓opP,↓qv,slot,putS,putO,ofV]
   repeat (refine ⟨by omega,?_⟩)
   refine c133x H _ k1 d1 x1 _ dp er hk hne _ _ _ ?_
   simp -implicitDefEqProofs (maxSteps:=1000000) (disch:=omega) only [↓zzP,zzA,zzL,zzB,Nat.reduceSub,reduceIte,reduceCtorEq,Nat.reduceLT,↓reduceIte,Nat.reduceEqDiff,Nat.reduceLeDiff,↓gd,↓opP,↓qv,↓ef,↓stS,slot,putS,putO,fldA,sz,wrF,stor,Value.oneCell',hm,Sl.sz]
   repeat (refine ⟨by omega,?_⟩)
   exact into_keep [(4,.ptr h.length 0),(6,.ptr (h.length+1) 0),(7,.ptr km 0)] (by simp [sameT,slot,lkL]) fun j=>(hJ8 _).2 ⟨_,km,k,f,v,s,d,s5,s6,.nil,s8,key,of,_,_,_,j,hE.put (p:=km) _ (.inr (by omega)),by rw [lookH_put_ne _ (by omega)]; exact hz,by rw [lookH_put_ne _ (by omega)]; exact hk,RdB.put hB hm _,hkm,lookH_put_same _ (lookH_lt hm (by simp)),.inl ⟨hne,hR⟩,rfl⟩
  ·obtain ⟨k1,d1,x1,w1,N1,F1,rfl,hr1,hN1,hF1⟩:=id hB
   simp -implicitDefEqProofs (maxSteps:=1000000) (disch:=omega) only [↓zzP,zzA,reduceIte,Nat.reduceLT,↓reduceIte,Nat.reduceEqDiff,↓gd,↓opP,↓qv,slot,putS,putO,ofV]
   repeat (refine ⟨by omega,?_⟩)
   have hqx:QAt 134 (h.length+1) H RelM ErrM (qM D):=hq134 H _ k1 d1 x1 _ 0 (by rw [← hdp]; exact hk)
   refine c133 r H _ _ dp hk hB (by omega) (qM D) hqx (qM_ne D) 64 (by omega) _ (fun e2 he H1 sv1 ra hE1 hk1 hB1=>?_) (fun X ra he hle H1 sv1 m F2 hE1 hk1 hB1 hmm hrow hrel=>?_)
   ·have hne:=tl_err (qM_ne D) he
    have hR2:R = .error e2:=by rw [hR]; simp only [r7,he]
    have hEn:=ext_new hE hE1 (Nat.le_succ _)
    have hz2:=hE1.look hz (by simp) fun h=>absurd h (by omega)
    have hm2:=hE1.look hm (by simp) fun h=>absurd h (by omega)
    have hX:ExtR (fresh h.length H) (fresh h.length H1):=extR_fk hE1 hk
    have hle1:=hE.1
    simp -implicitDefEqProofs (maxSteps:=1000000) (disch:=omega) only [↓zzP,zzA,zzL,zzB,Nat.reduceSub,reduceIte,reduceCtorEq,Nat.reduceLT,↓reduceIte,Nat.reduceEqDiff,Nat.reduceLeDiff,↓gd,↓opP,↓qv,↓ef,↓stS,slot,putS,putO,fldA,sz,wrF,stor,Value.oneCell',hm2,Sl.sz]
    repeat (refine ⟨by omega,?_⟩)
    exact into_keep [(4,.ptr h.length 0),(6,.ptr (h.length+1) 0),(7,.ptr km 0)] (by simp [sameT,slot,lkL]) fun j=>(hJ8 _).2 ⟨_,km,k,f,v,s,d,s5,s6,.nil,s8,key,of,_,_,_,j,hEn.put (p:=km) _ (.inr (by omega)),by rw [lookH_put_ne _ (by omega)]; exact hz2,by rw [lookH_put_ne _ (by omega)]; exact hk1,RdB.put hB1 hm2 _,hkm,lookH_put_same _ (lookH_lt hm2 (by simp)),.inl ⟨hne,hR2⟩,rfl⟩
   ·simp only [r7,he] at hR
    have hEn:=ext_new hE hE1 (Nat.le_succ _)
    have hz2:=hE1.look hz (by simp) fun h=>absurd h (by omega)
    have hm2:=hE1.look hm (by simp) fun h=>absurd h (by omega)
    have hX:ExtR (fresh h.length H) (fresh h.length H1):=extR_fk hE1 hk
    have hle1:=hE.1
    simp -implicitDefEqProofs (maxSteps:=1000000) (disch:=omega) only [↓zzP,zzA,zzL,zzB,Nat.reduceSub,reduceIte,reduceCtorEq,Nat.reduceLT,↓reduceIte,Nat.reduceEqDiff,Nat.reduceLeDiff,↓gd,↓opP,↓qv,↓ef,↓stS,slot,putS,putO,fldA,sz,wrF,stor,hm2,Sl.sz]
    repeat (refine ⟨by omega,?_⟩)
    have hXm:MsgsH (fresh H.length H1) X F2:=MsgsH.mk fun i hi=>by
     obtain ⟨l,e1,hm3,_⟩:=hrel i hi
     cases e1
     exact hm3
    have hXw:wfL X:=wfL.mk fun i hi=>by
     obtain ⟨l,e1,_,hw1⟩:=hrel i hi
     exact hw1
    exact into_keep [(4,.ptr h.length 0),(6,.ptr (h.length+1) 0),(7,.ptr km 0)] (by simp [sameT,slot,lkL]) fun j=>(hJ8 _).2 ⟨_,km,k,f,v,s,d,s5,s6,(.at m X.length),s8,key,of,_,_,_,j,hEn.put (p:=km) _ (.inr (by omega)),by rw [lookH_put_ne _ (by omega)]; exact hz2,by rw [lookH_put_ne _ (by omega)]; exact hk1,RdB.put hB1 hm2 _,hkm,lookH_put_same _ (lookH_lt hm2 (by simp)),.inr ⟨rfl,by omega,hg1,hg2,hg3,hg4,b,bs2,hb.extR (extT hX (extR_cells _ hm2)),hbs.extR (extT hX (extR_cells _ hm2)),X,m,F2,rfl,(by rw [fresh_look,if_neg (by omega),lookH_put_ne _ (by omega)]; exact hrow),MsgsH.extR (extT (extR_f5 hle1) (extR_cells _ hm2)) hXm,hXw,hR⟩,rfl⟩
 intro st hst
 obtain ⟨H,km,k,f,v,s,d,s5,s6,s7,s8,key,of,sv,r,er,j,hE,hz,hk,hB,hkm,hm,hcase,rfl⟩:=(hJ8 st).1 hst
 clear hst
 have hzl:=lookH_lt hz (by simp)
 have hkl:=lookH_lt hk (by simp)
 have hml:=lookH_lt hm (by simp)
 obtain ⟨J9,hJ9⟩:∃ J:St→Prop,∀ st,J st ↔ (∃ (H:List Chunk) (km:Nat) (k f v s:Int) (d:Nat→By) (s5 s6 s7 s8:Sl) (key:Int) (of:Nat→By) (sv:SV) (r:List By) (er:Int) (j:Nat→Value),Ext (fun _=>False) h H∧lookH H h.length = Chunk.cells true [.int .i64 0,.int .i64 0,.int .i64 0,.int .i64 0,.fam 32 1 fun _=>.int .u8 0,.v (.slice none 0 0),.v (.slice none 0 0),.v (.slice none 0 0),.v (.slice none 0 0),.int .i64 0,.fam 32 1 fun _=>.int .u8 0]∧lookH H (h.length+1) = .cells true [sv,.int .i64 dp,.int .i64 er]∧RdB H sv r∧h.length+1 < km∧lookH H km = .cells true [.int .i64 k,.int .i64 f,.int .i64 v,.int .i64 s,.fam 32 1 fun i=>.int .u8 (nat (d i)),Sl.sv 1 s5,Sl.sv 1 s6,Sl.sv 73 s7,Sl.sv 74 s8,.int .i64 key,.fam 32 1 fun i=>.int .u8 (nat (of i))]∧((er ≠ 0∧R = .error er) ∨ (er = 0∧r.length≤1048576∧rng k∧rng f∧rng v∧rng s∧∃ b bs2,rowB (fresh h.length H) (Sl.sv 1 s5) b∧rowBs (fresh h.length H) (Sl.sv 1 s6) bs2∧∃ p m7 f7,s7 = .at m7 p.length∧lookH (fresh h.length H) m7 = .row true p.length 73 (fun i=>.agg (f7 i))∧MsgsH (fresh h.length H) p f7∧wfL p∧∃ q m8 f8,s8 = .at m8 q.length∧lookH (fresh h.length H) m8 = .row true q.length 74 (fun i=>.agg (f8 i))∧PrepsH (fresh h.length H) q f8∧wfQ q∧R = r9 k f v s d b bs2 p q r))∧st = ⟨⟨88,[(4,.ptr h.length 0),(6,.ptr (h.length+1) 0),(7,.ptr km 0)],j⟩,H,[]⟩):=⟨_,fun _=>Iff.rfl⟩
 refine codeP_seq (pl:=pl85) tabOk follows_mixed (by kernel_rfl) J9 ?_ ?_
 ·rcases hcase with ⟨hne,hR⟩ | ⟨rfl,hln,hg1,hg2,hg3,hg4,b,bs2,hb,hbs,p,m7,f7,hp1,hp2,hp3,hp4,hR⟩
  ·obtain ⟨k1,d1,x1,w1,N1,F1,rfl,hr1,hN1,hF1⟩:=id hB
   simp -implicitDefEqProofs (maxSteps:=1000000) (disch:=omega) only [↓zzP,zzA,reduceIte,Nat.reduceLT,↓reduceIte,Nat.reduceEqDiff,↓gd,↓opP,↓qv,slot,putS,putO,ofV]
   repeat (refine ⟨by omega,?_⟩)
   refine c135x H _ k1 d1 x1 _ dp er hk hne _ _ _ ?_
   simp -implicitDefEqProofs (maxSteps:=1000000) (disch:=omega) only [↓zzP,zzA,zzL,zzB,Nat.reduceSub,reduceIte,reduceCtorEq,Nat.reduceLT,↓reduceIte,Nat.reduceEqDiff,Nat.reduceLeDiff,↓gd,↓opP,↓qv,↓ef,↓stS,slot,putS,putO,fldA,sz,wrF,stor,Value.oneCell',hm,Sl.sz]
   repeat (refine ⟨by omega,?_⟩)
   exact into_keep [(4,.ptr h.length 0),(6,.ptr (h.length+1) 0),(7,.ptr km 0)] (by simp [sameT,slot,lkL]) fun j=>(hJ9 _).2 ⟨_,km,k,f,v,s,d,s5,s6,s7,.nil,key,of,_,_,_,j,hE.put (p:=km) _ (.inr (by omega)),by rw [lookH_put_ne _ (by omega)]; exact hz,by rw [lookH_put_ne _ (by omega)]; exact hk,RdB.put hB hm _,hkm,lookH_put_same _ (lookH_lt hm (by simp)),.inl ⟨hne,hR⟩,rfl⟩
  ·obtain ⟨k1,d1,x1,w1,N1,F1,rfl,hr1,hN1,hF1⟩:=id hB
   simp -implicitDefEqProofs (maxSteps:=1000000) (disch:=omega) only [↓zzP,zzA,reduceIte,Nat.reduceLT,↓reduceIte,Nat.reduceEqDiff,↓gd,↓opP,↓qv,slot,putS,putO,ofV]
   repeat (refine ⟨by omega,?_⟩)
   have hqx:QAt 136 (h.length+1) H RelP ErrP (qPf (qM D)):=c136 D H _ hkl fun H' hE'=>hq134 H' _ k1 d1 x1 _ 0 (by rw [← hdp]; exact hE'.look hk (by simp) fun h=>h)
   refine c135 r H _ _ dp hk hB (by omega) (qPf (qM D)) hqx (qPf_ne (qM_ne D)) 64 (by omega) _ (fun e2 he H1 sv1 ra hE1 hk1 hB1=>?_) (fun X ra he hle H1 sv1 m F2 hE1 hk1 hB1 hmm hrow hrel=>?_)
   ·have hne:=tl_err (qPf_ne (qM_ne D)) he
    have hR2:R = .error e2:=by rw [hR]; simp only [r8,he]
    have hEn:=ext_new hE hE1 (Nat.le_succ _)
    have hz2:=hE1.look hz (by simp) fun h=>absurd h (by omega)
    have hm2:=hE1.look hm (by simp) fun h=>absurd h (by omega)
    have hX:ExtR (fresh h.length H) (fresh h.length H1):=extR_fk hE1 hk
    have hle1:=hE.1
    simp -implicitDefEqProofs (maxSteps:=1000000) (disch:=omega) only [↓zzP,zzA,zzL,zzB,Nat.reduceSub,reduceIte,reduceCtorEq,Nat.reduceLT,↓reduceIte,Nat.reduceEqDiff,Nat.reduceLeDiff,↓gd,↓opP,↓qv,↓ef,↓stS,slot,putS,putO,fldA,sz,wrF,stor,Value.oneCell',hm2,Sl.sz]
    repeat (refine ⟨by omega,?_⟩)
    exact into_keep [(4,.ptr h.length 0),(6,.ptr (h.length+1) 0),(7,.ptr km 0)] (by simp [sameT,slot,lkL]) fun j=>(hJ9 _).2 ⟨_,km,k,f,v,s,d,s5,s6,s7,.nil,key,of,_,_,_,j,hEn.put (p:=km) _ (.inr (by omega)),by rw [lookH_put_ne _ (by omega)]; exact hz2,by rw [lookH_put_ne _ (by omega)]; exact hk1,RdB.put hB1 hm2 _,hkm,lookH_put_same _ (lookH_lt hm2 (by simp)),.inl ⟨hne,hR2⟩,rfl⟩
   ·simp only [r8,he] at hR
    have hEn:=ext_new hE hE1 (Nat.le_succ _)
    have hz2:=hE1.look hz (by simp) fun h=>absurd h (by omega)
    have hm2:=hE1.look hm (by simp) fun h=>absurd h (by omega)
    have hX:ExtR (fresh h.length H) (fresh h.length H1):=extR_fk hE1 hk
    have hle1:=hE.1
    simp -implicitDefEqProofs (maxSteps:=1000000) (disch:=omega) only [↓zzP,zzA,zzL,zzB,Nat.reduceSub,reduceIte,reduceCtorEq,Nat.reduceLT,↓reduceIte,Nat.reduceEqDiff,Nat.reduceLeDiff,↓gd,↓opP,↓qv,↓ef,↓stS,slot,putS,putO,fldA,sz,wrF,stor,hm2,Sl.sz]
    repeat (refine ⟨by omega,?_⟩)
    have hXm:PrepsH (fresh H.length H1) X F2:=PrepsH.mk fun i hi=>by
     obtain ⟨l,e1,hm3,_⟩:=hrel i hi
     cases e1
     exact hm3
    have hXw:wfQ X:=wfQ.mk fun i hi=>by
     obtain ⟨l,e1,_,hw1⟩:=hrel i hi
     exact hw1
    exact into_keep [(4,.ptr h.length 0),(6,.ptr (h.length+1) 0),(7,.ptr km 0)] (by simp [sameT,slot,lkL]) fun j=>(hJ9 _).2 ⟨_,km,k,f,v,s,d,s5,s6,s7,(.at m X.length),key,of,_,_,_,j,hEn.put (p:=km) _ (.inr (by omega)),by rw [lookH_put_ne _ (by omega)]; exact hz2,by rw [lookH_put_ne _ (by omega)]; exact hk1,RdB.put hB1 hm2 _,hkm,lookH_put_same _ (lookH_lt hm2 (by simp)),.inr ⟨rfl,by omega,hg1,hg2,hg3,hg4,b,bs2,hb.extR (extT hX (extR_cells _ hm2)),hbs.extR (extT hX (extR_cells _ hm2)),p,m7,f7,hp1,(extT hX (extR_cells _ hm2)) _ _ _ _ _ hp2,MsgsH.extR (extT hX (extR_cells _ hm2)) hp3,hp4,X,m,F2,rfl,(by rw [fresh_look,if_neg (by omega),lookH_put_ne _ (by omega)]; exact hrow),PrepsH.extR (extT (extR_f5 hle1) (extR_cells _ hm2)) hXm,hXw,hR⟩,rfl⟩
 intro st hst
 obtain ⟨H,km,k,f,v,s,d,s5,s6,s7,s8,key,of,sv,r,er,j,hE,hz,hk,hB,hkm,hm,hcase,rfl⟩:=(hJ9 st).1 hst
 clear hst
 have hzl:=lookH_lt hz (by simp)
 have hkl:=lookH_lt hk (by simp)
 have hml:=lookH_lt hm (by simp)
 obtain ⟨J10,hJ10⟩:∃ J:St→Prop,∀ st,J st ↔ (∃ (H:List Chunk) (km:Nat) (k f v s:Int) (d:Nat→By) (s5 s6 s7 s8:Sl) (key:Int) (of:Nat→By) (sv:SV) (r:List By) (er:Int) (j:Nat→Value),Ext (fun _=>False) h H∧lookH H h.length = Chunk.cells true [.int .i64 0,.int .i64 0,.int .i64 0,.int .i64 0,.fam 32 1 fun _=>.int .u8 0,.v (.slice none 0 0),.v (.slice none 0 0),.v (.slice none 0 0),.v (.slice none 0 0),.int .i64 0,.fam 32 1 fun _=>.int .u8 0]∧lookH H (h.length+1) = .cells true [sv,.int .i64 dp,.int .i64 er]∧RdB H sv r∧h.length+1 < km∧lookH H km = .cells true [.int .i64 k,.int .i64 f,.int .i64 v,.int .i64 s,.fam 32 1 fun i=>.int .u8 (nat (d i)),Sl.sv 1 s5,Sl.sv 1 s6,Sl.sv 73 s7,Sl.sv 74 s8,.int .i64 key,.fam 32 1 fun i=>.int .u8 (nat (of i))]∧((er ≠ 0∧R = .error er) ∨ (er = 0∧r.length≤1048576∧rng k∧rng f∧rng v∧rng s∧rng key∧∃ b bs2,rowB (fresh h.length H) (Sl.sv 1 s5) b∧rowBs (fresh h.length H) (Sl.sv 1 s6) bs2∧∃ p m7 f7,s7 = .at m7 p.length∧lookH (fresh h.length H) m7 = .row true p.length 73 (fun i=>.agg (f7 i))∧MsgsH (fresh h.length H) p f7∧wfL p∧∃ q m8 f8,s8 = .at m8 q.length∧lookH (fresh h.length H) m8 = .row true q.length 74 (fun i=>.agg (f8 i))∧PrepsH (fresh h.length H) q f8∧wfQ q∧R = r10 k f v s d b bs2 p q key r))∧st = ⟨⟨88,[(4,.ptr h.length 0),(6,.ptr (h.length+1) 0),(7,.ptr km 0)],j⟩,H,[]⟩):=⟨_,fun _=>Iff.rfl⟩
 refine codeP_seq (pl:=pl85) tabOk follows_mixed (by kernel_rfl) J10 ?_ ?_
 ·rcases hcase with ⟨hne,hR⟩ | ⟨rfl,hln,hg1,hg2,hg3,hg4,b,bs2,hb,hbs,p,m7,f7,hp1,hp2,hp3,hp4,q,m8,f8,hq1,hq2,hq3,hq4,hR⟩
  ·obtain ⟨k1,d1,x1,w1,N1,F1,rfl,hr1,hN1,hF1⟩:=id hB
   simp -implicitDefEqProofs (maxSteps:=1000000) (disch:=omega) only [↓zzP,zzA,reduceIte,Nat.reduceLT,↓reduceIte,Nat.reduceEqDiff,↓gd,↓opP,↓qv,slot,putS,putO]
   repeat (refine ⟨by omega,?_⟩)
   refine c127x H _ k1 d1 x1 _ dp er hk hne _ ?_
   simp -implicitDefEqProofs (maxSteps:=1000000) (disch:=omega) only [↓zzP,zzA,zzL,zzB,Nat.reduceSub,reduceIte,reduceCtorEq,Nat.reduceLT,↓reduceIte,Nat.reduceEqDiff,Nat.reduceLeDiff,↓gd,↓opP,↓qv,↓ef,↓stS,slot,putS,putO,fldA,sz,wrF,stor,hm,Sl.sz]
   repeat (refine ⟨by omega,?_⟩)
   exact into_keep [(4,.ptr h.length 0),(6,.ptr (h.length+1) 0),(7,.ptr km 0)] (by simp [sameT,slot,lkL]) fun j=>(hJ10 _).2 ⟨_,km,k,f,v,s,d,s5,s6,s7,s8,0,of,_,_,_,j,hE.put (p:=km) _ (.inr (by omega)),by rw [lookH_put_ne _ (by omega)]; exact hz,by rw [lookH_put_ne _ (by omega)]; exact hk,RdB.put hB hm _,hkm,lookH_put_same _ (lookH_lt hm (by simp)),.inl ⟨hne,hR⟩,rfl⟩
  ·simp -implicitDefEqProofs (maxSteps:=1000000) (disch:=omega) only [↓zzP,zzA,reduceIte,Nat.reduceLT,↓reduceIte,Nat.reduceEqDiff,↓gd,↓opP,↓qv,slot,putS,putO]
   repeat (refine ⟨by omega,?_⟩)
   refine c127 r H _ _ dp hk hB (by omega) _ (fun e2 he v0 H1 sv1 ra hE1 hk1 hB1=>?_) (fun x0 ra he H1 sv1 hE1 hk1 hB1=>?_)
   ·have hne:=pInt_ne he
    have hR2:R = .error e2:=by rw [hR]; simp only [r9,he]
    have hEn:=ext_new hE hE1 (Nat.le_succ _)
    have hz2:=hE1.look hz (by simp) fun h=>absurd h (by omega)
    have hm2:=hE1.look hm (by simp) fun h=>absurd h (by omega)
    have hX:ExtR (fresh h.length H) (fresh h.length H1):=extR_fk hE1 hk
    have hle1:=hE.1
    simp -implicitDefEqProofs (maxSteps:=1000000) (disch:=omega) only [↓zzP,zzA,zzL,zzB,Nat.reduceSub,reduceIte,reduceCtorEq,Nat.reduceLT,↓reduceIte,Nat.reduceEqDiff,Nat.reduceLeDiff,↓gd,↓opP,↓qv,↓ef,↓stS,slot,putS,putO,fldA,sz,wrF,stor,hm2,Sl.sz]
    repeat (refine ⟨by omega,?_⟩)
    exact into_keep [(4,.ptr h.length 0),(6,.ptr (h.length+1) 0),(7,.ptr km 0)] (by simp [sameT,slot,lkL]) fun j=>(hJ10 _).2 ⟨_,km,k,f,v,s,d,s5,s6,s7,s8,v0,of,_,_,_,j,hEn.put (p:=km) _ (.inr (by omega)),by rw [lookH_put_ne _ (by omega)]; exact hz2,by rw [lookH_put_ne _ (by omega)]; exact hk1,RdB.put hB1 hm2 _,hkm,lookH_put_same _ (lookH_lt hm2 (by simp)),.inl ⟨hne,hR2⟩,rfl⟩
   ·simp only [r9,he] at hR
    have hpo:=pInt_ok he
    have hEn:=ext_new hE hE1 (Nat.le_succ _)
    have hz2:=hE1.look hz (by simp) fun h=>absurd h (by omega)
    have hm2:=hE1.look hm (by simp) fun h=>absurd h (by omega)
    have hX:ExtR (fresh h.length H) (fresh h.length H1):=extR_fk hE1 hk
    have hle1:=hE.1
    simp -implicitDefEqProofs (maxSteps:=1000000) (disch:=omega) only [↓zzP,zzA,zzL,zzB,Nat.reduceSub,reduceIte,reduceCtorEq,Nat.reduceLT,↓reduceIte,Nat.reduceEqDiff,Nat.reduceLeDiff,↓gd,↓opP,↓qv,↓ef,↓stS,slot,putS,putO,fldA,sz,wrF,stor,hm2,Sl.sz]
    repeat (refine ⟨by omega,?_⟩)
    exact into_keep [(4,.ptr h.length 0),(6,.ptr (h.length+1) 0),(7,.ptr km 0)] (by simp [sameT,slot,lkL]) fun j=>(hJ10 _).2 ⟨_,km,k,f,v,s,d,s5,s6,s7,s8,x0,of,_,_,_,j,hEn.put (p:=km) _ (.inr (by omega)),by rw [lookH_put_ne _ (by omega)]; exact hz2,by rw [lookH_put_ne _ (by omega)]; exact hk1,RdB.put hB1 hm2 _,hkm,lookH_put_same _ (lookH_lt hm2 (by simp)),.inr ⟨rfl,by have:=hpo.2; omega,hg1,hg2,hg3,hg4,hpo.1,b,bs2,hb.extR (extT hX (extR_cells _ hm2)),hbs.extR (extT hX (extR_cells _ hm2)),p,m7,f7,hp1,(extT hX (extR_cells _ hm2)) _ _ _ _ _ hp2,MsgsH.extR (extT hX (extR_cells _ hm2)) hp3,hp4,q,m8,f8,hq1,(extT hX (extR_cells _ hm2)) _ _ _ _ _ hq2,PrepsH.extR (extT hX (extR_cells _ hm2)) hq3,hq4,hR⟩,rfl⟩
 intro st hst
 obtain ⟨H,km,k,f,v,s,d,s5,s6,s7,s8,key,of,sv,r,er,j,hE,hz,hk,hB,hkm,hm,hcase,rfl⟩:=(hJ10 st).1 hst
 clear hst
 have hzl:=lookH_lt hz (by simp)
 have hkl:=lookH_lt hk (by simp)
 have hml:=lookH_lt hm (by simp)
 obtain ⟨J11,hJ11⟩:∃ J:St→Prop,∀ st,J st ↔ (∃ (H:List Chunk) (km:Nat) (k f v s:Int) (d:Nat→By) (s5 s6 s7 s8:Sl) (key:Int) (of:Nat→By) (sv:SV) (r:List By) (er:Int) (j:Nat→Value),Ext (fun _=>False) h H∧lookH H h.length = Chunk.cells true [.int .i64 0,.int .i64 0,.int .i64 0,.int .i64 0,.fam 32 1 fun _=>.int .u8 0,.v (.slice none 0 0),.v (.slice none 0 0),.v (.slice none 0 0),.v (.slice none 0 0),.int .i64 0,.fam 32 1 fun _=>.int .u8 0]∧lookH H (h.length+1) = .cells true [sv,.int .i64 dp,.int .i64 er]∧RdB H sv r∧h.length+1 < km∧lookH H km = .cells true [.int .i64 k,.int .i64 f,.int .i64 v,.int .i64 s,.fam 32 1 fun i=>.int .u8 (nat (d i)),Sl.sv 1 s5,Sl.sv 1 s6,Sl.sv 73 s7,Sl.sv 74 s8,.int .i64 key,.fam 32 1 fun i=>.int .u8 (nat (of i))]∧((er ≠ 0∧R = .error er) ∨ (er = 0∧r.length≤1048576∧rng k∧rng f∧rng v∧rng s∧rng key∧∃ b bs2,rowB (fresh h.length H) (Sl.sv 1 s5) b∧rowBs (fresh h.length H) (Sl.sv 1 s6) bs2∧∃ p m7 f7,s7 = .at m7 p.length∧lookH (fresh h.length H) m7 = .row true p.length 73 (fun i=>.agg (f7 i))∧MsgsH (fresh h.length H) p f7∧wfL p∧∃ q m8 f8,s8 = .at m8 q.length∧lookH (fresh h.length H) m8 = .row true q.length 74 (fun i=>.agg (f8 i))∧PrepsH (fresh h.length H) q f8∧wfQ q∧R = r11 k f v s d b bs2 p q key of r))∧st = ⟨⟨88,[(4,.ptr h.length 0),(6,.ptr (h.length+1) 0),(7,.ptr km 0)],j⟩,H,[]⟩):=⟨_,fun _=>Iff.rfl⟩
 refine codeP_seq (pl:=pl85) tabOk follows_mixed (by kernel_rfl) J11 ?_ ?_
 ·rcases hcase with ⟨hne,hR⟩ | ⟨rfl,hln,hg1,hg2,hg3,hg4,hg5,b,bs2,hb,hbs,p,m7,f7,hp1,hp2,hp3,hp4,q,m8,f8,hq1,hq2,hq3,hq4,hR⟩
  ·obtain ⟨k1,d1,x1,w1,N1,F1,rfl,hr1,hN1,hF1⟩:=id hB
   simp -implicitDefEqProofs (maxSteps:=1000000) (disch:=omega) only [↓zzP,zzA,reduceIte,Nat.reduceLT,↓reduceIte,Nat.reduceEqDiff,↓gd,↓opP,↓qv,slot,putS,putO]
   repeat (refine ⟨by omega,?_⟩)
   refine c129x H _ k1 d1 x1 _ dp er hk hne _ (fun H1 hE1=>?_)
   have hEn:=hE.trans hE1
   have hz2:=hE1.look hz (by simp) fun h=>h
   have hk1:=hE1.look hk (by simp) fun h=>h
   have hm2:=hE1.look hm (by simp) fun h=>h
   have hB1:=RdB.ext hB (ext_rows hE1 fun _ h=>h.elim)
   simp -implicitDefEqProofs (maxSteps:=1000000) (disch:=omega) only [↓zzP,zzA,zzL,zzB,Nat.reduceSub,reduceIte,reduceCtorEq,Nat.reduceLT,↓reduceIte,Nat.reduceEqDiff,Nat.reduceLeDiff,Nat.reduceAdd,↓gd,↓opP,↓qv,↓ef,↓stS,slot,putS,putO,fldA,sz,wrF,stor,hm2,Sl.sz]
   repeat (refine ⟨by omega,?_⟩)
   exact into_keep [(4,.ptr h.length 0),(6,.ptr (h.length+1) 0),(7,.ptr km 0)] (by simp [sameT,slot,lkL]) fun j=>(hJ11 _).2 ⟨_,km,k,f,v,s,d,s5,s6,s7,s8,key,fun _=>0,_,_,_,j,hEn.put (p:=km) _ (.inr (by omega)),by rw [lookH_put_ne _ (by omega)]; exact hz2,by rw [lookH_put_ne _ (by omega)]; exact hk1,RdB.put hB1 hm2 _,hkm,lookH_put_same _ (lookH_lt hm2 (by simp)),.inl ⟨hne,hR⟩,rfl⟩
  ·simp -implicitDefEqProofs (maxSteps:=1000000) (disch:=omega) only [↓zzP,zzA,reduceIte,Nat.reduceLT,↓reduceIte,Nat.reduceEqDiff,↓gd,↓opP,↓qv,slot,putS,putO]
   repeat (refine ⟨by omega,?_⟩)
   refine c129 r H _ _ dp hk hB (by omega) _ (fun e2 he H1 sv1 ra hE1 hk1 hB1=>?_) (fun x0 ra he H1 sv1 hE1 hk1 hB1=>?_)
   ·have hne:=pDig_ne he
    have hR2:R = .error e2:=by rw [hR]; simp only [r10,he]
    have hEn:=ext_new hE hE1 (Nat.le_succ _)
    have hz2:=hE1.look hz (by simp) fun h=>absurd h (by omega)
    have hm2:=hE1.look hm (by simp) fun h=>absurd h (by omega)
    have hX:ExtR (fresh h.length H) (fresh h.length H1):=extR_fk hE1 hk
    have hle1:=hE.1
    simp -implicitDefEqProofs (maxSteps:=1000000) (disch:=omega) only [↓zzP,zzA,zzL,zzB,Nat.reduceSub,reduceIte,reduceCtorEq,Nat.reduceLT,↓reduceIte,Nat.reduceEqDiff,Nat.reduceLeDiff,Nat.reduceAdd,↓gd,↓opP,↓qv,↓ef,↓stS,slot,putS,putO,fldA,sz,wrF,stor,hm2,Sl.sz]
    repeat (refine ⟨by omega,?_⟩)
    exact into_keep [(4,.ptr h.length 0),(6,.ptr (h.length+1) 0),(7,.ptr km 0)] (by simp [sameT,slot,lkL]) fun j=>(hJ11 _).2 ⟨_,km,k,f,v,s,d,s5,s6,s7,s8,key,fun _=>0,_,_,_,j,hEn.put (p:=km) _ (.inr (by omega)),by rw [lookH_put_ne _ (by omega)]; exact hz2,by rw [lookH_put_ne _ (by omega)]; exact hk1,RdB.put hB1 hm2 _,hkm,lookH_put_same _ (lookH_lt hm2 (by simp)),.inl ⟨hne,hR2⟩,rfl⟩
   ·simp only [r10,he] at hR
    have hpo:=pDig_ok he
    have hEn:=ext_new hE hE1 (Nat.le_succ _)
    have hz2:=hE1.look hz (by simp) fun h=>absurd h (by omega)
    have hm2:=hE1.look hm (by simp) fun h=>absurd h (by omega)
    have hX:ExtR (fresh h.length H) (fresh h.length H1):=extR_fk hE1 hk
    have hle1:=hE.1
    unfold dig32
    simp -implicitDefEqProofs (maxSteps:=1000000) (disch:=omega) only [↓zzP,zzA,zzL,zzB,Nat.reduceSub,reduceIte,reduceCtorEq,Nat.reduceLT,↓reduceIte,Nat.reduceEqDiff,Nat.reduceLeDiff,Nat.reduceAdd,↓gd,↓opP,↓qv,↓ef,↓stS,slot,putS,putO,fldA,sz,wrF,stor,hm2,Sl.sz]
    repeat (refine ⟨by omega,?_⟩)
    exact into_keep [(4,.ptr h.length 0),(6,.ptr (h.length+1) 0),(7,.ptr km 0)] (by simp [sameT,slot,lkL]) fun j=>(hJ11 _).2 ⟨_,km,k,f,v,s,d,s5,s6,s7,s8,key,x0,_,_,_,j,hEn.put (p:=km) _ (.inr (by omega)),by rw [lookH_put_ne _ (by omega)]; exact hz2,by rw [lookH_put_ne _ (by omega)]; exact hk1,RdB.put hB1 hm2 _,hkm,lookH_put_same _ (lookH_lt hm2 (by simp)),.inr ⟨rfl,by omega,hg1,hg2,hg3,hg4,hg5,b,bs2,hb.extR (extT hX (extR_cells _ hm2)),hbs.extR (extT hX (extR_cells _ hm2)),p,m7,f7,hp1,(extT hX (extR_cells _ hm2)) _ _ _ _ _ hp2,MsgsH.extR (extT hX (extR_cells _ hm2)) hp3,hp4,q,m8,f8,hq1,(extT hX (extR_cells _ hm2)) _ _ _ _ _ hq2,PrepsH.extR (extT hX (extR_cells _ hm2)) hq3,hq4,hR⟩,rfl⟩
 intro st hst
 obtain ⟨H,km,k,f,v,s,d,s5,s6,s7,s8,key,of,sv,r,er,j,hE,hz,hk,hB,hkm,hm,hcase,rfl⟩:=(hJ11 st).1 hst
 clear hst
 have hzl:=lookH_lt hz (by simp)
 have hkl:=lookH_lt hk (by simp)
 have hml:=lookH_lt hm (by simp)
 obtain ⟨J12,hJ12⟩:∃ J:St→Prop,∀ st,J st ↔ (∃ (H:List Chunk) (km:Nat) (k f v s:Int) (d:Nat→By) (s5 s6 s7 s8:Sl) (key:Int) (of:Nat→By) (sv:SV) (r:List By) (er:Int) (j:Nat→Value),Ext (fun _=>False) h H∧lookH H h.length = Chunk.cells true [.int .i64 0,.int .i64 0,.int .i64 0,.int .i64 0,.fam 32 1 fun _=>.int .u8 0,.v (.slice none 0 0),.v (.slice none 0 0),.v (.slice none 0 0),.v (.slice none 0 0),.int .i64 0,.fam 32 1 fun _=>.int .u8 0]∧lookH H (h.length+1) = .cells true [sv,.int .i64 dp,.int .i64 er]∧RdB H sv r∧h.length+1 < km∧lookH H km = .cells true [.int .i64 k,.int .i64 f,.int .i64 v,.int .i64 s,.fam 32 1 fun i=>.int .u8 (nat (d i)),Sl.sv 1 s5,Sl.sv 1 s6,Sl.sv 73 s7,Sl.sv 74 s8,.int .i64 key,.fam 32 1 fun i=>.int .u8 (nat (of i))]∧((er ≠ 0∧R = .error er) ∨ (er = 0∧r.length≤1048576∧rng k∧rng f∧rng v∧rng s∧rng key∧∃ b bs2,rowB (fresh h.length H) (Sl.sv 1 s5) b∧rowBs (fresh h.length H) (Sl.sv 1 s6) bs2∧∃ p m7 f7,s7 = .at m7 p.length∧lookH (fresh h.length H) m7 = .row true p.length 73 (fun i=>.agg (f7 i))∧MsgsH (fresh h.length H) p f7∧wfL p∧∃ q m8 f8,s8 = .at m8 q.length∧lookH (fresh h.length H) m8 = .row true q.length 74 (fun i=>.agg (f8 i))∧PrepsH (fresh h.length H) q f8∧wfQ q∧R = .ok (.mk k f v s d b bs2 p q key of)))∧st = ⟨⟨88,[(4,.ptr h.length 0),(6,.ptr (h.length+1) 0),(7,.ptr km 0)],j⟩,H,[]⟩):=⟨_,fun _=>Iff.rfl⟩
 refine codeP_seq (pl:=pl85) tabOk follows_mixed (by kernel_rfl) J12 ?_ ?_
 ·rcases hcase with ⟨hne,hR⟩ | ⟨rfl,hln,hg1,hg2,hg3,hg4,hg5,b,bs2,hb,hbs,p,m7,f7,hp1,hp2,hp3,hp4,q,m8,f8,hq1,hq2,hq3,hq4,hR⟩
  ·obtain ⟨k1,d1,x1,w1,N1,F1,rfl,hr1,hN1,hF1⟩:=id hB
   have zz:(er == 0) = false:=beq_eq_false_iff_ne.2 hne
   simp -implicitDefEqProofs (maxSteps:=1000000) (disch:=omega) only [↓zzP,zzA,zzL,zzB,Nat.reduceSub,reduceIte,reduceCtorEq,Nat.reduceLT,↓reduceIte,Nat.reduceEqDiff,Nat.reduceLeDiff,Array.reduceGetElem?,↓gd,↓opP,↓qv,slot,putS,putO,ofV,fldA,rdF,Ent.row,ldS,sz,binH,binS2,binS,zz,hk]
   repeat (refine ⟨by omega,?_⟩)
   exact into_keep [(4,.ptr h.length 0),(6,.ptr (h.length+1) 0),(7,.ptr km 0)] (by simp [sameT,slot,lkL]) fun j=>(hJ12 _).2 ⟨_,km,k,f,v,s,d,s5,s6,s7,s8,key,of,_,_,_,j,hE,hz,hk,hB,hkm,hm,.inl ⟨hne,hR⟩,rfl⟩
  ·obtain ⟨k1,d1,x1,w1,N1,F1,rfl,hr1,hN1,hF1⟩:=id hB
   have zz:((0:Int) == 0) = true:=rfl
   by_cases c:0 < r.length
   ·have z2:decide ((r.length:Int) > 0) = true:=decide_eq_true (by omega)
    have hR2:R = .error 4:=by rw [hR,r11,if_pos c]
    simp -implicitDefEqProofs (maxSteps:=1000000) (disch:=omega) only [↓zzP,zzA,zzL,zzB,Nat.reduceSub,reduceIte,reduceCtorEq,Nat.reduceLT,↓reduceIte,Nat.reduceEqDiff,Nat.reduceLeDiff,Array.reduceGetElem?,↓gd,↓opP,↓qv,↓ef,↓stS,slot,putS,putO,ofV,fldA,lenS,rdF,Ent.row,ldS,sz,wrF,binH,binS2,binS,stor,zz,hk,z2]
    repeat (refine ⟨by omega,?_⟩)
    exact into_keep [(4,.ptr h.length 0),(6,.ptr (h.length+1) 0),(7,.ptr km 0)] (by simp [sameT,slot,lkL]) fun j=>(hJ12 _).2 ⟨_,km,k,f,v,s,d,s5,s6,s7,s8,key,of,_,_,_,j,hE.put (p:=h.length+1) _ (.inr (by omega)),by rw [lookH_put_ne _ (by omega)]; exact hz,lookH_put_same _ hkl,RdB.put hB hk _,hkm,by rw [lookH_put_ne _ (by omega)]; exact hm,.inl ⟨by decide,hR2⟩,rfl⟩
   ·have z2:decide ((r.length:Int) > 0) = false:=decide_eq_false (by omega)
    have hR2:R = .ok (.mk k f v s d b bs2 p q key of):=by rw [hR,r11,if_neg c]
    simp -implicitDefEqProofs (maxSteps:=1000000) (disch:=omega) only [↓zzP,zzA,zzL,zzB,Nat.reduceSub,reduceIte,reduceCtorEq,Nat.reduceLT,↓reduceIte,Nat.reduceEqDiff,Nat.reduceLeDiff,Array.reduceGetElem?,↓gd,↓opP,↓qv,slot,putS,putO,ofV,fldA,lenS,rdF,Ent.row,ldS,sz,binH,binS2,binS,zz,hk,z2]
    repeat (refine ⟨by omega,?_⟩)
    exact into_keep [(4,.ptr h.length 0),(6,.ptr (h.length+1) 0),(7,.ptr km 0)] (by simp [sameT,slot,lkL]) fun j=>(hJ12 _).2 ⟨_,km,k,f,v,s,d,s5,s6,s7,s8,key,of,_,_,_,j,hE,hz,hk,hB,hkm,hm,.inr ⟨rfl,hln,hg1,hg2,hg3,hg4,hg5,b,bs2,hb,hbs,p,m7,f7,hp1,hp2,hp3,hp4,q,m8,f8,hq1,hq2,hq3,hq4,hR2⟩,rfl⟩
 intro st hst
 obtain ⟨H,km,k,f,v,s,d,s5,s6,s7,s8,key,of,sv,r,er,j,hE,hz,hk,hB,hkm,hm,hcase,rfl⟩:=(hJ12 st).1 hst
 clear hst
 have hzl:=lookH_lt hz (by simp)
 have hkl:=lookH_lt hk (by simp)
 have hml:=lookH_lt hm (by simp)
 obtain ⟨k1,d1,x1,w1,N1,F1,rfl,hr1,hN1,hF1⟩:=id hB
 refine codeP_of_vc (pl:=pl85) tabOk follows_mixed (by kernel_rfl) ?_
 simp -implicitDefEqProofs (maxSteps:=1000000) (disch:=omega) only [↓zzP,zzA,zzL,zzB,Nat.reduceSub,reduceIte,reduceCtorEq,Nat.reduceLT,↓reduceIte,Nat.reduceEqDiff,Nat.reduceLeDiff,Nat.reduceAdd,Array.reduceGetElem?,↓gd,↓opP,↓qv,↓ef,↓stS,slot,putS,putO,fldA,rdF,Ent.row,ldS,sz,wrF,stor,qn,ldN,pl85,hm,hk,hz,lookH_put_same,Sl.sz,Sl.stor]
 repeat (refine ⟨by omega,?_⟩)
 refine ⟨by rw [lookH_put_ne _ (by omega)]; exact hk,intoR_refl (by rw [putH_len]; exact hE.1) ?_⟩
 have hEf:=hE.put (p:=h.length) (.cells true [.int .i64 k,.int .i64 f,.int .i64 v,.int .i64 s,.fam 32 1 fun i=>.int .u8 (nat (d i)),Sl.sv 1 s5,Sl.sv 1 s6,Sl.sv 73 s7,Sl.sv 74 s8,.int .i64 key,.fam 32 1 fun i=>.int .u8 (nat (of i))]) (.inr (Nat.le_refl _))
 rcases hcase with ⟨hne,hR⟩ | ⟨rfl,hln,hg1,hg2,hg3,hg4,hg5,b,bs2,hb,hbs,p,m7,f7,hp1,hp2,hp3,hp4,q,m8,f8,hq1,hq2,hq3,hq4,hR⟩
 ·exact hEE er hR _ _ hEf ⟨_,rfl,k,f,v,s,d,s5,s6,s7,s8,key,of,rfl⟩
 ·subst hp1 hq1
  have hT:ExtR (fresh h.length H) (fresh h.length (putH H h.length (.cells true [.int .i64 k,.int .i64 f,.int .i64 v,.int .i64 s,.fam 32 1 fun i=>.int .u8 (nat (d i)),Sl.sv 1 s5,Sl.sv 1 s6,Sl.sv 73 (.at m7 p.length),Sl.sv 74 (.at m8 q.length),.int .i64 key,.fam 32 1 fun i=>.int .u8 (nat (of i))]))):=extR_cells _ hz
  refine hOO _ hR _ _ hEf ⟨_,rfl,?_,?_⟩
  ·rw [MsgH]
   exact ⟨_,_,m7,true,f7,m8,true,f8,rfl,hb.extR hT,hbs.extR hT,hT _ _ _ _ _ hp2,MsgsH.extR hT hp3,hT _ _ _ _ _ hq2,PrepsH.extR hT hq3⟩
  ·rw [wfM]
   exact ⟨hg1,hg2,hg3,hg4,hg5,hp4,hq4⟩
end Go.Proofs.Ytgocfglmideobaa
set_option linter.all false
set_option maxRecDepth 40000
namespace Go.Proofs.Ytgocfglmideobaa
open Go Go.Sx
theorem res38:Try.f38.results.toList = [.cell 2 31,.tmp 3]:=rfl
theorem readAt:∀ D,D≤5→ReadAt D
 | 0,h=>c85 0 h fun h kr kx dx ex nx ee hk=>c134z h kr kx dx ex nx ee hk
 | D+1,h=>c85 (D+1) h fun h kr kx dx ex nx ee hk=>c134s D (readAt D (by omega)) h kr kx dx ex nx ee (by omega) hk
def decS (bs:List By):Except Int Msg:=if 1048576 < bs.length then .error 2 else
 match rdMsg (qM 2) bs with
 | .error e=>.error e
 | .ok m=>if may m = 0 then .ok m else .error (may m)
theorem decS_e {bs:List By} {e:Int} (hl:¬ 1048576 < bs.length) (h:rdMsg (qM 2) bs = .error e):decS bs = .error e:=by unfold decS; rw [if_neg hl,h]
theorem decS_o {bs:List By} {m:Msg} (hl:¬ 1048576 < bs.length) (h:rdMsg (qM 2) bs = .ok m):decS bs = if may m = 0 then .ok m else .error (may m):=by unfold decS; rw [if_neg hl,h]
set_option maxHeartbeats 4000000 in
theorem c38 (bs:List By) (h:List Chunk) (k d e:Nat) (w:Bool) (N:Nat) (F:Nat→SV) (hr:lookH h k = .row w N 1 F) (hN:e+bs.length≤N) (hF:∀ i,i < bs.length→F (e+i) = .int .u8 (nat (bs.getD i 0))) (K:Tok→SV→List Chunk→Prop) (hE:∀ er,decS bs = .error er→∀ H,Ext (fun _=>False) h H→K .mk (.tup [.agg [.int .i64 0,.int .i64 0,.int .i64 0,.int .i64 0,.fam 32 1 fun _=>.int .u8 0,.v (.slice none 0 0),.v (.slice none 0 0),.v (.slice none 0 0),.v (.slice none 0 0),.int .i64 0,.fam 32 1 fun _=>.int .u8 0],.int .i64 er]) H) (hO:∀ m,decS bs = .ok m→∀ H sv,Ext (fun _=>False) h H→RelM H m sv→K .mk (.tup [sv,.int .i64 0]) H):callP Try.prog 38 [.osl k d e 1 bs.length] h K:=by
 refine callP_of_code tabOk Try.func38 (by kernel_rfl) rfl (Nat.le_of_ble_eq_true rfl) (codeP_of_vc (pl:=np) tabOk follows_mixed (by kernel_rfl) ?_)
 rw [Try.ntmps38]
 by_cases c:1048576 < bs.length
 ·have z1:decide ((bs.length:Int) > 1048576) = true:=decide_eq_true (by omega)
  simp -implicitDefEqProofs (maxSteps:=1000000) (disch:=omega) only [↓zzP,zzA,zzL,zzB,Nat.reduceSub,reduceIte,reduceCtorEq,Nat.reduceLT,↓reduceIte,Nat.reduceEqDiff,Nat.reduceLeDiff,Nat.reduceAdd,↓gd,↓opP,↓qv,↓ef,↓stS,slot,putS,putO,ofV,lenS,asRow,rdF,Ent.row,ldS,sz,wrF,bldS,binH,binS2,binS,tupS,stor,Value.oneCell',res38,z1]
  repeat (refine ⟨by omega,?_⟩)
  exact intoR_refl (by simp) (hE 2 (by unfold decS; rw [if_pos c]) _ ((Ext.refl _ _).app _))
 ·have z1:decide ((bs.length:Int) > 1048576) = false:=decide_eq_false (by omega)
  simp -implicitDefEqProofs (maxSteps:=1000000) (disch:=omega) only [↓zzP,zzA,zzB,reduceIte,reduceCtorEq,Nat.reduceLT,↓reduceIte,↓gd,↓opP,↓qv,↓ef,slot,putS,putO,ofV,lenS,asRow,rdF,Ent.row,ldS,binH,binS2,binS,tupS,res38,z1]
  repeat (refine ⟨by omega,?_⟩)
  obtain ⟨H0,hH0⟩:∃ H0,H0 = h++[Chunk.cells true [.int .i64 0,.int .i64 0,.int .i64 0,.int .i64 0,.fam 32 1 fun _=>.int .u8 0,.v (.slice none 0 0),.v (.slice none 0 0),.v (.slice none 0 0),.v (.slice none 0 0),.int .i64 0,.fam 32 1 fun _=>.int .u8 0]]:=⟨_,rfl⟩
  have hE0:Ext (fun _=>False) h H0:=by rw [hH0]; exact (Ext.refl _ _).app _
  have e0:lookH H0 h.length = Chunk.cells true [.int .i64 0,.int .i64 0,.int .i64 0,.int .i64 0,.fam 32 1 fun _=>.int .u8 0,.v (.slice none 0 0),.v (.slice none 0 0),.v (.slice none 0 0),.v (.slice none 0 0),.int .i64 0,.fam 32 1 fun _=>.int .u8 0]:=by rw [hH0]; exact lookH_app0 _ _
  have hr0:=hE0.look hr (by simp) fun h=>h
  rw [← hH0]
  refine readAt 2 (by omega) bs H0 k d e w N F hr0 hN hF (by omega) _ (fun er he H1 x hE1 hx=>?_) (fun m he H1 sv hE1 hrel=>?_)
  ·obtain ⟨lx,rfl,yk,yf,yv,ys,yd,s5,s6,s7,s8,ykey,yof,rfl⟩:=hx
   have hne:=rdMsg_ne (qM_ne 2) _ _ he
   have z2:(er == 0) = false:=beq_eq_false_iff_ne.2 hne
   have z3:(er != 0) = true:=bne_iff_ne.2 hne
   have f0:=hE1.look e0 (by simp) fun h=>h
   have l0:=lookH_lt f0 (by simp)
   have hE2:=hE0.trans hE1
   simp -implicitDefEqProofs (maxSteps:=1000000) (disch:=omega) only [↓zzP,zzA,zzL,zzB,Nat.reduceSub,reduceIte,reduceCtorEq,Nat.reduceLT,↓reduceIte,Nat.reduceEqDiff,Nat.reduceLeDiff,Nat.reduceAdd,↓gd,↓opP,↓qv,↓ef,↓stS,slot,putS,putO,ofV,asRow,sz,wrF,bldS,binH,binS2,binS,stor,Value.oneCell',z2,z3,f0,lookH_at,putH_at,lookH_pB,lookH_put_same,Sl.sz,Sl.stor]
   repeat (refine ⟨by omega,?_⟩)
   exact intoR_refl (by rw [List.length_append,putH_len]; exact Nat.le_trans hE2.1 (Nat.le_add_right _ _)) (hE er (decS_e c he) _ ((hE2.put (p:=h.length) _ (.inr (Nat.le_refl _))).app _))
  ·obtain ⟨lx,rfl,hmx,hwx⟩:=id hrel
   obtain ⟨xk,xf,xv,xs,xd,xkb,xnb,xkbs,xnbs,xkp,xnp,xkq,xnq,xkey,xof,rfl⟩:=hmx.open
   have z2:((0:Int) == 0) = true:=rfl
   have z3:((0:Int) != 0) = false:=rfl
   have f0:=hE1.look e0 (by simp) fun h=>h
   have l0:=lookH_lt f0 (by simp)
   have hE2:=hE0.trans hE1
   have hd:=decS_o c he
   simp -implicitDefEqProofs (maxSteps:=1000000) (disch:=omega) only [↓zzP,zzA,zzL,zzB,Nat.reduceSub,reduceIte,reduceCtorEq,Nat.reduceLT,↓reduceIte,Nat.reduceEqDiff,Nat.reduceLeDiff,Nat.reduceAdd,↓gd,↓opP,↓qv,↓ef,↓stS,slot,putS,putO,ofV,rdF,Ent.row,ldS,sz,wrF,binH,binS2,binS,stor,z2]
   repeat (refine ⟨by omega,?_⟩)
   refine c15 m _ _ (MsgH.extR (extT (extR_fresh _ _) (extR_app _ _)) hmx) _ ?_
   by_cases c2:may m = 0
   ·rw [if_pos c2] at hd
    rw [c2]
    simp -implicitDefEqProofs (maxSteps:=1000000) (disch:=omega) only [↓zzP,zzA,zzL,zzB,Nat.reduceSub,reduceIte,reduceCtorEq,Nat.reduceLT,↓reduceIte,Nat.reduceEqDiff,Nat.reduceLeDiff,Nat.reduceAdd,↓gd,↓opP,↓qv,↓ef,↓stS,slot,putS,putO,ofV,rdF,Ent.row,ldS,sz,wrF,binH,binS2,binS,stor,z3,f0,lookH_at,putH_at,lookH_pB,lookH_put_same]
    repeat (refine ⟨by omega,?_⟩)
    refine intoR_refl (by rw [List.length_append,putH_len]; exact Nat.le_trans hE2.1 (Nat.le_add_right _ _)) (hO m hd _ _ ((hE2.put (p:=h.length) _ (.inr (Nat.le_refl _))).app _) ⟨_,rfl,?_,hwx⟩)
    exact hmx.extR (extT (extR_f7 hE0.1 (lookH_lt e0 (by simp)) _) (extT (extR_fresh _ _) (extR_app _ _)))
   ·rw [if_neg c2] at hd
    have z4:(may m != 0) = true:=bne_iff_ne.2 c2
    simp -implicitDefEqProofs (maxSteps:=1000000) (disch:=omega) only [↓zzP,zzA,zzL,zzB,Nat.reduceSub,reduceIte,reduceCtorEq,Nat.reduceLT,↓reduceIte,Nat.reduceEqDiff,Nat.reduceLeDiff,Nat.reduceAdd,↓gd,↓opP,↓qv,↓ef,↓stS,slot,putS,putO,ofV,asRow,sz,wrF,bldS,binH,binS2,binS,stor,Value.oneCell',z4,f0,lookH_at,putH_at,lookH_pB,lookH_put_same]
    repeat (refine ⟨by omega,?_⟩)
    exact intoR_refl (by rw [List.length_append,putH_len]; exact Nat.le_trans hE2.1 (Nat.le_add_right _ _)) (hE _ hd _ ((hE2.put (p:=h.length) _ (.inr (Nat.le_refl _))).app _))
end Go.Proofs.Ytgocfglmideobaa
set_option linter.all false
set_option maxRecDepth 40000
namespace Go.Proofs.Ytgocfglmideobaa
open Go Go.Sx
def nv:List By→Nat→Nat
 | [],_=>0
 | b :: l,0=>b.toNat % 128
 | b :: l,k+1=>nv l k * 128+b.toNat % 128
theorem tv_cons (b:By) (l:List By) (k:Nat):∀ c,c≤k+1→tv (b :: l) (k+1) c = tv l k c
 | 0,_=>rfl
 | c+1,h=>by
  rw [tv,tv,tv_cons b l k c (by omega),show k+1 - c = (k - c)+1 by omega]
  rfl
theorem or_low (x:BitVec 64) (b:By):(x <<< 7 ||| (b &&& 127#8).setWidth 64).toNat = (x.toNat * 128+b.toNat % 128) % 18446744073709551616:=by
 have hb:((b &&& 127#8).setWidth 64).toNat = b.toNat % 128:=by
  rw [BitVec.toNat_setWidth,BitVec.toNat_and,show (127#8).toNat = 2 ^ 7 - 1 from rfl,Nat.and_two_pow_sub_one_eq_mod]
  have:=b.isLt
  omega
 rw [BitVec.toNat_or,hb,BitVec.toNat_shiftLeft,Nat.shiftLeft_eq]
 have e:x.toNat * 2 ^ 7 % 2 ^ 64 = (x.toNat % 2 ^ 57) <<< 7:=by rw [Nat.shiftLeft_eq]; omega
 rw [e,← Nat.shiftLeft_add_eq_or_of_lt (by omega),Nat.shiftLeft_eq]
 omega
theorem tv_nv:∀ (k:Nat) (l:List By),k < l.length→(tv l k (k+1)).toNat = nv l k % 18446744073709551616
 | 0,b :: l,_=>by
  rw [tv,tv,nv,show (b :: l).getD (0 - 0) 0 = b from rfl,or_low]
  simp
 | k+1,b :: l,h=>by
  rw [List.length_cons] at h
  rw [tv,tv_cons b l k (k+1) (Nat.le_refl _),show (b :: l).getD (k+1 - (k+1)) 0 = b by rw [Nat.sub_self]; rfl,or_low,tv_nv k l (by omega),nv]
  omega
theorem nv_lt:∀ (k:Nat) (l:List By),nv l k < 128 ^ k * ((l.getD k 0).toNat % 128+1)
 | _,[]=>by simp [nv]; exact Nat.pow_pos (by decide)
 | 0,b :: l=>by simp [nv]
 | k+1,b :: l=>by
  have h:=nv_lt k l
  rw [nv,show (b :: l).getD (k+1) 0 = l.getD k 0 from rfl,Nat.pow_succ,Nat.mul_right_comm]
  have:=Nat.mod_lt b.toNat (show 0 < 128 by decide)
  omega
theorem tEnd_low:∀ l:List By,tEnd l < l.length→(l.getD (tEnd l) 0).toNat < 128
 | [],h=>absurd h (by simp)
 | b :: l,h=>by
  rw [tEnd] at h ⊢
  by_cases c:128≤b.toNat
  ·rw [if_pos c] at h ⊢
   exact tEnd_low l (by rw [List.length_cons] at h; omega)
  ·rw [if_neg c]
   show b.toNat < 128
   omega
theorem nv_pos:∀ l:List By,tEnd l < l.length→l.getD (tEnd l) 0 ≠ 0→0 < nv l (tEnd l)
 | [],h,_=>absurd h (by simp)
 | b :: l,h,h0=>by
  rw [tEnd] at h h0 ⊢
  by_cases c:128≤b.toNat
  ·rw [if_pos c] at h h0 ⊢
   have:=nv_pos l (by rw [List.length_cons] at h; omega) h0
   rw [nv]
   omega
  ·rw [if_neg c] at h0 ⊢
   have h1:b ≠ 0:=h0
   have h2:b.toNat ≠ 0:=fun e=>h1 (BitVec.eq_of_toNat_eq (by rw [e]; rfl))
   rw [nv]
   omega
theorem byte_of (b:By) (n:Nat) (h:n = b.toNat):BitVec.ofNat 8 n = b:=by
 apply BitVec.eq_of_toNat_eq
 rw [BitVec.toNat_ofNat,h]
 exact Nat.mod_eq_of_lt b.isLt
theorem leb_nv:∀ l:List By,tEnd l < l.length→(0 < tEnd l→l.getD (tEnd l) 0 ≠ 0)→leb (nv l (tEnd l)) = l.take (tEnd l+1)
 | [],h,_=>absurd h (by simp)
 | b :: l,h,h0=>by
  rw [tEnd] at h h0 ⊢
  have hb:=b.isLt
  by_cases c:128≤b.toNat
  ·rw [if_pos c] at h h0 ⊢
   rw [List.length_cons] at h
   have h1:=h0 (Nat.succ_pos _)
   have hp:=nv_pos l (by omega) h1
   have hi:=leb_nv l (by omega) fun _=>h1
   rw [nv,leb_ge (by omega),show (nv l (tEnd l) * 128+b.toNat % 128) / 128 = nv l (tEnd l) by omega,hi,byte_of b _ (by omega)]
   rfl
  ·rw [if_neg c,nv,leb_lt (by omega),byte_of b _ (by omega)]
   rfl
theorem tk_back {bs:List By} {n:BitVec 64} {u:Nat} (h:tk bs = .ok (n,u)):leb n.toNat = bs.take u∧u≤bs.length:=by
 have hu:=tk_ok h
 refine ⟨?_,hu.2.1⟩
 have hle:=tEnd_le bs
 unfold tk at h
 split at h
 ·cases h
 rename_i h1
 split at h
 ·cases h
 rename_i h2
 cases h
 have hlt:tEnd bs < bs.length:=by omega
 have hb:nv bs (tEnd bs) < 18446744073709551616:=by
  have h3:=nv_lt (tEnd bs) bs
  have h4:=tEnd_low bs hlt
  by_cases c:tEnd bs = 9
  ·have h5:(bs.getD 9 0).toNat≤1:=by
    refine Nat.le_of_not_lt fun h=>h2 (.inr (.inl ⟨c,h⟩))
   rw [c] at h3 ⊢
   have:128 ^ 9 * ((bs.getD 9 0).toNat % 128+1)≤128 ^ 9 * 2:=Nat.mul_le_mul_left _ (by omega)
   omega
  ·have h6:tEnd bs≤8:=by
    refine Nat.le_of_not_lt fun h=>h2 (.inl ?_)
    omega
   have:128 ^ tEnd bs * ((bs.getD (tEnd bs) 0).toNat % 128+1)≤128 ^ 8 * 128:=Nat.mul_le_mul (Nat.pow_le_pow_right (by decide) h6) (by omega)
   omega
 rw [tv_nv _ _ hlt,Nat.mod_eq_of_lt hb]
 exact leb_nv bs hlt fun h3 h4=>h2 (.inr (.inr ⟨h3,h4⟩))
theorem zig_unz (u:BitVec 64):zig (unz u) = u.toNat:=by
 unfold unz zig
 split
 ·rw [if_neg (by omega)]; omega
 ·rw [if_pos (by omega)]; omega
theorem u64n_nat (n:BitVec 64):u64n ((n.toNat:Nat):Int) = n.toNat:=by
 unfold u64n
 rw [BitVec.toNat_ofInt]
 have:=n.isLt
 omega
theorem take_app {bs:List By} {u:Nat}:bs.take u++bs.drop u = bs:=List.take_append_drop u bs
theorem pKind_back {bs r:List By} {x:Int} (h:pKind bs = .ok (x,r)):bs = [BitVec.ofInt 8 x]++r:=by
 unfold pKind at h
 split at h
 ·cases h
 ·rename_i b l
  cases h
  rw [List.singleton_append]
  congr 1
  apply BitVec.eq_of_toNat_eq
  rw [BitVec.toNat_ofInt]
  have:=b.isLt
  omega
theorem pInt_back {bs r:List By} {x:Int} (h:pInt bs = .ok (x,r)):bs = leb (zig x)++r:=by
 unfold pInt at h
 split at h
 ·cases h
 ·rename_i n u he
  cases h
  rw [zig_unz,(tk_back he).1,take_app]
theorem pNum_back {bs r:List By} {x:Int} (h:pNum bs = .ok (x,r)):bs = leb (u64n x)++r:=by
 unfold pNum at h
 split at h
 ·cases h
 ·rename_i n u he
  split at h
  ·cases h
  ·cases h
   rw [u64n_nat,(tk_back he).1,take_app]
theorem take_map {bs:List By}:∀ {n:Nat},n≤bs.length→(List.range n).map (fun i=>bs.getD i 0) = bs.take n:=fun {n} h=>by
 apply List.ext_getElem
 ·simp; omega
 ·intro i h1 h2
  simp at h1 h2
  simp [show i < bs.length by omega]
theorem pDig_back {bs r:List By} {d:Nat→By} (h:pDig bs = .ok (d,r)):bs = d32 d++r:=by
 unfold pDig at h
 split at h
 ·cases h
 ·cases h
  unfold d32
  rw [take_map (by omega),take_app]
theorem tb_back {bs c:List By} {most u:Nat} (h:tb bs most = .ok (c,u)):bs = putB c++bs.drop u:=by
 unfold tb at h
 split at h
 ·cases h
 ·rename_i n u0 he
  split at h
  ·cases h
  ·split at h
   ·cases h
   ·rename_i h1 h2
    cases h
    have ht:=tk_back he
    unfold putB
    rw [List.length_take,List.length_drop,Nat.min_eq_left (by omega),ht.1,List.append_assoc,← List.drop_drop,List.take_append_drop,take_app]
theorem lp_back {α:Type} {q:List By→Except Int (α × Nat)} {e:α→List By} (hq:∀ b x u,q b = .ok (x,u)→b = e x++b.drop u):∀ {n:Nat} {bs r:List By} {X:List α},lp q n bs = .ok (X,r)→X.length = n∧bs = X.flatMap e++r
 | 0,bs,r,X,h=>by rw [lp] at h; cases h; exact ⟨rfl,rfl⟩
 | n+1,bs,r,X,h=>by
  rw [lp] at h
  split at h
  ·cases h
  ·rename_i x k he
   split at h
   ·cases h
   ·rename_i xs r' he2
    cases h
    obtain ⟨h1,h2⟩:=lp_back hq he2
    refine ⟨by rw [List.length_cons,h1],?_⟩
    rw [List.flatMap_cons,List.append_assoc,← h2]
    exact hq _ _ _ he
theorem tl_back {α:Type} {q:List By→Except Int (α × Nat)} {e:α→List By} (hq:∀ b x u,q b = .ok (x,u)→b = e x++b.drop u) {most:Nat} {bs r:List By} {X:List α} (h:tl q most bs = .ok (X,r)):bs = leb X.length++X.flatMap e++r:=by
 unfold tl at h
 split at h
 ·cases h
 ·rename_i n u he
  split at h
  ·cases h
  ·obtain ⟨h1,h2⟩:=lp_back hq h
   rw [h1,(tk_back he).1,List.append_assoc,← h2,take_app]
def eM (m:Msg):List By:=putB (enc m)
def eP (x:Msg × List Msg):List By:=eM x.1++leb x.2.length++x.2.flatMap eM
theorem encL_eM:∀ l:List Msg,encL l = l.flatMap eM
 | []=>by rw [encL]; rfl
 | m :: l=>by rw [encL,List.flatMap_cons,encL_eM l]; rfl
theorem encQ_eP:∀ q:List (Msg × List Msg),encQ q = q.flatMap eP
 | []=>by rw [encQ]; rfl
 | (m,l) :: r=>by rw [encQ,List.flatMap_cons,encQ_eP r,encL_eM]; rfl
theorem qPf_back {qm:List By→Except Int (Msg × Nat)} (hq:∀ b x u,qm b = .ok (x,u)→b = eM x++b.drop u):∀ b x u,qPf qm b = .ok (x,u)→b = eP x++b.drop u:=fun b x u h=>by
 unfold qPf at h
 split at h
 ·cases h
 ·rename_i m k he
  split at h
  ·cases h
  ·rename_i l r he2
   cases h
   have h1:=hq _ _ _ he
   have h2:=tl_back hq he2
   unfold eP
   rw [List.append_assoc,List.append_assoc]
   have h3:b = (eM m++leb l.length++l.flatMap eM)++r:=by
    rw [List.append_assoc,List.append_assoc,← List.append_assoc (leb _),← h2]
    exact h1
   have h4:b.drop (b.length - r.length) = r:=by
    rw [h3,List.length_append,Nat.add_sub_cancel,List.drop_left]
   show b = eM m++(leb l.length++(l.flatMap eM++b.drop (b.length - r.length)))
   rw [h4]
   rw [List.append_assoc,List.append_assoc] at h3
   exact h3
theorem rdMsg_back {qm:List By→Except Int (Msg × Nat)} (hq:∀ b x u,qm b = .ok (x,u)→b = eM x++b.drop u) {bs:List By} {m:Msg} (h:rdMsg qm bs = .ok m):enc m = bs:=by
 unfold rdMsg at h
 split at h
 ·cases h
 rename_i k r0 e0
 unfold r1 at h
 split at h
 ·cases h
 rename_i f x1 e1
 unfold r2 at h
 split at h
 ·cases h
 rename_i v x2 e2
 unfold r3 at h
 split at h
 ·cases h
 rename_i s x3 e3
 unfold r4 at h
 split at h
 ·cases h
 rename_i d x4 e4
 unfold r5 at h
 split at h
 ·cases h
 rename_i b x5 e5
 unfold r6 at h
 split at h
 ·cases h
 rename_i bs2 x6 e6
 unfold r7 at h
 split at h
 ·cases h
 rename_i p x7 e7
 unfold r8 at h
 split at h
 ·cases h
 rename_i q x8 e8
 unfold r9 at h
 split at h
 ·cases h
 rename_i key x9 e9
 unfold r10 at h
 split at h
 ·cases h
 rename_i of x10 e10
 unfold r11 at h
 split at h
 ·cases h
 rename_i hz
 cases h
 have hx:x10 = []:=List.eq_nil_of_length_eq_zero (by omega)
 subst hx
 show enc (.mk k f v s d b bs2 p q key of) = bs
 rw [pKind_back e0,pInt_back e1,pNum_back e2,pNum_back e3,pDig_back e4,tb_back e5,tl_back (e:=putB) (fun b x u h=>tb_back h) e6,tl_back hq e7,tl_back (qPf_back hq) e8,pInt_back e9,pDig_back e10]
 unfold enc
 rw [body,encL_eM,encQ_eP]
 simp only [List.append_assoc,List.append_nil,Msg.key,Msg.of]
theorem qM_back:∀ D b x u,qM D b = .ok (x,u)→b = eM x++b.drop u
 | 0,b,x,u,h=>by rw [qM] at h; cases h
 | D+1,b,x,u,h=>by
  rw [qM] at h
  split at h
  ·cases h
  ·rename_i s u0 he
   split at h
   ·cases h
   ·rename_i m he2
    cases h
    unfold eM
    rw [rdMsg_back (qM_back D) he2]
    exact tb_back he
theorem decS_back {bs:List By} {m:Msg} (h:decS bs = .ok m):enc m = bs∧may m = 0∧bs.length≤1048576∧rdMsg (qM 2) bs = .ok m:=by
 unfold decS at h
 split at h
 ·cases h
 rename_i hl
 split at h
 ·cases h
 ·rename_i m2 he
  split at h
  ·rename_i hm
   cases h
   exact ⟨rdMsg_back (qM_back 2) he,hm,by omega,he⟩
  ·cases h
end Go.Proofs.Ytgocfglmideobaa
set_option linter.all false
set_option maxRecDepth 40000
namespace Go.Proofs.Ytgocfglmideobaa
open Go Go.Sx
theorem res87:Try.f87.results.toList = [.tmp 4]:=rfl
theorem res88:Try.f88.results.toList = [.tmp 4]:=rfl
theorem res89:Try.f89.results.toList = [.tmp 4]:=rfl
theorem res40:Try.f40.results.toList = [.tmp 4]:=rfl
def pl87:Nat→Plan
 | 6=>(.q 0 (.q 1 (.q 2 (.q 3 (.q 4 (.q 5 (.q 6 (.q 7 (.q 8 (.q 9 (.q 10 .nil)))))))))))
 | _=>.nil
def pl88:Nat→Plan
 | 6=>(.q 0 (.q 1 (.q 2 (.q 3 (.q 4 (.q 5 (.q 6 (.q 7 (.e1 8 [2,3,6,7] (.q 9 .nil))))))))))
 | _=>.nil
def pl89:Nat→Plan:=fun _=>.nil
def pl40:Nat→Plan
 | 6=>(.q 0 (.q 1 (.q 2 (.q 3 (.q 4 (.q 5 (.e1 6 [0,4,5] (.q 7 .nil))))))))
 | _=>.nil
theorem famEq_same (m:Nat) (f:Nat→SV):famEq m f f = true:=decide_eq_true fun _ _=>rfl
abbrev SameAt (m:Msg):Prop:=∀ (l1 l2:List SV) (h:List Chunk),MsgH h m l1→MsgH h m l2→∀ (K:Tok→SV→List Chunk→Prop),(∀ H,Ext (fun _=>False) h H→K .mk (.bool true) H)→callP Try.prog 40 [.agg l1,.agg l2] h K
set_option maxHeartbeats 4000000 in
theorem c87 (bs:List (List By)) (s1 s2:SV) (h:List Chunk) (h1:rowBs h s1 bs) (h2:rowBs h s2 bs) (hl:bs.length≤1125899906842624) (K:Tok→SV→List Chunk→Prop) (hK:K .mk (.bool true) h):callP Try.prog 87 [s1,s2] h K:=by
 obtain ⟨ka,wa,fa,rfl,hra,hba⟩:=h1
 obtain ⟨kb,wb,fb,rfl,hrb,hbb⟩:=h2
 refine callP_of_code tabOk Try.func87 (by kernel_rfl) rfl (Nat.le_of_ble_eq_true rfl) (codeP_of_vc (pl:=pl87) tabOk follows_mixed (by kernel_rfl) ?_)
 rw [Try.ntmps87]
 have z0:(((bs.length:Nat):Int) != (bs.length:Int)) = false:=bne_self_eq_false _
 simp -implicitDefEqProofs (maxSteps:=1000000) (disch:=omega) only [↓zzP,zzA,reduceIte,reduceCtorEq,Nat.reduceLT,↓reduceIte,Nat.reduceEqDiff,Nat.reduceAdd,↓gd,↓opP,↓qv,slot,putS,putO,ofV,lenS,binH,binS2,binS,tupS,res87,z0]
 repeat (refine ⟨by omega,?_⟩)
 refine codeP_loop (pl:=pl87) tabOk follows_mixed (by kernel_rfl) (fun z st=>∃ (i:Nat) (j:Nat→Value),i+z = bs.length∧st = ⟨⟨28,[(0,.osl ka 0 0 1 bs.length),(1,.osl kb 0 0 1 bs.length),(12,.int .i64 (bs.length:Nat)),(13,.int .i64 (i:Nat))],j⟩,h,[]⟩) ?_ ?_
 ·exact into_keep [(0,.osl ka 0 0 1 bs.length),(1,.osl kb 0 0 1 bs.length),(12,.int .i64 (bs.length:Nat)),(13,.int .i64 (0:Nat))] (by simp [sameT,slot,lkL]) fun j=>⟨bs.length,0,j,by omega,rfl⟩
 rintro z st ⟨i,j,hiz,rfl⟩
 by_cases hi:i < bs.length
 ·have g1:decide ((i:Int) < (bs.length:Nat)) = true:=decide_eq_true (by omega)
  have a1:IntKind.i64.wrap ((i:Int)+1) = ((i+1:Nat):Int):=by rw [wrap64 (by omega) (by omega)]; omega
  obtain ⟨k1,w1,e1,r1⟩:=hba i hi
  obtain ⟨k2,w2,e2,r2⟩:=hbb i hi
  simp -implicitDefEqProofs (maxSteps:=1000000) (disch:=omega) only [↓zzP,zzA,zzL,zzB,reduceIte,reduceCtorEq,Nat.reduceLT,↓reduceIte,Nat.reduceEqDiff,Array.reduceGetElem?,↓gd,↓opP,↓qv,slot,putS,putO,ofV,convS,idxA,valI,rdF,Ent.row,ldS,binH,binS2,binS,pl87,g1,hra,hrb,e1,e2,r1,r2,a1,beq_self_eq_true]
  repeat (refine ⟨by omega,?_⟩)
  exact into_keep [(0,.osl ka 0 0 1 bs.length),(1,.osl kb 0 0 1 bs.length),(12,.int .i64 (bs.length:Nat)),(13,.int .i64 (i+1:Nat))] (by simp [sameT,slot,lkL]) fun j=>⟨z - 1,by omega,i+1,j,by omega,rfl⟩
 ·have g1:decide ((i:Int) < (bs.length:Nat)) = false:=decide_eq_false (by omega)
  simp -implicitDefEqProofs (maxSteps:=1000000) (disch:=omega) only [↓zzP,zzA,zzL,reduceIte,reduceCtorEq,Nat.reduceLT,↓reduceIte,Nat.reduceEqDiff,↓gd,↓opP,↓qv,slot,putS,putO,ofV,binH,binS2,binS,g1]
  repeat (refine ⟨by omega,?_⟩)
  exact intoR_refl (Nat.le_refl _) hK
set_option maxHeartbeats 4000000 in
theorem c88 (p:List Msg) (hl:p.length≤1125899906842624) (IH:∀ m ∈ p,SameAt m) (ka kb:Nat) (wa wb:Bool) (fa fb:Nat→List SV) (h:List Chunk) (hra:lookH h ka = .row wa p.length 73 fun i=>.agg (fa i)) (hrb:lookH h kb = .row wb p.length 73 fun i=>.agg (fb i)) (hba:MsgsH h p fa) (hbb:MsgsH h p fb) (K:Tok→SV→List Chunk→Prop) (hK:∀ H,Ext (fun _=>False) h H→K .mk (.bool true) H):callP Try.prog 88 [.osl ka 0 0 73 p.length,.osl kb 0 0 73 p.length] h K:=by
 refine callP_of_code tabOk Try.func88 (by kernel_rfl) rfl (Nat.le_of_ble_eq_true rfl) (codeP_of_vc (pl:=pl88) tabOk follows_mixed (by kernel_rfl) ?_)
 rw [Try.ntmps88]
 have z0:(((p.length:Nat):Int) != (p.length:Int)) = false:=bne_self_eq_false _
 simp -implicitDefEqProofs (maxSteps:=1000000) (disch:=omega) only [↓zzP,zzA,reduceIte,reduceCtorEq,Nat.reduceLT,↓reduceIte,Nat.reduceEqDiff,Nat.reduceAdd,↓gd,↓opP,↓qv,slot,putS,putO,ofV,lenS,binH,binS2,binS,tupS,res88,z0]
 repeat (refine ⟨by omega,?_⟩)
 refine codeP_loop (pl:=pl88) tabOk follows_mixed (by kernel_rfl) (fun z st=>∃ (i:Nat) (H:List Chunk) (j:Nat→Value),i+z = p.length∧Ext (fun _=>False) h H∧st = ⟨⟨27,[(0,.osl ka 0 0 73 p.length),(1,.osl kb 0 0 73 p.length),(12,.int .i64 (p.length:Nat)),(13,.int .i64 (i:Nat))],j⟩,H,[]⟩) ?_ ?_
 ·exact into_keep [(0,.osl ka 0 0 73 p.length),(1,.osl kb 0 0 73 p.length),(12,.int .i64 (p.length:Nat)),(13,.int .i64 (0:Nat))] (by simp [sameT,slot,lkL]) fun j=>⟨p.length,0,h,j,by omega,Ext.refl _ _,rfl⟩
 rintro z st ⟨i,H,j,hiz,hE,rfl⟩
 by_cases hi:i < p.length
 ·have g1:decide ((i:Int) < (p.length:Nat)) = true:=decide_eq_true (by omega)
  have a1:IntKind.i64.wrap ((i:Int)+1) = ((i+1:Nat):Int):=by rw [wrap64 (by omega) (by omega)]; omega
  have r1:=hE.look hra (by simp) fun h=>h
  have r2:=hE.look hrb (by simp) fun h=>h
  have m1:=(hba.get hi).ext hE
  have m2:=(hbb.get hi).ext hE
  obtain ⟨xk,xf,xv,xs,xd,xkb,xnb,xkbs,xnbs,xkp,xnp,xkq,xnq,xkey,xof,e1⟩:=m1.open
  obtain ⟨yk,yf,yv,ys,yd,ykb,ynb,ykbs,ynbs,ykp,ynp,ykq,ynq,ykey,yof,e2⟩:=m2.open
  rw [e1] at m1
  rw [e2] at m2
  simp -implicitDefEqProofs (maxSteps:=1000000) (disch:=omega) only [↓zzP,zzA,zzL,zzB,Nat.reduceSub,reduceIte,reduceCtorEq,Nat.reduceLT,↓reduceIte,Nat.reduceEqDiff,Nat.reduceLeDiff,Array.reduceGetElem?,↓gd,↓opP,↓qv,slot,putS,putO,idxA,oslN,rdF,Ent.row,ldS,sz,binH,binS2,binS,qn,ldN,pl88,g1,r1,r2,e1,e2]
  repeat (refine ⟨by omega,?_⟩)
  refine IH p[i] (List.getElem_mem hi) _ _ H m1 m2 _ fun H2 hE2=>?_
  have hE3:=hE.trans hE2
  simp -implicitDefEqProofs (maxSteps:=1000000) (disch:=omega) only [↓zzP,zzA,reduceIte,reduceCtorEq,Nat.reduceLT,↓reduceIte,Nat.reduceEqDiff,Array.reduceGetElem?,↓gd,↓opP,↓qv,slot,putS,putO,ofV,unS,binH,binS2,binS,a1]
  repeat (refine ⟨by omega,?_⟩)
  exact into_keep [(0,.osl ka 0 0 73 p.length),(1,.osl kb 0 0 73 p.length),(12,.int .i64 (p.length:Nat)),(13,.int .i64 (i+1:Nat))] (by simp [sameT,slot,lkL]) fun j=>⟨z - 1,by omega,i+1,H2,j,by omega,hE3,rfl⟩
 ·have g1:decide ((i:Int) < (p.length:Nat)) = false:=decide_eq_false (by omega)
  simp -implicitDefEqProofs (maxSteps:=1000000) (disch:=omega) only [↓zzP,zzA,zzL,reduceIte,reduceCtorEq,Nat.reduceLT,↓reduceIte,Nat.reduceEqDiff,↓gd,↓opP,↓qv,slot,putS,putO,ofV,binH,binS2,binS,g1]
  repeat (refine ⟨by omega,?_⟩)
  exact intoR_refl hE.1 (hK _ hE)
set_option maxHeartbeats 4000000 in
theorem c89 (m:Msg) (p:List Msg) (hl:p.length≤1125899906842624) (IM:SameAt m) (IP:∀ m ∈ p,SameAt m) (l1 l2:List SV) (ka kb:Nat) (wa wb:Bool) (fa fb:Nat→List SV) (h:List Chunk) (hm1:MsgH h m l1) (hm2:MsgH h m l2) (hra:lookH h ka = .row wa p.length 73 fun i=>.agg (fa i)) (hrb:lookH h kb = .row wb p.length 73 fun i=>.agg (fb i)) (hba:MsgsH h p fa) (hbb:MsgsH h p fb) (K:Tok→SV→List Chunk→Prop) (hK:∀ H,Ext (fun _=>False) h H→K .mk (.bool true) H):callP Try.prog 89 [.agg (l1++[.osl ka 0 0 73 p.length]),.agg (l2++[.osl kb 0 0 73 p.length])] h K:=by
 obtain ⟨xk,xf,xv,xs,xd,xkb,xnb,xkbs,xnbs,xkp,xnp,xkq,xnq,xkey,xof,rfl⟩:=hm1.open
 obtain ⟨yk,yf,yv,ys,yd,ykb,ynb,ykbs,ynbs,ykp,ynp,ykq,ynq,ykey,yof,rfl⟩:=hm2.open
 simp only [List.cons_append,List.nil_append]
 refine callP_of_code tabOk Try.func89 (by kernel_rfl) rfl (Nat.le_of_ble_eq_true rfl) (codeP_of_vc (pl:=pl89) tabOk follows_mixed (by kernel_rfl) ?_)
 rw [Try.ntmps89]
 simp -implicitDefEqProofs (maxSteps:=1000000) (disch:=omega) only [↓zzP,zzA,zzL,zzB,Nat.reduceSub,reduceIte,reduceCtorEq,Nat.reduceLT,↓reduceIte,Nat.reduceEqDiff,Nat.reduceLeDiff,Nat.reduceAdd,↓gd,↓opP,↓qv,↓ef,slot,putS,putO,ofV,fldA,rdF,Ent.row,ldS,sz,tupS,stor,res89]
 repeat (refine ⟨by omega,?_⟩)
 obtain ⟨H0,hH0⟩:∃ H0,H0 = h++[Chunk.cells true [.int .i64 xk,.int .i64 xf,.int .i64 xv,.int .i64 xs,.fam 32 1 fun i=>.int .u8 (nat (xd i)),.osl xkb 0 0 1 xnb,.osl xkbs 0 0 1 xnbs,.osl xkp 0 0 73 xnp,.osl xkq 0 0 74 xnq,.int .i64 xkey,.fam 32 1 fun i=>.int .u8 (nat (xof i)),.osl ka 0 0 73 p.length],Chunk.cells true [.int .i64 yk,.int .i64 yf,.int .i64 yv,.int .i64 ys,.fam 32 1 fun i=>.int .u8 (nat (yd i)),.osl ykb 0 0 1 ynb,.osl ykbs 0 0 1 ynbs,.osl ykp 0 0 73 ynp,.osl ykq 0 0 74 ynq,.int .i64 ykey,.fam 32 1 fun i=>.int .u8 (nat (yof i)),.osl kb 0 0 73 p.length]]:=⟨_,rfl⟩
 have hE0:Ext (fun _=>False) h H0:=by rw [hH0]; exact (Ext.refl _ _).app _
 have e0:lookH H0 h.length = Chunk.cells true [.int .i64 xk,.int .i64 xf,.int .i64 xv,.int .i64 xs,.fam 32 1 fun i=>.int .u8 (nat (xd i)),.osl xkb 0 0 1 xnb,.osl xkbs 0 0 1 xnbs,.osl xkp 0 0 73 xnp,.osl xkq 0 0 74 xnq,.int .i64 xkey,.fam 32 1 fun i=>.int .u8 (nat (xof i)),.osl ka 0 0 73 p.length]:=by rw [hH0]; exact lookH_app0 _ _
 have e1:lookH H0 (h.length+1) = Chunk.cells true [.int .i64 yk,.int .i64 yf,.int .i64 yv,.int .i64 ys,.fam 32 1 fun i=>.int .u8 (nat (yd i)),.osl ykb 0 0 1 ynb,.osl ykbs 0 0 1 ynbs,.osl ykp 0 0 73 ynp,.osl ykq 0 0 74 ynq,.int .i64 ykey,.fam 32 1 fun i=>.int .u8 (nat (yof i)),.osl kb 0 0 73 p.length]:=by rw [hH0]; exact lookH_app _ 1 _
 rw [← hH0]
 refine IM _ _ H0 (hm1.ext hE0) (hm2.ext hE0) _ fun H1 hE1=>?_
 have f0:=hE1.look e0 (by simp) fun h=>h
 have f1:=hE1.look e1 (by simp) fun h=>h
 have hE2:=hE0.trans hE1
 simp -implicitDefEqProofs (maxSteps:=1000000) (disch:=omega) only [↓zzP,zzA,zzL,zzB,Nat.reduceSub,reduceIte,reduceCtorEq,Nat.reduceLT,↓reduceIte,Nat.reduceEqDiff,Nat.reduceLeDiff,Array.reduceGetElem?,↓gd,↓opP,↓qv,slot,putS,putO,fldA,rdF,Ent.row,ldS,sz,f0,f1]
 repeat (refine ⟨by omega,?_⟩)
 refine c88 p hl IP ka kb wa wb fa fb H1 (hE2.look hra (by simp) fun h=>h) (hE2.look hrb (by simp) fun h=>h) (MsgsH.ext hE2 hba) (MsgsH.ext hE2 hbb) _ fun H3 hE3=>?_
 have hE4:=hE2.trans hE3
 simp -implicitDefEqProofs (maxSteps:=1000000) (disch:=omega) only [↓zzP,zzA,zzL,reduceIte,Nat.reduceLT,↓reduceIte,Nat.reduceEqDiff,↓gd,↓opP,↓qv,slot,putS,putO,ofV]
 repeat (refine ⟨by omega,?_⟩)
 exact intoR_refl hE4.1 (hK _ hE4)
set_option maxHeartbeats 8000000 in
theorem c40S (k f v s:Int) (d:Nat→By) (b:List By) (bs:List (List By)) (p:List Msg) (q:List (Msg × List Msg)) (key:Int) (of:Nat→By) (hl:bs.length≤1125899906842624∧p.length≤1125899906842624∧q.length≤1125899906842624∧∀ x ∈ q,x.2.length≤1125899906842624) (IP:∀ m ∈ p,SameAt m) (IQ:∀ x ∈ q,SameAt x.1∧∀ m ∈ x.2,SameAt m):SameAt (.mk k f v s d b bs p q key of):=by
 intro l1 l2 h hm1 hm2 K hK
 rw [MsgH] at hm1 hm2
 obtain ⟨sb,sbs,kp,wp,fp,kq,wq,fq,hl1,h1,h2,h3,h4,h5,h6⟩:=hm1
 obtain ⟨kb,wb,rfl,hkb⟩:=h1
 obtain ⟨kbs,wbs,fb,rfl,hkbs,hfb⟩:=id h2
 obtain ⟨sb',sbs',kp',wp',fp',kq',wq',fq',hl2,h1',h2',h3',h4',h5',h6'⟩:=hm2
 obtain ⟨kb',wb',rfl,hkb'⟩:=h1'
 obtain ⟨kbs',wbs',fb',rfl,hkbs',hfb'⟩:=id h2'
 unfold dig32 at hl1 hl2
 subst hl1 hl2
 refine callP_of_code tabOk Try.func40 (by kernel_rfl) rfl (Nat.le_of_ble_eq_true rfl) (codeP_of_vc (pl:=pl40) tabOk follows_mixed (by kernel_rfl) ?_)
 rw [Try.ntmps40]
 have q1:=lookH_lt hkb (by simp)
 have q2:=lookH_lt hkb' (by simp)
 simp -implicitDefEqProofs (maxSteps:=1000000) (disch:=omega) only [↓zzP,zzA,zzL,zzB,Nat.reduceSub,reduceIte,reduceCtorEq,Nat.reduceLT,↓reduceIte,Nat.reduceEqDiff,Nat.reduceLeDiff,Nat.reduceAdd,Array.reduceGetElem?,↓gd,↓opP,↓qv,↓ef,slot,putS,putO,ofV,convS,fldA,valI,asRow,rdF,Ent.row,ldS,sz,binH,binS2,binS,arrS,isI,tupS,stor,res40,lookH_at,hkb,hkb',bne_self_eq_false,beq_self_eq_true,famEq_same]
 repeat (refine ⟨by omega,?_⟩)
 obtain ⟨H0,hH0⟩:∃ H0,H0 = h++[Chunk.cells true [.int .i64 k,.int .i64 f,.int .i64 v,.int .i64 s,.fam 32 1 fun i=>.int .u8 (nat (d i)),.osl kb 0 0 1 b.length,.osl kbs 0 0 1 bs.length,.osl kp 0 0 73 p.length,.osl kq 0 0 74 q.length,.int .i64 key,.fam 32 1 fun i=>.int .u8 (nat (of i))],Chunk.cells true [.int .i64 k,.int .i64 f,.int .i64 v,.int .i64 s,.fam 32 1 fun i=>.int .u8 (nat (d i)),.osl kb' 0 0 1 b.length,.osl kbs' 0 0 1 bs.length,.osl kp' 0 0 73 p.length,.osl kq' 0 0 74 q.length,.int .i64 key,.fam 32 1 fun i=>.int .u8 (nat (of i))]]:=⟨_,rfl⟩
 have hE0:Ext (fun _=>False) h H0:=by rw [hH0]; exact (Ext.refl _ _).app _
 have e0:lookH H0 h.length = Chunk.cells true [.int .i64 k,.int .i64 f,.int .i64 v,.int .i64 s,.fam 32 1 fun i=>.int .u8 (nat (d i)),.osl kb 0 0 1 b.length,.osl kbs 0 0 1 bs.length,.osl kp 0 0 73 p.length,.osl kq 0 0 74 q.length,.int .i64 key,.fam 32 1 fun i=>.int .u8 (nat (of i))]:=by rw [hH0]; exact lookH_app0 _ _
 have e1:lookH H0 (h.length+1) = Chunk.cells true [.int .i64 k,.int .i64 f,.int .i64 v,.int .i64 s,.fam 32 1 fun i=>.int .u8 (nat (d i)),.osl kb' 0 0 1 b.length,.osl kbs' 0 0 1 bs.length,.osl kp' 0 0 73 p.length,.osl kq' 0 0 74 q.length,.int .i64 key,.fam 32 1 fun i=>.int .u8 (nat (of i))]:=by rw [hH0]; exact lookH_app _ 1 _
 rw [← hH0]
 clear hH0
 refine c87 bs _ _ H0 (h2.ext hE0) (h2'.ext hE0) hl.1 _ ?_
 simp -implicitDefEqProofs (maxSteps:=1000000) (disch:=omega) only [↓zzP,zzA,zzL,zzB,Nat.reduceSub,reduceIte,reduceCtorEq,Nat.reduceLT,↓reduceIte,Nat.reduceEqDiff,Nat.reduceLeDiff,Array.reduceGetElem?,↓gd,↓opP,↓qv,slot,putS,putO,ofV,fldA,unS,asRow,rdF,Ent.row,ldS,sz,binH,binS2,structS,eqL,eqF,arrS,isI,stor,e0,e1,beq_self_eq_true,famEq_same,Bool.and_self]
 repeat (refine ⟨by omega,?_⟩)
 refine c88 p hl.2.1 IP kp kp' wp wp' fp fp' H0 (hE0.look h3 (by simp) fun h=>h) (hE0.look h3' (by simp) fun h=>h) (MsgsH.ext hE0 h4) (MsgsH.ext hE0 h4') _ fun H1 hE1=>?_
 have f0:=hE1.look e0 (by simp) fun h=>h
 have f1:=hE1.look e1 (by simp) fun h=>h
 have hE2:=hE0.trans hE1
 clear e0 e1 hE0 hE1
 simp -implicitDefEqProofs (maxSteps:=1000000) (disch:=omega) only [↓zzP,zzA,zzL,zzB,Nat.reduceSub,reduceIte,reduceCtorEq,Nat.reduceLT,↓reduceIte,Nat.reduceEqDiff,Nat.reduceLeDiff,Array.reduceGetElem?,↓gd,↓opP,↓qv,slot,putS,putO,ofV,fldA,unS,lenS,rdF,Ent.row,ldS,sz,binH,binS2,binS,f0,f1,bne_self_eq_false]
 repeat (refine ⟨by omega,?_⟩)
 refine codeP_loop (pl:=pl40) tabOk follows_mixed (by kernel_rfl) (fun z st=>∃ (i:Nat) (H:List Chunk) (j:Nat→Value),i+z = q.length∧Ext (fun _=>False) h H∧lookH H (h.length+1) = Chunk.cells true [.int .i64 k,.int .i64 f,.int .i64 v,.int .i64 s,.fam 32 1 fun i=>.int .u8 (nat (d i)),.osl kb' 0 0 1 b.length,.osl kbs' 0 0 1 bs.length,.osl kp' 0 0 73 p.length,.osl kq' 0 0 74 q.length,.int .i64 key,.fam 32 1 fun i=>.int .u8 (nat (of i))]∧st = ⟨⟨98,[(2,.ptr h.length 0),(3,.ptr (h.length+1) 0),(82,.osl kq 0 0 74 q.length),(83,.int .i64 (q.length:Nat)),(84,.int .i64 (i:Nat))],j⟩,H,[]⟩) ?_ ?_
 ·exact into_keep [(2,.ptr h.length 0),(3,.ptr (h.length+1) 0),(82,.osl kq 0 0 74 q.length),(83,.int .i64 (q.length:Nat)),(84,.int .i64 (0:Nat))] (by simp [sameT,slot,lkL]) fun j=>⟨q.length,0,H1,j,by omega,hE2,f1,rfl⟩
 rintro z st ⟨i,H,j,hiz,hE,e1,rfl⟩
 by_cases hi:i < q.length
 ·have g1:decide ((i:Int) < (q.length:Nat)) = true:=decide_eq_true (by omega)
  have a1:IntKind.i64.wrap ((i:Int)+1) = ((i+1:Nat):Int):=by rw [wrap64 (by omega) (by omega)]; omega
  have r1:=hE.look h5 (by simp) fun h=>h
  have r2:=hE.look h5' (by simp) fun h=>h
  obtain ⟨lm,xkl,wl,fl,hfi,hM,hrl,hls⟩:=h6.get hi
  obtain ⟨lm',ykl,wl',fl',hfi',hM',hrl',hls'⟩:=h6'.get hi
  obtain ⟨xk,xf,xv,xs,xd,xkb,xnb,xkbs,xnbs,xkp,xnp,xkq,xnq,xkey,xof,hlm⟩:=hM.open
  obtain ⟨yk,yf,yv,ys,yd,ykb,ynb,ykbs,ynbs,ykp,ynp,ykq,ynq,ykey,yof,hlm'⟩:=hM'.open
  have hIQ:=IQ q[i] (List.getElem_mem hi)
  have hll:=hl.2.2.2 q[i] (List.getElem_mem hi)
  rw [hlm] at hM hfi
  rw [hlm'] at hM' hfi'
  have hfj:=hfi
  have hfj':=hfi'
  simp only [List.cons_append,List.nil_append] at hfi hfi'
  obtain ⟨xnl,hxnl⟩:∃ x,x = q[i].2.length:=⟨_,rfl⟩
  rw [← hxnl] at hfi hfi'
  have hr1':∀ c,lookH (H++[c]) kq = .row wq q.length 74 fun i=>.agg (fq i):=fun c=>lookH_old _ _ _ r1 (by simp)
  have hr2':∀ c,lookH (H++[c]) kq' = .row wq' q.length 74 fun i=>.agg (fq' i):=fun c=>lookH_old _ _ _ r2 (by simp)
  have e2:∀ c,lookH (H++[c]) (h.length+1) = Chunk.cells true [.int .i64 k,.int .i64 f,.int .i64 v,.int .i64 s,.fam 32 1 fun i=>.int .u8 (nat (d i)),.osl kb' 0 0 1 b.length,.osl kbs' 0 0 1 bs.length,.osl kp' 0 0 73 p.length,.osl kq' 0 0 74 q.length,.int .i64 key,.fam 32 1 fun i=>.int .u8 (nat (of i))]:=fun c=>lookH_old _ _ _ e1 (by simp)
  simp -implicitDefEqProofs (maxSteps:=1000000) (disch:=omega) only [↓zzP,zzA,zzL,zzB,Nat.reduceSub,reduceIte,reduceCtorEq,Nat.reduceLT,↓reduceIte,Nat.reduceEqDiff,Nat.reduceLeDiff,Nat.reduceAdd,Array.reduceGetElem?,↓gd,↓opP,↓qv,↓ef,↓stS,slot,putS,putO,fldA,idxA,oslN,rdF,Ent.row,ldS,sz,wrF,binH,binS2,binS,stor,qn,ldN,pl40,g1,r1,hr2',e2,hfi,hfi']
  repeat (refine ⟨by omega,?_⟩)
  rw [hxnl]
  have hEm:∀ c,Ext (fun _=>False) h (H++[c]):=fun c=>hE.app _
  refine c89 q[i].1 q[i].2 hll hIQ.1 hIQ.2 [.int .i64 xk,.int .i64 xf,.int .i64 xv,.int .i64 xs,.fam 32 1 fun i=>.int .u8 (nat (xd i)),.osl xkb 0 0 1 xnb,.osl xkbs 0 0 1 xnbs,.osl xkp 0 0 73 xnp,.osl xkq 0 0 74 xnq,.int .i64 xkey,.fam 32 1 fun i=>.int .u8 (nat (xof i))] [.int .i64 yk,.int .i64 yf,.int .i64 yv,.int .i64 ys,.fam 32 1 fun i=>.int .u8 (nat (yd i)),.osl ykb 0 0 1 ynb,.osl ykbs 0 0 1 ynbs,.osl ykp 0 0 73 ynp,.osl ykq 0 0 74 ynq,.int .i64 ykey,.fam 32 1 fun i=>.int .u8 (nat (yof i))] xkl ykl wl wl' fl fl' _ (hM.ext (hEm _)) (hM'.ext (hEm _)) ((hEm _).look hrl (by simp) fun h=>h) ((hEm _).look hrl' (by simp) fun h=>h) (MsgsH.ext (hEm _) hls) (MsgsH.ext (hEm _) hls') _ fun H2 hE3=>?_
  have hE4:=(hEm _).trans hE3
  have e3:=hE3.look (e2 _) (by simp) fun h=>h
  refine ⟨e3,?_⟩
  simp -implicitDefEqProofs (maxSteps:=1000000) (disch:=omega) only [↓zzP,zzA,reduceIte,Nat.reduceLT,↓reduceIte,Nat.reduceEqDiff,Array.reduceGetElem?,↓gd,↓opP,↓qv,slot,putS,putO,ofV,unS,binH,binS2,binS,a1]
  repeat (refine ⟨by omega,?_⟩)
  exact into_keep [(2,.ptr h.length 0),(3,.ptr (h.length+1) 0),(82,.osl kq 0 0 74 q.length),(83,.int .i64 (q.length:Nat)),(84,.int .i64 (i+1:Nat))] (by simp [sameT,slot,lkL]) fun j=>⟨z - 1,by omega,i+1,H2,j,by omega,hE4,e3,rfl⟩
 ·have g1:decide ((i:Int) < (q.length:Nat)) = false:=decide_eq_false (by omega)
  simp -implicitDefEqProofs (maxSteps:=1000000) (disch:=omega) only [↓zzP,zzA,zzL,reduceIte,reduceCtorEq,Nat.reduceLT,↓reduceIte,Nat.reduceEqDiff,↓gd,↓opP,↓qv,slot,putS,putO,ofV,binH,binS2,binS,g1]
  repeat (refine ⟨by omega,?_⟩)
  exact intoR_refl hE.1 (hK _ hE)
end Go.Proofs.Ytgocfglmideobaa
set_option linter.all false
set_option maxRecDepth 40000
namespace Go.Proofs.Ytgocfglmideobaa
open Go Go.Sx
mutual
theorem sameAt:∀ m:Msg,may m = 0→SameAt m
 | .mk k f v s d b bs p q key of,h=>by
  obtain ⟨_,_,i3,_,_,i6,_,i8,i9,_,i11⟩:=may_in h
  exact c40S k f v s d b bs p q key of ⟨by omega,by omega,by omega,fun x hx=>by have:=(i11 x hx).2.1; omega⟩ (sameL p fun m hm=>(i8 m hm).2) (sameQ q fun x hx=>⟨(i11 x hx).1.2,fun m hm=>((i11 x hx).2.2 m hm).2⟩)
theorem sameL:∀ p:List Msg,(∀ m ∈ p,may m = 0)→∀ m ∈ p,SameAt m
 | [],_,m,hm=>by simp at hm
 | a :: l,h,m,hm=>by
  rcases List.mem_cons.1 hm with e | hm
  ·rw [e]
   exact sameAt a (h a (by simp))
  ·exact sameL l (fun x hx=>h x (by simp [hx])) m hm
theorem sameQ:∀ q:List (Msg × List Msg),(∀ x ∈ q,may x.1 = 0∧∀ m ∈ x.2,may m = 0)→∀ x ∈ q,SameAt x.1∧∀ m ∈ x.2,SameAt m
 | [],_,x,hx=>by simp at hx
 | (a,l) :: r,h,x,hx=>by
  rcases List.mem_cons.1 hx with e | hx
  ·rw [e]
   have h1:=h (a,l) (by simp)
   exact ⟨sameAt a h1.1,sameL l h1.2⟩
  ·exact sameQ r (fun y hy=>h y (by simp [hy])) x hx
end
end Go.Proofs.Ytgocfglmideobaa
set_option linter.all false
set_option maxRecDepth 40000
namespace Go.Proofs.Ytgocfglmideobaa
open Go Go.Sx
theorem res142:Try.f142.results.toList = [.cell 4 31]:=rfl
theorem pB_e {most:Nat} {bs:List By} {er:Int} (h:pBytes most bs = .error er):tb bs most = .error er:=by
 unfold pBytes at h
 split at h
 ·rename_i e he
  cases h
  exact he
 ·cases h
theorem pB_o {most:Nat} {bs b r:List By} (h:pBytes most bs = .ok (b,r)):∃ u,tb bs most = .ok (b,u)∧r = bs.drop u:=by
 unfold pBytes at h
 split at h
 ·cases h
 ·rename_i b' u he
  cases h
  exact ⟨u,he,rfl⟩
theorem pK_e {bs:List By} {er:Int} (h:pByte bs = .error er):pKind bs = .error er:=by
 cases bs with
 | nil=>cases h; rfl
 | cons b l=>cases h
theorem pK_o {bs r:List By} {b:By} (h:pByte bs = .ok (b,r)):pKind bs = .ok ((b.toNat:Int),r):=by
 cases bs with
 | nil=>cases h
 | cons b' l=>cases h; rfl
theorem pN_e {bs:List By} {er:Int} (h:pNumM 4611686018427387904 4 bs = .error er):pNum bs = .error er:=by
 unfold pNumM at h
 unfold pNum
 split at h
 ·rename_i e he
  try simp only [he]
  cases h
  rfl
 ·rename_i n u he
  try simp only [he]
  split at h
  ·rename_i c
   rw [if_pos c]
   cases h
   rfl
  ·cases h
theorem pN_o {bs r:List By} {n:BitVec 64} (h:pNumM 4611686018427387904 4 bs = .ok (n,r)):pNum bs = .ok ((n.toNat:Int),r):=by
 unfold pNumM at h
 unfold pNum
 split at h
 ·cases h
 ·rename_i m u he
  try simp only [he]
  split at h
  ·cases h
  ·rename_i c
   rw [if_neg c]
   cases h
   rfl
theorem into_cell {nf:Nat} {t:Slots} {h:List Chunk} {d:List Deferred} {J:St→Prop} {km:Nat} {fs:List SV} (fs':List SV) (s:Nat) (F:Nat→SV) (hk:lookH h km = .cells true fs) (hd:∀ ρ:Env,ρ h.length = ⟨0,0,0,true,none⟩→denC ρ fs' = denC ρ fs) (ho:okL (h.length+1) fs') (hst:storL fs') (hJ:Into nf ⟨t,putH h km (.cells true fs')++[.row true 0 s F],d⟩ J):Into nf ⟨t,h,d⟩ J:=fun C ρ w hC hM hok=>by
 have hlt:=lookH_lt hk (by simp)
 have hM1:Models C (Sx.upd ρ h.length ⟨0,0,0,true,none⟩) (h++[.row true 0 s F]) w:=hM.alloc (Keep.refl _ _) (fun h=>by cases h) ⟨fun i hi=>absurd hi (by omega),fun i hi=>absurd hi (by omega)⟩ (by simp [Holds,Sx.upd])
 have ha:Agree h.length ρ (Sx.upd ρ h.length ⟨0,0,0,true,none⟩):=fun k hk=>by simp [Sx.upd,show k ≠ h.length by omega]
 have hk1:lookH (h++[.row true 0 s F]) km = .cells true fs:=by rw [lookH_at _ hlt]; exact hk
 have hH:=look_holds hM1 km
 rw [hk1] at hH
 have hnil:=hH.1
 have he:denC (Sx.upd ρ h.length ⟨0,0,0,true,none⟩) fs' = denC (Sx.upd ρ h.length ⟨0,0,0,true,none⟩) fs:=hd _ (by simp [Sx.upd])
 have hM2:=hM1.write (w':=w) (c':=.cells true fs') (lookH_some hk1 (by simp)) ⟨rfl,hnil⟩ (Keep.refl _ _) ⟨by rw [List.length_append]; exact ho,hst⟩ (by
  refine ⟨hnil,?_,?_⟩
  ·rw [he]; exact hH.2.1
  ·rw [he]; exact hH.2.2)
 rw [putH_at _ _ hlt] at hM2
 have hok2:okS (putH h km (.cells true fs')++[Chunk.row true 0 s F]).length t:=okS_mono (show h.length≤_ by rw [List.length_append,putH_len]; exact Nat.le_add_right _ _) hok
 obtain ⟨ρ',st',h1,h2,h3,h4⟩:=hJ C _ w hC hM2 hok2
 refine ⟨ρ',st',h1,h2,h3,?_⟩
 rw [← h4]
 have e:tmpsD ρ t = tmpsD (Sx.upd ρ h.length ⟨0,0,0,true,none⟩) t:=(tmpsD_agree ha hok).symm
 simp only [act,e]
set_option maxHeartbeats 4000000 in
theorem c140x (h:List Chunk) (kr k d e n:Nat) (er:Int) (hk:lookH h kr = .cells true [.osl k d e 1 n,.int .i64 er]) (he:er ≠ 0) (K:Tok→SV→List Chunk→Prop) (hK:∀ H,Ext (fun _=>False) h H→K .mk (.fam 32 1 fun _=>.int .u8 0) H):callP Try.prog 140 [.ptr kr 0] h K:=by
 have hlt:=lookH_lt hk (by simp)
 refine callP_of_code tabOk Try.func140 (by kernel_rfl) rfl (Nat.le_of_ble_eq_true rfl) (codeP_of_vc (pl:=np) tabOk follows_mixed (by kernel_rfl) ?_)
 rw [Try.ntmps140]
 simp -implicitDefEqProofs (maxSteps:=1000000) (disch:=omega) only [↓zzP,zzA,zzL,zzB,reduceIte,reduceCtorEq,Nat.reduceLT,↓reduceIte,↓gd,↓opP,↓qv,↓ef,slot,putS,putO,ofV,asRow,rdF,Ent.row,ldS,tupS,res140]
 repeat (refine ⟨by omega,?_⟩)
 refine codeP_loop (pl:=np) tabOk follows_mixed (by kernel_rfl) (fun z st=>∃ (i:Nat) (H:List Chunk) (g:Nat→By) (j:Nat→Value),i+z = 32∧Ext (fun _=>False) h H∧lookH H h.length = .cells true [.fam 32 1 fun _=>.int .u8 0]∧lookH H (h.length+1) = .cells true [.fam 32 1 fun i=>.int .u8 (nat (g i))]∧st = ⟨⟨20,[(0,.ptr kr 0),(2,.ptr h.length 0),(3,.ptr (h.length+1) 0),(5,.int .i64 (i:Nat))],j⟩,H,[]⟩) ?_ ?_
 ·exact into_keep [(0,.ptr kr 0),(2,.ptr h.length 0),(3,.ptr (h.length+1) 0),(5,.int .i64 (0:Nat))] (by simp [sameT,slot,lkL]) fun j=>⟨32,0,_,fun _=>0,j,rfl,(Ext.refl _ _).app _,lookH_app0 _ _,lookH_app _ 1 _,rfl⟩
 rintro z st ⟨i,H,g,j,hiz,hE1,e0,e1,rfl⟩
 have hk1:=hE1.look hk (by simp) fun h=>h
 have hll:=lookH_lt e0 (by simp)
 have hll1:=lookH_lt e1 (by simp)
 by_cases ci:i < 32
 ·have g1:decide ((i:Int) < 32) = true:=decide_eq_true (by omega)
  have a1:IntKind.i64.wrap ((i:Int)+1) = ((i+1:Nat):Int):=by rw [wrap64 (by omega) (by omega)]; omega
  have upd:∀ x:By,(fun j=>if j = i then SV.int .u8 (nat x) else .int .u8 (nat (g j))) = fun j=>.int .u8 (nat (if j = i then x else g j)):=fun x=>funext fun j=>by split <;> rfl
  have nz:(SV.int .u8 0) = .int .u8 (nat (0:By)):=rfl
  simp -implicitDefEqProofs (maxSteps:=1000000) (disch:=omega) only [↓zzP,zzA,zzL,reduceIte,reduceCtorEq,Nat.reduceLT,↓reduceIte,Nat.reduceEqDiff,↓gd,↓opP,↓qv,slot,putS,putO,ofV,binH,binS2,binS,g1]
  repeat (refine ⟨by omega,?_⟩)
  refine c137x H kr k d e n er hk1 he _ ?_
  simp -implicitDefEqProofs (maxSteps:=1000000) (disch:=omega) only [↓zzP,zzA,zzL,zzB,reduceIte,reduceCtorEq,Nat.reduceLT,↓reduceIte,Nat.reduceEqDiff,↓gd,↓opP,↓qv,↓ef,↓stS,slot,putS,putO,ofV,idxA,sz,binH,binS2,binS,stor,e1,a1]
  repeat (refine ⟨by omega,?_⟩)
  rw [nz,upd 0]
  exact into_keep [(0,.ptr kr 0),(2,.ptr h.length 0),(3,.ptr (h.length+1) 0),(5,.int .i64 ((i+1):Nat))] (by simp [sameT,slot,lkL]) fun j=>⟨z - 1,by omega,i+1,_,_,j,by omega,hE1.put (p:=h.length+1) _ (.inr (Nat.le_succ _)),by rw [lookH_put_ne _ (by omega)]; exact e0,lookH_put_same _ hll1,rfl⟩
 ·have g1:decide ((i:Int) < 32) = false:=decide_eq_false (by omega)
  have z0:(er != 0) = true:=bne_iff_ne.2 he
  simp -implicitDefEqProofs (maxSteps:=1000000) (disch:=omega) only [↓zzP,zzA,zzL,zzB,reduceIte,reduceCtorEq,Nat.reduceLT,↓reduceIte,Nat.reduceEqDiff,Nat.reduceLeDiff,↓gd,↓opP,↓qv,↓ef,↓stS,slot,putS,putO,ofV,fldA,asRow,rdF,Ent.row,ldS,sz,wrF,bldS,binH,binS2,binS,stor,g1,z0,hk1,e0,lookH_put_same]
  repeat (refine ⟨by omega,?_⟩)
  exact intoR_refl (by rw [putH_len]; exact hE1.1) (hK _ (hE1.put (p:=h.length) _ (.inr (Nat.le_refl _))))
end Go.Proofs.Ytgocfglmideobaa
set_option linter.all false
set_option maxRecDepth 40000
namespace Go.Proofs.Ytgocfglmideobaa
open Go Go.Sx
theorem putH_pC (l:List Chunk) (c d:Chunk) {h:List Chunk} {m k:Nat} (hk:k < h.length):putH (putH h m c++l) k d = putH (putH h m c) k d++l:=putH_at l d (by rw [putH_len]; exact hk)
theorem lookH_pD (l:List Chunk) (c d:Chunk) {h:List Chunk} {m k:Nat} (hk:k < h.length):lookH (putH (putH h m c) k d++l) k = d:=by
 rw [lookH_at _ (by rw [putH_len,putH_len]; exact hk),lookH_put_same _ (by rw [putH_len]; exact hk)]
theorem extR_fa {n:Nat} (H x:List Chunk):ExtR (fresh n H) (fresh n (H++x)):=fun k w b s f hk=>by
 rw [fresh_look] at hk ⊢
 split at hk
 ·cases hk
 ·rw [if_neg (by assumption),lookH_at _ (lookH_lt hk (by simp))]
  exact hk
theorem errM_zero:ErrM (.agg [.int .i64 0,.int .i64 0,.int .i64 0,.int .i64 0,.fam 32 1 fun _=>.int .u8 0,.v (.slice none 0 0),.v (.slice none 0 0),.v (.slice none 0 0),.v (.slice none 0 0),.int .i64 0,.fam 32 1 fun _=>.int .u8 0]):=⟨_,rfl,0,0,0,0,z32,.nil,.nil,.nil,.nil,0,z32,rfl⟩
def rdR (D:Nat) (bs:List By):Except Int Msg:=if 1048576 < bs.length then .error 2 else rdMsg (qM D) bs
abbrev ReadRAt (D:Nat):Prop:=∀ (bs:List By) (h:List Chunk) (k d e:Nat) (w:Bool) (N:Nat) (F:Nat→SV),lookH h k = .row w N 1 F→e+bs.length≤N→(∀ i,i < bs.length→F (e+i) = .int .u8 (nat (bs.getD i 0)))→bs.length≤35184372088832→∀ (K:Tok→SV→List Chunk→Prop),
 (∀ er,rdR D bs = .error er→er ≠ 0→∀ H x,Ext (fun _=>False) h H→ErrM x→K .mk (.tup [x,.int .i64 er]) H) →
 (∀ m,rdR D bs = .ok m→∀ H sv,Ext (fun _=>False) h H→RelM (fresh h.length H) m sv→K .mk (.tup [sv,.int .i64 0]) H) →
 callP Try.prog 86 [.osl k d e 1 bs.length,.int .i64 (3 - (D:Int))] h K
end Go.Proofs.Ytgocfglmideobaa
set_option linter.all false
set_option maxRecDepth 40000
namespace Go.Proofs.Ytgocfglmideobaa
open Go Go.Sx
def RdK (kb:Nat) (h:List Chunk) (sv:SV) (bs:List By):Prop:=∃ k d e w N F,sv = .osl k d e 1 bs.length∧k = kb∧lookH h k = .row w N 1 F∧e+bs.length≤N∧∀ i,i < bs.length→F (e+i) = .int .u8 (nat (bs.getD i 0))
theorem RdK.put {kb:Nat} {h:List Chunk} {kr:Nat} {sv:SV} {bs:List By} {wr:Bool} {fs:List SV} (hB:RdK kb h sv bs) (hk:lookH h kr = .cells wr fs) (c:Chunk):RdK kb (putH h kr c) sv bs:=by
 obtain ⟨k,d,e,w,N,F,rfl,hkb,hr,hN,hF⟩:=hB
 exact ⟨k,d,e,w,N,F,rfl,hkb,by rw [lookH_put_ne _ (ne_cr hk hr)]; exact hr,hN,hF⟩
theorem RdK.ext {kb:Nat} {h H:List Chunk} {sv:SV} {bs:List By} (hB:RdK kb h sv bs) (hE:ExtR h H):RdK kb H sv bs:=by
 obtain ⟨k,d,e,w,N,F,rfl,hkb,hr,hN,hF⟩:=hB
 exact ⟨k,d,e,w,N,F,rfl,hkb,hE _ _ _ _ _ hr,hN,hF⟩
theorem RdK.drop {h:List Chunk} {k e N:Nat} {w:Bool} {F:Nat→SV} {bs:List By} (hr:lookH h k = .row w N 1 F) (hN:e+bs.length≤N) (hF:∀ i,i < bs.length→F (e+i) = .int .u8 (nat (bs.getD i 0))) (u d':Nat) (hu:u≤bs.length):RdK k h (.osl k d' (e+u) 1 (bs.length - u)) (bs.drop u):=by
 refine ⟨k,d',e+u,w,N,F,by rw [List.length_drop],rfl,hr,by rw [List.length_drop]; omega,fun i hi=>?_⟩
 rw [List.length_drop] at hi
 rw [Nat.add_assoc,hF _ (by omega)]
 congr 2
 simp [List.getD,List.getElem?_drop]
theorem RdK.b {kb:Nat} {h:List Chunk} {sv:SV} {bs:List By} (hB:RdK kb h sv bs):RdB h sv bs:=by
 obtain ⟨k,d,e,w,N,F,rfl,hkb,hr,hN,hF⟩:=hB
 exact ⟨k,d,e,w,N,F,rfl,hr,hN,hF⟩
theorem RdB.k {h:List Chunk} {sv:SV} {bs:List By} (hB:RdB h sv bs):∃ kb,kb < h.length∧RdK kb h sv bs:=by
 obtain ⟨k,d,e,w,N,F,rfl,hr,hN,hF⟩:=hB
 exact ⟨k,lookH_lt hr (by simp),k,d,e,w,N,F,rfl,rfl,hr,hN,hF⟩
set_option maxHeartbeats 4000000 in
theorem k139 {kb:Nat} (bs:List By) (h:List Chunk) (kr:Nat) (sv:SV) (hk:lookH h kr = .cells true [sv,.int .i64 0]) (hB:RdK kb h sv bs) (hl:bs.length≤35184372088832) (most:Nat) (over:Int) (hov:over ≠ 0) (K:Tok→SV→List Chunk→Prop) (hE:∀ e2,pNumM most over bs = .error e2→∀ H sv' bs',Ext (fun j=>j = kr) h H→lookH H kr = .cells true [sv',.int .i64 e2]→RdK kb H sv' bs'→K .mk (.int .u64 0) H) (hO:∀ x bs',pNumM most over bs = .ok (x,bs')→∀ H sv',Ext (fun j=>j = kr) h H→lookH H kr = .cells true [sv',.int .i64 0]→RdK kb H sv' bs'→K .mk (.int .u64 (nat x)) H):callP Try.prog 139 [.ptr kr 0,.int .u64 (most:Nat),.int .i64 over] h K:=by
 obtain ⟨k,d,e,w,N,F,rfl,rfl,hr,hN,hF⟩:=hB
 have hlt:=lookH_lt hk (by simp)
 have hkk:=ne_cr hk hr
 refine callP_of_code tabOk Try.func139 (by kernel_rfl) rfl (Nat.le_of_ble_eq_true rfl) (codeP_of_vc (pl:=np) tabOk follows_mixed (by kernel_rfl) ?_)
 rw [Try.ntmps139]
 have z0:((0:Int) != 0) = false:=rfl
 have z9:((0:Int) == 0) = true:=rfl
 simp -implicitDefEqProofs (maxSteps:=1000000) (disch:=omega) only [↓zzP,zzA,zzL,zzB,reduceIte,reduceCtorEq,Nat.reduceLT,↓reduceIte,Nat.reduceLeDiff,Nat.reduceAdd,↓gd,↓opP,↓qv,slot,putS,putO,ofV,fldA,rdF,Ent.row,ldS,sz,binH,binS2,binS,tupS,res139,z0,hk]
 repeat (refine ⟨by omega,?_⟩)
 refine c161 bs h k d e w N F hr hN hF hl _ (fun er he=>?_) (fun n u he=>?_)
 ·have z1:(er != 0) = true:=bne_iff_ne.2 (tk_ne he)
  have z2:(er == 0) = false:=beq_eq_false_iff_ne.2 (tk_ne he)
  simp -implicitDefEqProofs (maxSteps:=1000000) (disch:=omega) only [↓zzP,zzA,zzL,zzB,reduceIte,reduceCtorEq,Nat.reduceLT,↓reduceIte,Nat.reduceEqDiff,Nat.reduceLeDiff,Nat.reduceAdd,Array.reduceGetElem?,↓gd,↓opP,↓qv,↓ef,↓stS,slot,putS,putO,ofV,fldA,sz,wrF,binH,binS2,binS,stor,z1,z2,hk]
  repeat (refine ⟨by omega,?_⟩)
  exact intoR_refl (by rw [putH_len]; exact Nat.le_refl _) (hE er (pNumM_e he) _ _ _ ((Ext.refl _ _).put _ (.inl rfl)) (lookH_put_same _ hlt) (RdK.put ⟨k,d,e,w,N,F,rfl,rfl,hr,hN,hF⟩ hk _))
 ·have hu:=tk_ok he
  have hp:=pNumM_o (most:=most) (over:=over) he
  by_cases c:n.toNat > most
  ·have z2:decide (nat n > ((most:Nat):Int)) = true:=decide_eq_true (by unfold nat; omega)
   have z1:(over != 0) = true:=bne_iff_ne.2 hov
   rw [if_pos c] at hp
   simp -implicitDefEqProofs (maxSteps:=1000000) (disch:=omega) only [↓zzP,zzA,zzL,zzB,reduceIte,reduceCtorEq,Nat.reduceLT,↓reduceIte,Nat.reduceEqDiff,Nat.reduceLeDiff,Nat.reduceAdd,Array.reduceGetElem?,↓gd,↓opP,↓qv,↓ef,↓stS,slot,putS,putO,ofV,fldA,sz,wrF,binH,binS2,binS,stor,z9,z1,z2,hk]
   repeat (refine ⟨by omega,?_⟩)
   exact intoR_refl (by rw [putH_len]; exact Nat.le_refl _) (hE over hp _ _ _ ((Ext.refl _ _).put _ (.inl rfl)) (lookH_put_same _ hlt) (RdK.put ⟨k,d,e,w,N,F,rfl,rfl,hr,hN,hF⟩ hk _))
  ·have z2:decide (nat n > ((most:Nat):Int)) = false:=decide_eq_false (by unfold nat; omega)
   rw [if_neg c] at hp
   simp -implicitDefEqProofs (maxSteps:=1000000) (disch:=omega) only [↓zzP,zzA,zzL,zzB,reduceIte,reduceCtorEq,Nat.reduceLT,↓reduceIte,Nat.reduceEqDiff,Nat.reduceLeDiff,Nat.reduceAdd,Array.reduceGetElem?,↓gd,↓opP,↓qv,↓ef,↓stS,slot,putS,putO,ofV,fldA,bnd,slS,rdF,Ent.row,ldS,sz,wrF,binH,binS2,binS,stor,z0,z9,z2,hk,hr]
   repeat (refine ⟨by omega,?_⟩)
   exact intoR_refl (by rw [putH_len]; exact Nat.le_refl _) (hO _ _ hp _ _ ((Ext.refl _ _).put _ (.inl rfl)) (lookH_put_same _ hlt) (RdK.put (RdK.drop hr hN hF u _ hu.2.1) hk _))
theorem k163 {kb:Nat} (bs:List By) (h:List Chunk) (kr:Nat) (sv:SV) (hk:lookH h kr = .cells true [sv,.int .i64 0]) (hB:RdK kb h sv bs) (hl:bs.length≤35184372088832) (e2:Int) (K:Tok→SV→List Chunk→Prop) (h1:∀ H sv' bs',Ext (fun j=>j = kr) h H→lookH H kr = .cells true [sv',.int .i64 e2]→RdK kb H sv' bs'→K .mk (.tup []) H):callP Try.prog 163 [.ptr kr 0,.int .i64 e2] h K:=by
 obtain ⟨k,d,e,w,N,F,rfl,rfl,hr,hN,hF⟩:=hB
 have hlt:=lookH_lt hk (by simp)
 have hkk:=ne_cr hk hr
 refine callP_of_code tabOk Try.func163 (by kernel_rfl) rfl (Nat.le_of_ble_eq_true rfl) (codeP_of_vc (pl:=np) tabOk follows_mixed (by kernel_rfl) ?_)
 rw [Try.ntmps163]
 have z1:((0:Int) == 0) = true:=rfl
 simp -implicitDefEqProofs (maxSteps:=1000000) (disch:=omega) only [↓zzP,zzA,zzL,zzB,reduceIte,reduceCtorEq,Nat.reduceLT,↓reduceIte,Nat.reduceEqDiff,Nat.reduceLeDiff,Nat.reduceAdd,↓gd,↓opP,↓qv,↓ef,↓stS,slot,putS,putO,ofV,fldA,rdF,Ent.row,ldS,sz,wrF,binH,binS2,binS,tupS,stor,res163,z1,hk]
 repeat (refine ⟨by omega,?_⟩)
 exact intoR_refl (by rw [putH_len]; exact Nat.le_refl _) (h1 _ _ _ ((Ext.refl _ _).put _ (.inl rfl)) (lookH_put_same _ hlt) (RdK.put ⟨k,d,e,w,N,F,rfl,rfl,hr,hN,hF⟩ hk _))
set_option maxHeartbeats 4000000 in
theorem k141 {kb:Nat} (bs:List By) (h:List Chunk) (kr:Nat) (sv:SV) (hk:lookH h kr = .cells true [sv,.int .i64 0]) (hB:RdK kb h sv bs) (hl:bs.length≤35184372088832) (most:Nat) (hm:most≤1125899906842624) (K:Tok→SV→List Chunk→Prop) (hE:∀ e2,pBytes most bs = .error e2→∀ H sv' bs',Ext (fun j=>j = kr) h H→lookH H kr = .cells true [sv',.int .i64 e2]→RdK kb H sv' bs'→K .mk (.v (.slice none 0 0)) H) (hO:∀ x bs',pBytes most bs = .ok (x,bs')→∀ H sv' k',Ext (fun j=>j = kr) h H→lookH H kr = .cells true [sv',.int .i64 0]→RdK kb H sv' bs'→h.length≤k'→lookH H k' = .row true x.length 1 (bt x)→K .mk (.osl k' 0 0 1 x.length) H):callP Try.prog 141 [.ptr kr 0,.int .i64 (most:Nat)] h K:=by
 obtain ⟨k,d,e,w,N,F,rfl,rfl,hr,hN,hF⟩:=hB
 have hlt:=lookH_lt hk (by simp)
 have hkk:=ne_cr hk hr
 refine callP_of_code tabOk Try.func141 (by kernel_rfl) rfl (Nat.le_of_ble_eq_true rfl) (codeP_of_vc (pl:=np) tabOk follows_mixed (by kernel_rfl) ?_)
 rw [Try.ntmps141]
 have z0:((0:Int) != 0) = false:=rfl
 simp -implicitDefEqProofs (maxSteps:=1000000) (disch:=omega) only [↓zzP,zzA,zzL,zzB,reduceIte,reduceCtorEq,Nat.reduceLT,↓reduceIte,Nat.reduceEqDiff,Nat.reduceLeDiff,Nat.reduceAdd,↓gd,↓opP,↓qv,slot,putS,putO,ofV,fldA,rdF,Ent.row,ldS,sz,binH,binS2,binS,tupS,res141,z0,hk]
 repeat (refine ⟨by omega,?_⟩)
 refine c162 bs h k d e w N F hr hN hF hl most hm _ (fun er he=>?_) (fun x u he H1 k1 hE1 hk1 hr1=>?_)
 ·have z1:(er != 0) = true:=bne_iff_ne.2 (tb_err he)
  simp -implicitDefEqProofs (maxSteps:=1000000) (disch:=omega) only [↓zzP,zzA,zzL,zzB,reduceIte,reduceCtorEq,Nat.reduceLT,↓reduceIte,Nat.reduceEqDiff,Nat.reduceLeDiff,Nat.reduceAdd,↓gd,↓opP,↓qv,↓ef,↓stS,slot,putS,putO,ofV,fldA,sz,wrF,binH,binS2,binS,stor,z1,hk]
  repeat (refine ⟨by omega,?_⟩)
  exact intoR_refl (by rw [putH_len]; exact Nat.le_refl _) (hE er (pBytes_e he) _ _ _ ((Ext.refl _ _).put _ (.inl rfl)) (lookH_put_same _ hlt) (RdK.put ⟨k,d,e,w,N,F,rfl,rfl,hr,hN,hF⟩ hk _))
 ·have hu:=tb_ok he
  have hkx:=hE1.look hk (by simp) fun h=>h
  have hrx:=hE1.look hr (by simp) fun h=>h
  have hl1:=lookH_lt hkx (by simp)
  have hEk:Ext (fun j=>j = kr) h H1:=hE1.mono fun _ h=>h.elim
  simp -implicitDefEqProofs (maxSteps:=1000000) (disch:=omega) only [↓zzP,zzA,zzL,zzB,reduceIte,reduceCtorEq,Nat.reduceLT,↓reduceIte,Nat.reduceEqDiff,Nat.reduceLeDiff,Nat.reduceAdd,↓gd,↓opP,↓qv,↓ef,↓stS,slot,putS,putO,ofV,fldA,bnd,slS,rdF,Ent.row,ldS,sz,wrF,binH,binS2,binS,stor,z0,hkx,hrx]
  repeat (refine ⟨by omega,?_⟩)
  exact intoR_refl (by rw [putH_len]; exact hE1.1) (hO _ _ (pBytes_o he) _ _ k1 (hEk.put (p:=kr) _ (.inl rfl)) (lookH_put_same _ hl1) (RdK.put (RdK.drop hrx hN hF u _ hu.2.1) hkx _) hk1 (by rw [lookH_put_ne _ (ne_cr hkx hr1)]; exact hr1))
set_option maxHeartbeats 4000000 in
theorem k142z {kb:Nat} (bs:List By) (h:List Chunk) (kr:Nat) (sv:SV) (hk:lookH h kr = .cells true [sv,.int .i64 0]) (hB:RdK kb h sv bs) (hl:bs.length≤35184372088832) (K:Tok→SV→List Chunk→Prop) (hE:∀ H sv' bs',Ext (fun j=>j = kr) h H→lookH H kr = .cells true [sv',.int .i64 4]→RdK kb H sv' bs'→K .mk (.agg [.int .i64 0,.int .i64 0,.int .i64 0,.int .i64 0,.fam 32 1 fun _=>.int .u8 0,.v (.slice none 0 0),.v (.slice none 0 0),.v (.slice none 0 0),.v (.slice none 0 0),.int .i64 0,.fam 32 1 fun _=>.int .u8 0]) H):callP Try.prog 142 [.ptr kr 0,.int .i64 3] h K:=by
 have hlt:=lookH_lt hk (by simp)
 have hd:((3:Int) == 3) = true:=rfl
 have z1:((4:Int) != 0) = true:=rfl
 refine callP_of_code tabOk Try.func142 (by kernel_rfl) rfl (Nat.le_of_ble_eq_true rfl) (codeP_of_vc (pl:=np) tabOk follows_mixed (by kernel_rfl) ?_)
 rw [Try.ntmps142]
 simp -implicitDefEqProofs (maxSteps:=1000000) (disch:=omega) only [↓zzP,zzA,zzB,reduceIte,reduceCtorEq,Nat.reduceLT,↓reduceIte,Nat.reduceEqDiff,Nat.reduceAdd,↓gd,↓opP,↓qv,↓ef,slot,putS,putO,ofV,asRow,rdF,Ent.row,ldS,binH,binS2,binS,tupS,res142,hd]
 repeat (refine ⟨by omega,?_⟩)
 refine k163 bs _ kr sv (lookH_old _ _ _ hk (by simp)) (hB.ext (extR_app _ _)) hl 4 _ fun H1 sv1 r1 hE1 hk1 hB1=>?_
 have hne:h.length ≠ kr:=by omega
 have e0:lookH H1 h.length = Chunk.cells true [.int .i64 0,.int .i64 0,.int .i64 0,.int .i64 0,.fam 32 1 fun _=>.int .u8 0,.v (.slice none 0 0),.v (.slice none 0 0),.v (.slice none 0 0),.v (.slice none 0 0),.int .i64 0,.fam 32 1 fun _=>.int .u8 0]:=hE1.look (lookH_app0 _ _) (by simp) fun h=>absurd h hne
 have l0:=lookH_lt e0 (by simp)
 obtain ⟨k1,d1,x1,w1,N1,F1,rfl,rfl,hr1,hN1,hF1⟩:=id hB1
 simp -implicitDefEqProofs (maxSteps:=1000000) (disch:=omega) only [↓zzP,zzA,reduceIte,reduceCtorEq,Nat.reduceLT,↓reduceIte,↓gd,↓opP,↓qv,slot,putS,putO,ofV]
 repeat (refine ⟨by omega,?_⟩)
 refine c141x H1 kr k1 d1 x1 _ 4 hk1 (by decide) _ _ ?_
 simp -implicitDefEqProofs (maxSteps:=1000000) (disch:=omega) only [↓zzP,zzA,zzL,zzB,Nat.reduceSub,reduceIte,reduceCtorEq,Nat.reduceLT,↓reduceIte,Nat.reduceEqDiff,Nat.reduceLeDiff,Nat.reduceAdd,↓gd,↓opP,↓qv,↓ef,↓stS,slot,putS,putO,ofV,fldA,asRow,rdF,Ent.row,ldS,sz,wrF,bldS,binH,binS2,binS,stor,Value.oneCell',z1,hk1,e0,lookH_put_same]
 repeat (refine ⟨by omega,?_⟩)
 have hE2:Ext (fun j=>j = kr) h H1:=((Ext.refl _ _).app _).trans hE1
 exact intoR_refl (by rw [putH_len]; exact hE2.1) (hE _ _ _ (hE2.put (p:=h.length) _ (.inr (Nat.le_refl _))) (by rw [lookH_put_ne _ (Ne.symm hne)]; exact hk1) (RdK.put hB1 e0 _))
set_option maxHeartbeats 8000000 in
theorem k142 {kb:Nat} (D:Nat) (hD:D≤5) (hR:ReadRAt D) (bs:List By) (h:List Chunk) (kr:Nat) (sv:SV) (hk:lookH h kr = .cells true [sv,.int .i64 0]) (hB:RdK kb h sv bs) (hl:bs.length≤35184372088832) (K:Tok→SV→List Chunk→Prop) (hE:∀ e2,qM (D+1) bs = .error e2→∀ H sv' bs' x,Ext (fun j=>j = kr) h H→lookH H kr = .cells true [sv',.int .i64 e2]→RdK kb H sv' bs'→ErrM x→K .mk x H) (hO:∀ m u,qM (D+1) bs = .ok (m,u)→∀ H sv' x,Ext (fun j=>j = kr) h H→lookH H kr = .cells true [sv',.int .i64 0]→RdK kb H sv' (bs.drop u)→RelM (fresh h.length H) m x→K .mk x H):callP Try.prog 142 [.ptr kr 0,.int .i64 (3 - ((D+1:Nat):Int))] h K:=by
 have hlt:=lookH_lt hk (by simp)
 obtain ⟨dp,hdp⟩:∃ dp:Int,dp = 3 - ((D+1:Nat):Int):=⟨_,rfl⟩
 rw [← hdp]
 have hd:(dp == 3) = false:=by rw [beq_eq_false_iff_ne]; omega
 have z2:IntKind.i64.wrap (dp+1) = 3 - (D:Int):=by rw [wrap64 (by omega) (by omega)]; omega
 have hne:h.length ≠ kr:=by omega
 refine callP_of_code tabOk Try.func142 (by kernel_rfl) rfl (Nat.le_of_ble_eq_true rfl) (codeP_of_vc (pl:=np) tabOk follows_mixed (by kernel_rfl) ?_)
 rw [Try.ntmps142]
 simp -implicitDefEqProofs (maxSteps:=1000000) (disch:=omega) only [↓zzP,zzA,zzB,reduceIte,reduceCtorEq,Nat.reduceLT,↓reduceIte,Nat.reduceEqDiff,Nat.reduceAdd,↓gd,↓opP,↓qv,↓ef,slot,putS,putO,ofV,asRow,rdF,Ent.row,ldS,binH,binS2,binS,tupS,res142,hd]
 repeat (refine ⟨by omega,?_⟩)
 refine k141 bs _ kr sv (lookH_old _ _ _ hk (by simp)) (hB.ext (extR_app _ _)) hl 1048576 (by omega) _ (fun e2 he H1 sv1 r1 hE1 hk1 hB1=>?_) (fun s r1 he H1 sv1 k1 hE1 hk1 hB1 hkl hrow=>?_)
 ·have e0:lookH H1 h.length = Chunk.cells true [.int .i64 0,.int .i64 0,.int .i64 0,.int .i64 0,.fam 32 1 fun _=>.int .u8 0,.v (.slice none 0 0),.v (.slice none 0 0),.v (.slice none 0 0),.v (.slice none 0 0),.int .i64 0,.fam 32 1 fun _=>.int .u8 0]:=hE1.look (lookH_app0 _ _) (by simp) fun h=>absurd h hne
  obtain ⟨k2,d2,x2,w2,N2,F2,rfl,rfl,hr2,hN2,hF2⟩:=id hB1
  have l0:=lookH_lt e0 (by simp)
  have ht:=pB_e he
  have z1:(e2 != 0) = true:=bne_iff_ne.2 (tb_err ht)
  have hE2:Ext (fun j=>j = kr) h H1:=((Ext.refl _ _).app _).trans hE1
  simp -implicitDefEqProofs (maxSteps:=1000000) (disch:=omega) only [↓zzP,zzA,zzL,zzB,Nat.reduceSub,reduceIte,reduceCtorEq,Nat.reduceLT,↓reduceIte,Nat.reduceEqDiff,Nat.reduceLeDiff,Nat.reduceAdd,↓gd,↓opP,↓qv,↓ef,↓stS,slot,putS,putO,ofV,fldA,asRow,rdF,Ent.row,ldS,sz,wrF,bldS,binH,binS2,binS,stor,Value.oneCell',z1,hk1,e0,lookH_put_same]
  repeat (refine ⟨by omega,?_⟩)
  exact intoR_refl (by rw [putH_len]; exact hE2.1) (hE e2 (by rw [qM,ht]) _ _ _ _ (hE2.put (p:=h.length) _ (.inr (Nat.le_refl _))) (by rw [lookH_put_ne _ (Ne.symm hne)]; exact hk1) (RdK.put hB1 e0 _) errM_zero)
 ·obtain ⟨u,ht,rfl⟩:=pB_o he
  obtain ⟨k2,d2,x2,w2,N2,F2,rfl,rfl,hr2,hN2,hF2⟩:=id hB1
  have e0:lookH H1 h.length = Chunk.cells true [.int .i64 0,.int .i64 0,.int .i64 0,.int .i64 0,.fam 32 1 fun _=>.int .u8 0,.v (.slice none 0 0),.v (.slice none 0 0),.v (.slice none 0 0),.v (.slice none 0 0),.int .i64 0,.fam 32 1 fun _=>.int .u8 0]:=hE1.look (lookH_app0 _ _) (by simp) fun h=>absurd h hne
  have hs:=tb_most ht
  have z1:((0:Int) != 0) = false:=rfl
  have hE2:Ext (fun j=>j = kr) h H1:=((Ext.refl _ _).app _).trans hE1
  have hrs:rdR D s = rdMsg (qM D) s:=by unfold rdR; rw [if_neg (by omega)]
  simp -implicitDefEqProofs (maxSteps:=1000000) (disch:=omega) only [↓zzP,zzA,zzL,zzB,reduceIte,reduceCtorEq,Nat.reduceLT,↓reduceIte,Nat.reduceEqDiff,Nat.reduceLeDiff,↓gd,↓opP,↓qv,slot,putS,putO,ofV,fldA,rdF,Ent.row,ldS,sz,binH,binS2,binS,z1,z2,hk1]
  repeat (refine ⟨by omega,?_⟩)
  refine hR s H1 k1 0 0 true s.length _ hrow (by omega) (fun i hi=>by rw [Nat.zero_add]) (by omega) _ (fun er he2 hne2 H2 x hE3 hx=>?_) (fun m he2 H2 x hE3 hrel=>?_)
  ·rw [hrs] at he2
   obtain ⟨lx,rfl,yk,yf,yv,ys,yd,s5,s6,s7,s8,ykey,yof,rfl⟩:=hx
   have f0:=hE3.look e0 (by simp) fun h=>h
   have hk2:=hE3.look hk1 (by simp) fun h=>h
   have l0:=lookH_lt f0 (by simp)
   have l1:=lookH_lt hk2 (by simp)
   have hE4:=hE2.trans (hE3.mono fun _ h=>h.elim)
   have hB2:=hB1.ext (ext_rows hE3 fun _ h=>h.elim)
   have f0':∀ c,lookH (putH H2 kr c) h.length = Chunk.cells true [.int .i64 0,.int .i64 0,.int .i64 0,.int .i64 0,.fam 32 1 fun _=>.int .u8 0,.v (.slice none 0 0),.v (.slice none 0 0),.v (.slice none 0 0),.v (.slice none 0 0),.int .i64 0,.fam 32 1 fun _=>.int .u8 0]:=fun c=>by rw [lookH_put_ne _ hne]; exact f0
   simp -implicitDefEqProofs (maxSteps:=1000000) (disch:=omega) only [↓zzP,zzA,zzL,zzB,Nat.reduceSub,reduceIte,reduceCtorEq,Nat.reduceLT,↓reduceIte,Nat.reduceEqDiff,Nat.reduceLeDiff,Nat.reduceAdd,↓gd,↓opP,↓qv,↓ef,↓stS,slot,putS,putO,fldA,rdF,Ent.row,ldS,sz,wrF,stor,hk2,f0',lookH_at,putH_at,lookH_pB,lookH_pA0,putH_pC,lookH_pD,Sl.sz,Sl.stor]
   repeat (refine ⟨by omega,?_⟩)
   refine intoR_refl (by rw [List.length_append,putH_len,putH_len]; exact Nat.le_trans hE4.1 (Nat.le_add_right _ _)) (hE er (by rw [qM,ht]; simp only [he2]) _ _ _ _ (((hE4.put (p:=kr) _ (.inl rfl)).put (p:=h.length) _ (.inr (Nat.le_refl _))).app _) (by rw [lookH_at _ (by rw [putH_len,putH_len]; exact l1),lookH_put_ne _ (Ne.symm hne),lookH_put_same _ l1]) (RdK.ext (RdK.put (RdK.put hB2 hk2 _) (f0' _) _) (extR_app _ _)) ⟨_,rfl,yk,yf,yv,ys,yd,s5,s6,s7,s8,ykey,yof,rfl⟩)
  ·rw [hrs] at he2
   obtain ⟨lx,rfl,hmx,hwx⟩:=id hrel
   obtain ⟨xk,xf,xv,xs,xd,xkb,xnb,xkbs,xnbs,xkp,xnp,xkq,xnq,xkey,xof,rfl⟩:=hmx.open
   have f0:=hE3.look e0 (by simp) fun h=>h
   have hk2:=hE3.look hk1 (by simp) fun h=>h
   have l0:=lookH_lt f0 (by simp)
   have l1:=lookH_lt hk2 (by simp)
   have hE4:=hE2.trans (hE3.mono fun _ h=>h.elim)
   have hB2:=hB1.ext (ext_rows hE3 fun _ h=>h.elim)
   have f0':∀ c,lookH (putH H2 kr c) h.length = Chunk.cells true [.int .i64 0,.int .i64 0,.int .i64 0,.int .i64 0,.fam 32 1 fun _=>.int .u8 0,.v (.slice none 0 0),.v (.slice none 0 0),.v (.slice none 0 0),.v (.slice none 0 0),.int .i64 0,.fam 32 1 fun _=>.int .u8 0]:=fun c=>by rw [lookH_put_ne _ hne]; exact f0
   simp -implicitDefEqProofs (maxSteps:=1000000) (disch:=omega) only [↓zzP,zzA,zzL,zzB,Nat.reduceSub,reduceIte,reduceCtorEq,Nat.reduceLT,↓reduceIte,Nat.reduceEqDiff,Nat.reduceLeDiff,Nat.reduceAdd,↓gd,↓opP,↓qv,↓ef,↓stS,slot,putS,putO,fldA,rdF,Ent.row,ldS,sz,wrF,stor,hk2,f0',lookH_at,putH_at,lookH_pB,lookH_pA0,putH_pC,lookH_pD]
   repeat (refine ⟨by omega,?_⟩)
   refine intoR_refl (by rw [List.length_append,putH_len,putH_len]; exact Nat.le_trans hE4.1 (Nat.le_add_right _ _)) (hO m u (by rw [qM,ht]; simp only [he2]) _ _ _ (((hE4.put (p:=kr) _ (.inl rfl)).put (p:=h.length) _ (.inr (Nat.le_refl _))).app _) (by rw [lookH_at _ (by rw [putH_len,putH_len]; exact l1),lookH_put_ne _ (Ne.symm hne),lookH_put_same _ l1]) (RdK.ext (RdK.put (RdK.put hB2 hk2 _) (f0' _) _) (extR_app _ _)) (RelM.mono _ _ _ _ ?_ hrel))
   exact extT (extT (extR_f5 hE2.1) (extR_cells _ hk2)) (extT (extR_cells _ (f0' _)) (extR_fa _ _))
end Go.Proofs.Ytgocfglmideobaa
