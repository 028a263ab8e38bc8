/- Texts put together: Contracts of functions that the laws reach, by the symbolic executor. No condition. -/
import Derived.Test.YtgocfglmideobaaMc
set_option linter.all false
set_option maxRecDepth 40000
namespace Go.Proofs.Ytgocfglmideobaa
open Go Go.Sx
theorem res58:Try.f58.results.toList = [.tmp 4]:=rfl
theorem sim_last {A:List Chunk} {c c':Chunk} (hc:chSim c c'):Sim (A++[c]) (A++[c']):=⟨by simp,fun k=>by
 by_cases h1:k < A.length
 ·rw [lookH_at _ h1,lookH_at _ h1]; exact chSim.refl _
 ·obtain ⟨i,rfl⟩:∃ i,k = A.length+i:=⟨k - A.length,by omega⟩
  rw [lookH_app,lookH_app]
  cases i with
  | zero=>exact hc
  | succ i=>exact chSim.refl _⟩
theorem chSim_row {wr:Bool} {n n' s:Nat} {f f':Nat→SV} (hn:n = n') (hf:∀ i,i < n→f i = f' i):chSim (.row wr n s f) (.row wr n' s f'):=by
 subst hn
 exact ⟨f',rfl,hf⟩
theorem sim_two {A:List Chunk} {c1 c c':Chunk} (hc:chSim c c'):Sim (A++[c1,c]) (A++[c1,c']):=by
 have:=sim_last (A:=A++[c1]) hc
 simpa using this
theorem callP_simL {P:Pr} {f:FuncId} {args:List SV} {h h':List Chunk} {K:Tok→SV→List Chunk→Prop} (hs:Sim h h') (hc:callP P f args h' K):callP P f args h K:=by
 intro C ρ w hkn hM hok
 have:=hc C ρ w hkn (hM.sim hs) (by rw [← hs.1]; exact hok)
 rcases this with ⟨w',ρ',sv,h2,q1,q2,q3,q4,q5,q6⟩ | ⟨h1,h2⟩
 ·exact .inl ⟨w',ρ',sv,h2,q1,q2,q3,by rw [hs.1]; exact q4,q5,by rw [hs.1]; exact q6⟩
 ·refine .inr ⟨h1,fun F n hF hro=>CallsIn.mono (h2 F n hF hro) ?_⟩
  rintro e w' ⟨ρ',sv,h3,rfl,q2,q3,q4,q5,q6⟩
  exact ⟨ρ',sv,h3,rfl,q2,q3,by rw [hs.1]; exact q4,q5,by rw [hs.1]; exact q6⟩
def mayP (k:Int) (q:List (Msg × List Msg)):Int:=if hPrep k = false∧0 < q.length then 1 else if q.length > 64 then 18 else mayQ (hPreps k) q
theorem mayQ_drop (is:Bool) (q:List (Msg × List Msg)) {i:Nat} (hi:i < q.length):mayQ is (q.drop i) = if mayW true 2 [q[i].1] ≠ 0 then mayW true 2 [q[i].1] else if mayW is 3 q[i].2 ≠ 0 then mayW is 3 q[i].2 else mayQ is (q.drop (i+1)):=by
 rw [List.drop_eq_getElem_cons hi]
 obtain ⟨⟨m,l⟩,hm⟩:∃ x,q[i] = x:=⟨_,rfl⟩
 rw [hm,mayQ]
 have e:mayW true 2 [m] = if m.kind ≠ 2 then 1 else may m:=by
  unfold mayW
  rw [if_neg (by simp),if_neg (by simp),mayL,mayL]
  by_cases h1:m.kind ≠ 2
  ·rw [if_pos h1,if_pos h1]
  ·rw [if_neg h1,if_neg h1]
   by_cases h2:may m ≠ 0
   ·rw [if_pos h2]
   ·rw [if_neg h2]
    have:may m = 0:=Classical.not_not.1 h2
    exact this.symm
 show _ = if mayW true 2 [m] ≠ 0 then mayW true 2 [m] else if mayW is 3 l ≠ 0 then mayW is 3 l else _
 rw [e]
 rfl
set_option maxHeartbeats 4000000 in
theorem c58R (k:Int) (q:List (Msg × List Msg)) (IH:∀ x ∈ q,MayAt x.1∧∀ m ∈ x.2,MayAt m) (kq:Nat) (wq:Bool) (fq:Nat→List SV) (h:List Chunk) (hrow:lookH h kq = .row wq q.length 74 fun i=>.agg (fq i)) (hq:PrepsH h q fq) (K:Tok→SV→List Chunk→Prop) (hK:K .mk (.int .i64 (mayP k q)) h) :
  callP Try.prog 58 [.osl kq 0 0 74 q.length,hasS k] h K:=by
 refine callP_good fun hgood=>?_
 have drop:∀ (H1 x:List Chunk) e,H1 = h++x→mayP k q = e→IntoR h.length (.int .i64 e) H1 K:=fun H1 x e hH he=>by
  rw [he] at hK
  rw [hH]
  exact intoR_drop hgood trivial hK
 obtain ⟨NC,hNC⟩:∃ NC:Prop,NC ↔ ¬ (hPrep k = false∧0 < q.length):=⟨_,Iff.rfl⟩
 refine callP_of_code tabOk Try.func58 (by kernel_rfl) rfl (Nat.le_of_ble_eq_true rfl) ?_
 rw [Try.ntmps58]
 unfold hasS
 refine codeP_seq (pl:=np) tabOk follows_mixed (by kernel_rfl) (fun st=>∃ (H0 x:List Chunk) (j:Nat→Value),H0 = h++x∧lookH H0 h.length = (.cells true [.bool (hView k),.bool (hSeq k),.bool (hDig k),.bool (hBun k),.bool (hBuns k),.bool (hProof k),.bool (hPrep k),.bool (hPreps k),.int .i64 (if k = 7 then 6 else if k = 6 ∨ k = 9 then 5 else 0)])∧st = ⟨⟨44,[(0,.osl kq 0 0 74 q.length),(3,.ptr h.length 0),(4,.int .i64 0)],j⟩,H0,[]⟩) ?_ ?_
 ·simp -implicitDefEqProofs (maxSteps:=1000000) (disch:=omega) only [↓zzP,zzA,zzB,reduceIte,reduceCtorEq,Nat.reduceLT,↓reduceIte,Nat.reduceAdd,↓gd,↓opP,↓qv,↓ef,slot,putS,putO,ofV,stor]
  repeat (refine ⟨by omega,?_⟩)
  refine into_keep [(0,.osl kq 0 0 74 q.length),(3,.ptr h.length 0),(4,.int .i64 0)] (by simp [sameT,slot,lkL]) fun j=>⟨_,_,j,rfl,lookH_end _ _,rfl⟩
 rintro _ ⟨H0,x0,j0,hH0,hx0,rfl⟩
 refine codeP_seq (pl:=np) tabOk follows_mixed (by kernel_rfl) (fun st=>∃ (j:Nat→Value),NC∧q.length≤64∧st = ⟨⟨44,[(0,.osl kq 0 0 74 q.length),(3,.ptr h.length 0),(4,.int .i64 0)],j⟩,H0,[]⟩) ?_ ?_
 ·by_cases c1:hPrep k = false∧0 < q.length
  ·have z1:decide (((q.length:Nat):Int) > 0) = true:=decide_eq_true (by omega)
   have hd:=drop H0 _ 1 hH0 (by unfold mayP; rw [if_pos c1])
   have z2:=c1.1
   simp -implicitDefEqProofs (maxSteps:=1000000) (disch:=omega) only [↓zzP,zzA,zzL,zzB,Nat.reduceSub,reduceIte,reduceCtorEq,Nat.reduceLT,↓reduceIte,Nat.reduceEqDiff,Nat.reduceLeDiff,Array.reduceGetElem?,↓gd,↓opP,↓qv,slot,putS,putO,ofV,fldA,unS,lenS,rdF,Ent.row,ldS,sz,binH,binS2,binS,tupS,res58,z1,z2,hx0]
   repeat (refine ⟨by omega,?_⟩)
   exact hd
  ·have hc:∀ {P:Prop},(hPrep k = true→P)→(hPrep k = false→decide (((q.length:Nat):Int) > 0) = false→P)→P:=fun a c=>by
    cases z:hPrep k with
    | true=>exact a z
    | false=>exact c z (decide_eq_false (fun h=>c1 ⟨z,by omega⟩))
   have nc:=hNC.2 c1
   by_cases c3:q.length > 64
   ·have z6:decide (((q.length:Nat):Int) > 64) = true:=decide_eq_true (by omega)
    have hd:=drop H0 _ 18 hH0 (by unfold mayP; rw [if_neg c1,if_pos c3])
    refine hc (fun z1=>?_) fun z1 z3=>?_
    ·simp -implicitDefEqProofs (maxSteps:=1000000) (disch:=omega) only [↓zzP,zzA,zzL,zzB,Nat.reduceSub,reduceIte,reduceCtorEq,Nat.reduceLT,↓reduceIte,Nat.reduceEqDiff,Nat.reduceLeDiff,Array.reduceGetElem?,↓gd,↓opP,↓qv,slot,putS,putO,ofV,fldA,unS,lenS,rdF,Ent.row,ldS,sz,binH,binS2,binS,tupS,res58,z1,z6,hx0]
     repeat (refine ⟨by omega,?_⟩)
     exact hd
    ·simp -implicitDefEqProofs (maxSteps:=1000000) (disch:=omega) only [↓zzP,zzA,zzL,zzB,Nat.reduceSub,reduceIte,reduceCtorEq,Nat.reduceLT,↓reduceIte,Nat.reduceEqDiff,Nat.reduceLeDiff,Array.reduceGetElem?,↓gd,↓opP,↓qv,slot,putS,putO,ofV,fldA,unS,lenS,rdF,Ent.row,ldS,sz,binH,binS2,binS,tupS,res58,z1,z3,z6,hx0]
     repeat (refine ⟨by omega,?_⟩)
     exact hd
   ·have z6:decide (((q.length:Nat):Int) > 64) = false:=decide_eq_false (by omega)
    refine hc (fun z1=>?_) fun z1 z3=>?_
    ·simp -implicitDefEqProofs (maxSteps:=1000000) (disch:=omega) only [↓zzP,zzA,zzL,zzB,Nat.reduceSub,reduceIte,reduceCtorEq,Nat.reduceLT,↓reduceIte,Nat.reduceEqDiff,Nat.reduceLeDiff,Array.reduceGetElem?,↓gd,↓opP,↓qv,slot,putS,putO,ofV,fldA,unS,lenS,rdF,Ent.row,ldS,sz,binH,binS2,binS,z1,z6,hx0]
     repeat (refine ⟨by omega,?_⟩)
     exact into_keep [(0,.osl kq 0 0 74 q.length),(3,.ptr h.length 0),(4,.int .i64 0)] (by simp [sameT,slot,lkL]) fun j=>⟨j,nc,by omega,rfl⟩
    ·simp -implicitDefEqProofs (maxSteps:=1000000) (disch:=omega) only [↓zzP,zzA,zzL,zzB,Nat.reduceSub,reduceIte,reduceCtorEq,Nat.reduceLT,↓reduceIte,Nat.reduceEqDiff,Nat.reduceLeDiff,Array.reduceGetElem?,↓gd,↓opP,↓qv,slot,putS,putO,ofV,fldA,unS,lenS,rdF,Ent.row,ldS,sz,binH,binS2,binS,z1,z3,z6,hx0]
     repeat (refine ⟨by omega,?_⟩)
     exact into_keep [(0,.osl kq 0 0 74 q.length),(3,.ptr h.length 0),(4,.int .i64 0)] (by simp [sameT,slot,lkL]) fun j=>⟨j,nc,by omega,rfl⟩
 ·rintro _ ⟨j2,hnc,hl,rfl⟩
  have hmay:mayP k q = mayQ (hPreps k) q:=by unfold mayP; rw [if_neg (hNC.1 hnc),if_neg (by omega)]
  refine codeP_of_vc (pl:=np) tabOk follows_mixed (by kernel_rfl) ?_
  simp -implicitDefEqProofs (maxSteps:=1000000) (disch:=omega) only [↓zzP,zzA,reduceIte,reduceCtorEq,Nat.reduceLT,↓reduceIte,↓gd,↓opP,↓qv,slot,putS,putO,ofV,lenS,tupS,res58]
  repeat (refine ⟨by omega,?_⟩)
  refine codeP_loop (pl:=np) tabOk follows_mixed (by kernel_rfl) (fun z st=>∃ (i:Nat) (H1 x:List Chunk) (j:Nat→Value),i+z = q.length∧H1 = h++x∧lookH H1 h.length = (.cells true [.bool (hView k),.bool (hSeq k),.bool (hDig k),.bool (hBun k),.bool (hBuns k),.bool (hProof k),.bool (hPrep k),.bool (hPreps k),.int .i64 (if k = 7 then 6 else if k = 6 ∨ k = 9 then 5 else 0)])∧mayQ (hPreps k) q = mayQ (hPreps k) (q.drop i)∧st = ⟨⟨44,[(0,.osl kq 0 0 74 q.length),(3,.ptr h.length 0),(4,.int .i64 0),(22,.osl kq 0 0 74 q.length),(23,.int .i64 (q.length:Nat)),(24,.int .i64 (i:Nat))],j⟩,H1,[]⟩) ?_ ?_
  ·refine into_keep [(0,.osl kq 0 0 74 q.length),(3,.ptr h.length 0),(4,.int .i64 0),(22,.osl kq 0 0 74 q.length),(23,.int .i64 (q.length:Nat)),(24,.int .i64 (0:Nat))] (by simp [sameT,slot,lkL]) fun j=>⟨q.length,0,H0,x0,j,by omega,hH0,hx0,rfl,rfl⟩
  ·rintro z st ⟨i,H1,x,j,hiz,hH1,hx1,hmi,rfl⟩
   have hE:Ext (fun _=>False) h H1:=by rw [hH1]; exact (Ext.refl _ _).app _
   have hrow1:=hE.look hrow (by simp) fun h=>h
   have hl1:h.length < H1.length:=lookH_lt hx1 (by simp)
   by_cases hi:i < q.length
   ·have g1:decide ((i:Int) < (q.length:Nat)) = true:=decide_eq_true (by omega)
    have a1:IntKind.i64.wrap ((i:Int)+1) = ((i+1:Nat):Int):=by rw [wrap64 (by omega) (by omega)]; omega
    have hd:=mayQ_drop (hPreps k) q hi
    have hM:=hq.get hi
    have hIH:=IH q[i] (List.getElem_mem hi)
    obtain ⟨mi,hmi2⟩:∃ mi,q[i] = mi:=⟨_,rfl⟩
    rw [hmi2] at hd hM hIH
    obtain ⟨m,l⟩:=mi
    obtain ⟨lm,kl,wl,fl,hfi,hM1,hrl,hls⟩:=hM
    have hM0:=hM1
    obtain ⟨k',f',v',s',d',b',bs',p',q',key',of'⟩:=m
    rw [MsgH] at hM1
    obtain ⟨sb,sbs,kp',wp',fp',kq',wq',fq',hlm,h1,h2,h3,h4,h5,h6⟩:=hM1
    obtain ⟨kb,wb,rfl,_⟩:=h1
    obtain ⟨kbs,wbs,fb,rfl,_,_⟩:=h2
    unfold dig32 at hlm
    rw [hlm] at hfi hM0
    simp only [List.cons_append,List.nil_append] at hfi
    simp only at hrl hls hd hIH hfi
    simp -implicitDefEqProofs (maxSteps:=1000000) (disch:=omega) only [↓zzP,zzA,zzL,zzB,Nat.reduceSub,reduceIte,reduceCtorEq,Nat.reduceMul,Nat.reduceLT,↓reduceIte,Nat.reduceEqDiff,Nat.reduceLeDiff,Nat.reduceAdd,↓gd,↓opP,↓qv,↓ef,↓bslS,↓stS,slot,putS,putO,ofV,fldA,idxA,rdF,Ent.row,ldS,sz,wrF,binH,binS2,binS,stor,g1,hrow1,hfi]
    repeat (refine ⟨by omega,?_⟩)
    obtain ⟨L,hL⟩:∃ L:List SV,L = [.int .i64 k',.int .i64 f',.int .i64 v',.int .i64 s',.fam 32 1 fun i=>.int .u8 (nat (d' i)),.osl kb 0 0 1 b'.length,.osl kbs 0 0 1 bs'.length,.osl kp' 0 0 73 p'.length,.osl kq' 0 0 74 q'.length,.int .i64 key',.fam 32 1 fun i=>.int .u8 (nat (of' i))]:=⟨_,rfl⟩
    refine callP_simL (h':=H1++[Chunk.cells true [.int .i64 k',.int .i64 f',.int .i64 v',.int .i64 s',.fam 32 1 fun i=>.int .u8 (nat (d' i)),.osl kb 0 0 1 b'.length,.osl kbs 0 0 1 bs'.length,.osl kp' 0 0 73 p'.length,.osl kq' 0 0 74 q'.length,.int .i64 key',.fam 32 1 fun i=>.int .u8 (nat (of' i)),.osl kl 0 0 73 l.length],.row true 1 73 fun i=>.agg L]) (sim_two (chSim_row rfl fun i hi=>by obtain rfl:i = 0:=(by omega); rw [hL]; rfl)) ?_
    have hE2:Ext (fun _=>False) H1 (H1++[Chunk.cells true [.int .i64 k',.int .i64 f',.int .i64 v',.int .i64 s',.fam 32 1 fun i=>.int .u8 (nat (d' i)),.osl kb 0 0 1 b'.length,.osl kbs 0 0 1 bs'.length,.osl kp' 0 0 73 p'.length,.osl kq' 0 0 74 q'.length,.int .i64 key',.fam 32 1 fun i=>.int .u8 (nat (of' i)),.osl kl 0 0 73 l.length],.row true 1 73 fun i=>.agg L]):=(Ext.refl _ _).app _
    have hr2:lookH (H1++[Chunk.cells true [.int .i64 k',.int .i64 f',.int .i64 v',.int .i64 s',.fam 32 1 fun i=>.int .u8 (nat (d' i)),.osl kb 0 0 1 b'.length,.osl kbs 0 0 1 bs'.length,.osl kp' 0 0 73 p'.length,.osl kq' 0 0 74 q'.length,.int .i64 key',.fam 32 1 fun i=>.int .u8 (nat (of' i)),.osl kl 0 0 73 l.length],.row true 1 73 fun i=>.agg L]) (H1.length+1) = .row true 1 73 fun i=>.agg L:=lookH_app _ 1 _
    have hp2:lookH (H1++[Chunk.cells true [.int .i64 k',.int .i64 f',.int .i64 v',.int .i64 s',.fam 32 1 fun i=>.int .u8 (nat (d' i)),.osl kb 0 0 1 b'.length,.osl kbs 0 0 1 bs'.length,.osl kp' 0 0 73 p'.length,.osl kq' 0 0 74 q'.length,.int .i64 key',.fam 32 1 fun i=>.int .u8 (nat (of' i)),.osl kl 0 0 73 l.length],.row true 1 73 fun i=>.agg L]) H1.length = Chunk.cells true [.int .i64 k',.int .i64 f',.int .i64 v',.int .i64 s',.fam 32 1 fun i=>.int .u8 (nat (d' i)),.osl kb 0 0 1 b'.length,.osl kbs 0 0 1 bs'.length,.osl kp' 0 0 73 p'.length,.osl kq' 0 0 74 q'.length,.int .i64 key',.fam 32 1 fun i=>.int .u8 (nat (of' i)),.osl kl 0 0 73 l.length]:=lookH_app0 _ _
    obtain ⟨H2,hH2⟩:∃ H2,H2 = H1++[Chunk.cells true [.int .i64 k',.int .i64 f',.int .i64 v',.int .i64 s',.fam 32 1 fun i=>.int .u8 (nat (d' i)),.osl kb 0 0 1 b'.length,.osl kbs 0 0 1 bs'.length,.osl kp' 0 0 73 p'.length,.osl kq' 0 0 74 q'.length,.int .i64 key',.fam 32 1 fun i=>.int .u8 (nat (of' i)),.osl kl 0 0 73 l.length],.row true 1 73 fun i=>.agg L]:=⟨_,rfl⟩
    rw [← hH2] at hE2 hr2 hp2 ⊢
    have hx2:=hE2.look hx1 (by simp) fun h=>h
    have hH2':H2 = h++(x++[Chunk.cells true [.int .i64 k',.int .i64 f',.int .i64 v',.int .i64 s',.fam 32 1 fun i=>.int .u8 (nat (d' i)),.osl kb 0 0 1 b'.length,.osl kbs 0 0 1 bs'.length,.osl kp' 0 0 73 p'.length,.osl kq' 0 0 74 q'.length,.int .i64 key',.fam 32 1 fun i=>.int .u8 (nat (of' i)),.osl kl 0 0 73 l.length],.row true 1 73 fun i=>.agg L]):=by rw [hH2,hH1,List.append_assoc]
    obtain ⟨m,hm⟩:∃ m,m = Msg.mk k' f' v' s' d' b' bs' p' q' key' of':=⟨_,rfl⟩
    rw [← hm] at hM0 hIH hd
    rw [← hL] at hM0
    refine c57R true 2 [m] (fun m' hm'=>by rw [List.mem_singleton] at hm'; rw [hm']; exact hIH.1) (H1.length+1) true (fun _=>L) H2 hr2 (by rw [MsgsH,MsgsH]; exact ⟨(hM0.ext hE).ext hE2,trivial⟩) _ ?_
    by_cases e1:mayW true 2 [m] = 0
    ·have z2:(mayW true 2 [m] != 0) = false:=by rw [e1]; rfl
     rw [if_neg (fun h=>h e1)] at hd
     simp -implicitDefEqProofs (maxSteps:=1000000) (disch:=omega) only [↓zzP,zzA,zzL,zzB,Nat.reduceSub,reduceIte,reduceCtorEq,Nat.reduceLT,↓reduceIte,Nat.reduceEqDiff,Nat.reduceLeDiff,↓gd,↓opP,↓qv,slot,putS,putO,ofV,fldA,rdF,Ent.row,ldS,sz,binH,binS2,binS,z2,hx2,hp2]
     repeat (refine ⟨by omega,?_⟩)
     refine c57R (hPreps k) 3 l hIH.2 kl wl fl H2 ((hE.trans hE2).look hrl (by simp) fun h=>h) (hls.ext (hE.trans hE2)) _ ?_
     by_cases e2:mayW (hPreps k) 3 l = 0
     ·have z3:(mayW (hPreps k) 3 l != 0) = false:=by rw [e2]; rfl
      rw [if_neg (fun h=>h e2)] at hd
      simp -implicitDefEqProofs (maxSteps:=1000000) (disch:=omega) only [↓zzP,zzA,reduceIte,reduceCtorEq,Nat.reduceLT,↓reduceIte,Nat.reduceEqDiff,↓gd,↓opP,↓qv,slot,putS,putO,ofV,binH,binS2,binS,z3,a1]
      repeat (refine ⟨by omega,?_⟩)
      exact into_keep [(0,.osl kq 0 0 74 q.length),(3,.ptr h.length 0),(4,.int .i64 0),(22,.osl kq 0 0 74 q.length),(23,.int .i64 (q.length:Nat)),(24,.int .i64 (i+1:Nat))] (by simp [sameT,slot,lkL]) fun j=>⟨z - 1,by omega,i+1,H2,_,j,by omega,hH2',hx2,hmi.trans hd,rfl⟩
     ·have z3:(mayW (hPreps k) 3 l != 0) = true:=bne_iff_ne.2 e2
      rw [if_pos e2] at hd
      simp -implicitDefEqProofs (maxSteps:=1000000) (disch:=omega) only [↓zzP,zzA,reduceIte,reduceCtorEq,Nat.reduceLT,↓reduceIte,Nat.reduceEqDiff,↓gd,↓opP,↓qv,slot,putS,putO,ofV,binH,binS2,binS,z3]
      repeat (refine ⟨by omega,?_⟩)
      exact drop _ _ _ hH2' (hmay.trans (hmi.trans hd))
    ·have z2:(mayW true 2 [m] != 0) = true:=bne_iff_ne.2 e1
     rw [if_pos e1] at hd
     simp -implicitDefEqProofs (maxSteps:=1000000) (disch:=omega) only [↓zzP,zzA,reduceIte,reduceCtorEq,Nat.reduceLT,↓reduceIte,Nat.reduceEqDiff,↓gd,↓opP,↓qv,slot,putS,putO,ofV,binH,binS2,binS,z2]
     repeat (refine ⟨by omega,?_⟩)
     exact drop _ _ _ hH2' (hmay.trans (hmi.trans hd))
   ·have g1:decide ((i:Int) < (q.length:Nat)) = false:=decide_eq_false (by omega)
    have hd:q.drop i = []:=List.drop_of_length_le (by omega)
    rw [hd] at hmi
    simp -implicitDefEqProofs (maxSteps:=1000000) (disch:=omega) only [↓zzP,zzA,zzL,reduceIte,reduceCtorEq,Nat.reduceLT,↓reduceIte,Nat.reduceEqDiff,↓gd,↓opP,↓qv,slot,putS,putO,ofV,binH,binS2,binS,g1]
    repeat (refine ⟨by omega,?_⟩)
    exact drop _ _ _ hH1 (hmay.trans (hmi.trans (by rw [mayQ])))
end Go.Proofs.Ytgocfglmideobaa
set_option linter.all false
set_option maxRecDepth 40000
namespace Go.Proofs.Ytgocfglmideobaa
open Go Go.Sx
abbrev bt (B:List By):Nat→SV:=fun i=>.int .u8 (nat (B.getD i 0))
abbrev Out (F:Nat→Prop) (H:List Chunk) (B:List By) (K:Tok→SV→List Chunk→Prop):Prop :=
 ∀ H' k',Ext F H H'→H.length≤k'→lookH H' k' = .row true B.length 1 (fun i=>.int .u8 (nat (B.getD i 0)))→K .mk (.osl k' 0 0 1 B.length) H'
theorem row_sim {A:List Chunk} {n:Nat} {F:Nat→SV} {D:List By} (hn:n = D.length) (hF:∀ i,i < n→F i = .int .u8 (nat (D.getD i 0))) :
  Sim (A++[.row true n 1 F]) (A++[.row true D.length 1 fun i=>.int .u8 (nat (D.getD i 0))]):=sim_last (chSim_row hn hF)
theorem intoR_sim {nf:Nat} {v:SV} {h h':List Chunk} {K:Tok→SV→List Chunk→Prop} (hs:Sim h h') (hk:IntoR nf v h' K):IntoR nf v h K:=fun C ρ w hC hM hok=>by
 obtain ⟨ρ',v',h2,h3,h4⟩:=hk C ρ w hC (hM.sim hs) (by rw [← hs.1]; exact hok)
 exact ⟨ρ',v',h2,h3,h4⟩
theorem app_byte {B C:List By} {i:Nat}:(if i < B.length then SV.int .u8 (nat (B.getD i 0)) else .int .u8 (nat (C.getD (i - B.length) 0))) = .int .u8 (nat ((B++C).getD i 0)):=by
 by_cases h:i < B.length
 ·rw [if_pos h]
  simp [List.getElem?_append_left h]
 ·rw [if_neg h]
  simp [List.getElem?_append_right (Nat.le_of_not_lt h)]
theorem app_one {B:List By} {x:By} {i:Nat} {g:Nat→SV} (hi:i < B.length+1) (hg:g 0 = .int .u8 (nat x)):(if i < B.length then SV.int .u8 (nat (B.getD i 0)) else g (i - B.length)) = .int .u8 (nat ((B++[x]).getD i 0)):=by
 rw [← app_byte]
 by_cases h:i < B.length
 ·rw [if_pos h,if_pos h]
 ·rw [if_neg h,if_neg h]
  obtain e:i - B.length = 0:=by omega
  rw [e,hg]
  rfl
theorem lookH_last {A:List Chunk} {c:Chunk} {n:Nat} (hn:n = A.length):lookH (A++[c]) n = c:=by rw [hn]; exact lookH_end _ _
theorem bytes_conv (u:BitVec 64):bits .or .u8 (nat (u.setWidth 8)) 128 = nat (BitVec.ofNat 8 (u.toNat % 128+128)):=by
 have h:(128:Int) = nat (128#8):=rfl
 rw [h,or8]
 congr 1
 apply BitVec.eq_of_toNat_eq
 rw [BitVec.toNat_or,BitVec.toNat_ofNat,BitVec.toNat_setWidth,BitVec.toNat_ofNat]
 have hf:∀ x:Fin 256,x.val ||| (128 % 2 ^ 8) = x.val % 128+128:=by decide
 have:=hf ⟨u.toNat % 2 ^ 8,Nat.mod_lt _ (by decide)⟩
 simp only at this
 rw [this]
 omega
theorem byte_one (u:BitVec 64):u.setWidth 8 = BitVec.ofNat 8 u.toNat:=by
 apply BitVec.eq_of_toNat_eq
 rw [BitVec.toNat_setWidth,BitVec.toNat_ofNat]
theorem shr7 (u:BitVec 64):(u >>> 7).toNat = u.toNat / 128:=by
 rw [BitVec.toNat_ushiftRight,Nat.shiftRight_eq_div_pow]
theorem wrap_ofInt (n:Int):IntKind.u64.wrap n = nat (BitVec.ofInt 64 n):=by
 rw [wrapU rfl]
 simp only [nat,BitVec.toNat_ofInt]
 have:(0:Int)≤n % 2 ^ 64:=Int.emod_nonneg _ (by decide)
 rw [show ((2 ^ 64:Nat):Int) = 2 ^ 64 from rfl,Int.toNat_of_nonneg this]
 rfl
theorem zig_lt {n:Int} (h:rng n):zig n < 18446744073709551616:=by
 unfold rng at h
 unfold zig
 split <;> omega
theorem zig_toNat {n:Int} (h:rng n):(BitVec.ofNat 64 (zig n)).toNat = zig n:=by
 rw [BitVec.toNat_ofNat]
 exact Nat.mod_eq_of_lt (zig_lt h)
theorem dbl (n:Int) (h:rng n):(BitVec.ofInt 64 n <<< 1).toNat = if 0≤n then (2 * n).toNat else (2 * n+18446744073709551616).toNat:=by
 unfold rng at h
 rw [BitVec.toNat_shiftLeft,BitVec.toNat_ofInt,Nat.shiftLeft_eq]
 rw [show ((2 ^ 64:Nat):Int) = 18446744073709551616 from rfl,show (2:Nat) ^ 64 = 18446744073709551616 from rfl]
 split <;> omega
theorem zf2 {n:Int} (h:rng n) (c:0≤n):shlS .u64 (IntKind.u64.wrap n) 1 = nat (BitVec.ofNat 64 (zig n)):=by
 rw [wrap_ofInt]
 have:=shl64 (BitVec.ofInt 64 n) 1 (by decide)
 rw [show ((1:Nat):Int) = 1 from rfl] at this
 rw [this,nat_inj]
 apply BitVec.eq_of_toNat_eq
 rw [dbl n h,zig_toNat h,if_pos c]
 unfold zig
 rw [if_pos c]
theorem xor64 (u v:BitVec 64):bits .xor .u64 (nat u) (nat v) = nat (u ^^^ v):=by
 simp only [bits,ofInt_nat,BitVec.setWidth_eq]
 exact wrap_nat (k:=.u64) rfl (u ^^^ v)
theorem zf1 {n:Int} (h:rng n):bits .xor .u64 (shlS .u64 (IntKind.u64.wrap n) 1) (IntKind.u64.wrap (shrS .i64 n 63)) = nat (BitVec.ofNat 64 (zig n)):=by
 have hr:=h
 unfold rng at h
 have hs:shrS .i64 n 63 = if 0≤n then 0 else -1:=by
  unfold shrS
  show n.fdiv (2 ^ 63) = _
  rw [Int.fdiv_eq_ediv_of_nonneg _ (by decide)]
  split <;> omega
 rw [hs]
 by_cases c:0≤n
 ·rw [if_pos c,zf2 hr c]
  have ho:=xor64 (BitVec.ofNat 64 (zig n)) 0#64
  rw [BitVec.xor_zero] at ho
  exact ho
 ·rw [if_neg c,wrap_ofInt]
  have:=shl64 (BitVec.ofInt 64 n) 1 (by decide)
  rw [show ((1:Nat):Int) = 1 from rfl] at this
  rw [this]
  have e:IntKind.u64.wrap (-1) = nat (BitVec.allOnes 64):=rfl
  rw [e,xor64,BitVec.xor_allOnes,nat_inj]
  apply BitVec.eq_of_toNat_eq
  rw [BitVec.toNat_not,dbl n hr,zig_toNat hr,if_neg c]
  unfold zig
  rw [if_neg c,show (2:Nat) ^ 64 = 18446744073709551616 from rfl]
  omega
theorem len_u64 {n:Nat} (h:n < 18446744073709551616):IntKind.u64.wrap (n:Int) = nat (BitVec.ofNat 64 n)∧(BitVec.ofNat 64 n).toNat = n:=by
 have e:(BitVec.ofNat 64 n).toNat = n:=by rw [BitVec.toNat_ofNat]; exact Nat.mod_eq_of_lt h
 refine ⟨?_,e⟩
 rw [Go.Sx.wrap_small rfl (by omega) (by rw [show IntKind.u64.bits = 64 from rfl]; omega)]
 unfold nat
 rw [e]
end Go.Proofs.Ytgocfglmideobaa
set_option linter.all false
set_option maxRecDepth 40000
namespace Go.Proofs.Ytgocfglmideobaa
open Go Go.Sx
theorem res15:Try.f15.results.toList = [.tmp 2]:=rfl
theorem mayW_eq (k:Int) (p:List Msg):mayW (hProof k) (if k = 7 then 6 else if k = 6 ∨ k = 9 then 5 else 0) p = if hProof k = false∧0 < p.length then 1 else if p.length > 64 then 18 else mayL (kProof k) p:=by
 unfold mayW
 by_cases c:hProof k = false∧0 < p.length
 ·rw [if_pos c,if_pos c]
 ·rw [if_neg c,if_neg c]
  by_cases hp:0 < p.length
  ·have h1:hProof k = true:=by
    cases h:hProof k with
    | true=>rfl
    | false=>exact absurd ⟨h,hp⟩ c
   have h2:k = 6 ∨ k = 7 ∨ k = 9:=by simpa [hProof,or_assoc] using h1
   have h3:(if k = 7 then (6:Int) else if k = 6 ∨ k = 9 then 5 else 0) = kProof k:=by
    unfold kProof
    rcases h2 with rfl | rfl | rfl <;> rfl
   rw [h3]
  ·have:p = []:=List.eq_nil_of_length_eq_zero (by omega)
   subst this
   simp [mayL]
theorem famEq_zero (d:Nat→By):famEq 32 (fun i=>.int .u8 (nat (d i))) (fun _=>.int .u8 0) = zero32 d:=by
 unfold zero32 famEq
 rw [Bool.eq_iff_iff,decide_eq_true_iff,List.all_eq_true]
 constructor
 ·intro h i hi
  have:=h i (List.mem_range.1 hi)
  simp only [valI] at this
  rw [beq_iff_eq]
  apply BitVec.eq_of_toNat_eq
  simp only [nat] at this
  simpa using this
 ·intro h i hi
  have:=eq_of_beq (h i (List.mem_range.2 hi))
  show nat (d i) = 0
  rw [this]
  rfl
theorem may_mk (k f v s:Int) (d:Nat→By) (b:List By) (bs:List (List By)) (p:List Msg) (q:List (Msg × List Msg)) (key:Int) (of:Nat→By):may (.mk k f v s d b bs p q key of) =
  if mayHead k f v s d = false then 1 else if mayBuns k b bs ≠ 0 then mayBuns k b bs else
  if mayW (hProof k) (if k = 7 then 6 else if k = 6 ∨ k = 9 then 5 else 0) p ≠ 0 then mayW (hProof k) (if k = 7 then 6 else if k = 6 ∨ k = 9 then 5 else 0) p else
  if mayP k q ≠ 0 then mayP k q else if k = 1∧(key ≠ 0 ∨ zero32 of = false) then 1 else 0:=by
 rw [may,mayW_eq]
 rfl
set_option maxHeartbeats 4000000 in
theorem c15S (k f v s:Int) (d:Nat→By) (b:List By) (bs:List (List By)) (p:List Msg) (q:List (Msg × List Msg)) (key:Int) (of:Nat→By) (IP:∀ m ∈ p,MayAt m) (IQ:∀ x ∈ q,MayAt x.1∧∀ m ∈ x.2,MayAt m):MayAt (.mk k f v s d b bs p q key of):=by
 intro l h hm K hK
 rw [may_mk] at hK
 have hm0:=hm
 rw [MsgH] at hm
 obtain ⟨sb,sbs,kp,wp,fp,kq,wq,fq,hl,h1,h2,h3,h4,h5,h6⟩:=hm
 obtain ⟨kb,wb,rfl,hkb⟩:=h1
 obtain ⟨kbs,wbs,fb,rfl,hkbs,hfb⟩:=h2
 unfold dig32 at hl
 subst hl
 refine callP_good fun hgood=>?_
 have drop:∀ (H1 x:List Chunk) e,H1 = h++x→(if mayHead k f v s d = false then 1 else if mayBuns k b bs ≠ 0 then mayBuns k b bs else
  if mayW (hProof k) (if k = 7 then 6 else if k = 6 ∨ k = 9 then 5 else 0) p ≠ 0 then mayW (hProof k) (if k = 7 then 6 else if k = 6 ∨ k = 9 then 5 else 0) p else
  if mayP k q ≠ 0 then mayP k q else if k = 1∧(key ≠ 0 ∨ zero32 of = false) then 1 else 0) = e→IntoR h.length (.int .i64 e) H1 K:=fun H1 x e hH he=>by
  rw [he] at hK
  rw [hH]
  exact intoR_drop hgood trivial hK
 obtain ⟨HD,hHD⟩:∃ HD:Prop,HD ↔ mayHead k f v s d = true:=⟨_,Iff.rfl⟩
 refine callP_of_code tabOk Try.func15 (by kernel_rfl) rfl (Nat.le_of_ble_eq_true rfl) ?_
 rw [Try.ntmps15]
 refine codeP_seq (pl:=np) tabOk follows_mixed (by kernel_rfl) _ ?_ (fun s h=>h)
 simp -implicitDefEqProofs (maxSteps:=1000000) (disch:=omega) only [↓zzP,zzA,zzL,zzB,reduceIte,Nat.reduceLT,↓reduceIte,↓gd,↓opP,↓qv,↓ef,slot,putS,putO,ofV,tupS,stor,res15]
 repeat (refine ⟨by omega,?_⟩)
 refine into_refl ?_
 refine codeP_seq (pl:=np) tabOk follows_mixed (by kernel_rfl) (fun st=>∃ (H1 x:List Chunk) (j:Nat→Value),H1 = h++x∧lookH H1 h.length = (Chunk.cells true [.int .i64 k,.int .i64 f,.int .i64 v,.int .i64 s,.fam 32 1 fun i=>.int .u8 (nat (d i)),.osl kb 0 0 1 b.length,.osl kbs 0 0 1 bs.length,.osl kp 0 0 73 p.length,.osl kq 0 0 74 q.length,.int .i64 key,.fam 32 1 fun i=>.int .u8 (nat (of i))])∧lookH H1 (h.length+1) = (Chunk.cells true [.bool (hView k),.bool (hSeq k),.bool (hDig k),.bool (hBun k),.bool (hBuns k),.bool (hProof k),.bool (hPrep k),.bool (hPreps k),.int .i64 (if k = 7 then 6 else if k = 6 ∨ k = 9 then 5 else 0)])∧st = ⟨⟨89,[(1,.ptr h.length 0),(2,.int .i64 0),(3,.ptr (h.length+1) 0)],j⟩,H1,[]⟩) ?_ ?_
 ·simp -implicitDefEqProofs (maxSteps:=1000000) (disch:=omega) only [↓zzP,zzA,zzL,zzB,reduceIte,reduceCtorEq,Nat.reduceLT,↓reduceIte,Nat.reduceEqDiff,↓gd,↓opP,↓qv,slot,putS,putO,fldA,rdF,Ent.row,ldS]
  repeat (refine ⟨by omega,?_⟩)
  refine c53 k _ _ ?_
  unfold hasS
  simp -implicitDefEqProofs (maxSteps:=1000000) (disch:=omega) only [↓zzP,zzA,zzB,Nat.reduceSub,reduceIte,reduceCtorEq,Nat.reduceLT,↓reduceIte,Nat.reduceEqDiff,Nat.reduceLeDiff,Nat.reduceAdd,↓gd,↓opP,↓qv,↓ef,↓stS,slot,putS,putO,sz,wrF,stor]
  repeat (refine ⟨by omega,?_⟩)
  refine into_keep [(1,.ptr h.length 0),(2,.int .i64 0),(3,.ptr (h.length+1) 0)] (by simp [sameT,slot,lkL]) fun j=>⟨_,_,j,rfl,lookH_app _ 0 _,lookH_app _ 1 _,rfl⟩
 rintro _ ⟨H1,x,j0,hH1,hx,hy,rfl⟩
 have hE:Ext (fun _=>False) h H1:=by rw [hH1]; exact (Ext.refl _ _).app _
 have hM:=hm0.ext hE
 refine codeP_seq (pl:=np) tabOk follows_mixed (by kernel_rfl) (fun st=>∃ (j:Nat→Value),HD∧st = ⟨⟨89,[(1,.ptr h.length 0),(2,.int .i64 0),(3,.ptr (h.length+1) 0)],j⟩,H1,[]⟩) ?_ ?_
 ·have hd1:mayHead k f v s d = false→IntoR h.length (.int .i64 1) H1 K:=fun e=>drop H1 x 1 hH1 (by rw [if_pos e])
  by_cases c1:k < 1
  ·have z1:decide (k < 1) = true:=decide_eq_true c1
   simp -implicitDefEqProofs (maxSteps:=1000000) (disch:=omega) only [↓zzP,zzA,zzL,zzB,reduceIte,reduceCtorEq,Nat.reduceLT,↓reduceIte,Nat.reduceEqDiff,Array.reduceGetElem?,↓gd,↓opP,↓qv,slot,putS,putO,ofV,fldA,rdF,Ent.row,ldS,binH,binS2,binS,hx,z1]
   repeat (refine ⟨by omega,?_⟩)
   exact hd1 (by unfold mayHead; rw [decide_eq_false (show ¬ 1≤k by omega)]; rfl)
  ·have z1:decide (k < 1) = false:=decide_eq_false c1
   have y1:decide (1≤k) = true:=decide_eq_true (by omega)
   by_cases c2:k > 9
   ·have z2:decide (k > 9) = true:=decide_eq_true c2
    simp -implicitDefEqProofs (maxSteps:=1000000) (disch:=omega) only [↓zzP,zzA,zzL,zzB,reduceIte,reduceCtorEq,Nat.reduceLT,↓reduceIte,Nat.reduceEqDiff,Array.reduceGetElem?,↓gd,↓opP,↓qv,slot,putS,putO,ofV,fldA,rdF,Ent.row,ldS,binH,binS2,binS,hx,z1,z2]
    repeat (refine ⟨by omega,?_⟩)
    exact hd1 (by unfold mayHead; rw [decide_eq_false (show ¬ k≤9 by omega),y1]; rfl)
   ·have z2:decide (k > 9) = false:=decide_eq_false c2
    have y2:decide (k≤9) = true:=decide_eq_true (by omega)
    simp -implicitDefEqProofs (maxSteps:=1000000) (disch:=omega) only [↓zzP,zzA,zzL,zzB,Nat.reduceSub,reduceIte,reduceCtorEq,Nat.reduceLT,↓reduceIte,Nat.reduceEqDiff,Nat.reduceLeDiff,Array.reduceGetElem?,↓gd,↓opP,↓qv,slot,putS,putO,ofV,fldA,rdF,Ent.row,ldS,sz,binH,binS2,binS,hx,z1,z2]
    repeat (refine ⟨by omega,?_⟩)
    refine c54 (.mk k f v s d b bs p q key of) _ H1 hM _ ?_
    show _
    cases z3:okFrom k f with
    | false =>
     simp -implicitDefEqProofs (maxSteps:=1000000) (disch:=omega) only [↓zzP,zzA,zzL,reduceIte,reduceCtorEq,Nat.reduceLT,↓reduceIte,Nat.reduceEqDiff,Array.reduceGetElem?,↓gd,↓opP,↓qv,slot,putS,putO,ofV,unS,z3,Msg.kind,Msg.frm]
     repeat (refine ⟨by omega,?_⟩)
     exact hd1 (by unfold mayHead; rw [y1,y2,z3]; rfl)
    | true =>
     simp -implicitDefEqProofs (maxSteps:=1000000) (disch:=omega) only [↓zzP,zzA,zzL,zzB,Nat.reduceSub,reduceIte,reduceCtorEq,Nat.reduceLT,↓reduceIte,Nat.reduceEqDiff,Nat.reduceLeDiff,Array.reduceGetElem?,↓gd,↓opP,↓qv,slot,putS,putO,ofV,fldA,unS,rdF,Ent.row,ldS,sz,hx,hy,z3,Msg.kind,Msg.frm]
     repeat (refine ⟨by omega,?_⟩)
     refine c55 (hView k) v _ _ ?_
     cases z4:okNum (hView k) v with
     | false =>
      simp -implicitDefEqProofs (maxSteps:=1000000) (disch:=omega) only [↓zzP,zzA,reduceIte,reduceCtorEq,Nat.reduceLT,↓reduceIte,Nat.reduceEqDiff,Array.reduceGetElem?,↓gd,↓opP,↓qv,slot,putS,putO,ofV,unS]
      repeat (refine ⟨by omega,?_⟩)
      exact hd1 (by unfold mayHead; rw [y1,y2,z3,z4]; rfl)
     | true =>
      simp -implicitDefEqProofs (maxSteps:=1000000) (disch:=omega) only [↓zzP,zzA,zzL,zzB,Nat.reduceSub,reduceIte,reduceCtorEq,Nat.reduceLT,↓reduceIte,Nat.reduceEqDiff,Nat.reduceLeDiff,Array.reduceGetElem?,↓gd,↓opP,↓qv,slot,putS,putO,fldA,unS,rdF,Ent.row,ldS,sz,hx,hy]
      repeat (refine ⟨by omega,?_⟩)
      refine c55 (hSeq k) s _ _ ?_
      cases z5:okNum (hSeq k) s with
      | false =>
       simp -implicitDefEqProofs (maxSteps:=1000000) (disch:=omega) only [↓zzP,zzA,zzL,reduceIte,reduceCtorEq,Nat.reduceLT,↓reduceIte,Nat.reduceEqDiff,Array.reduceGetElem?,↓gd,↓opP,↓qv,slot,putS,putO,ofV,unS]
       repeat (refine ⟨by omega,?_⟩)
       exact hd1 (by unfold mayHead; rw [y1,y2,z3,z4,z5]; rfl)
      | true =>
       cases z6:hDig k with
       | true =>
        simp -implicitDefEqProofs (maxSteps:=1000000) (disch:=omega) only [↓zzP,zzA,zzL,zzB,Nat.reduceSub,reduceIte,reduceCtorEq,Nat.reduceLT,↓reduceIte,Nat.reduceEqDiff,Nat.reduceLeDiff,Array.reduceGetElem?,↓gd,↓opP,↓qv,slot,putS,putO,ofV,fldA,unS,rdF,Ent.row,ldS,sz,hy,z6]
        repeat (refine ⟨by omega,?_⟩)
        exact into_keep [(1,.ptr h.length 0),(2,.int .i64 0),(3,.ptr (h.length+1) 0)] (by simp [sameT,slot,lkL]) fun j=>⟨j,hHD.2 (by unfold mayHead; rw [y1,y2,z3,z4,z5,z6]; rfl),rfl⟩
       | false =>
        have z8:=famEq_zero d
        cases z7:zero32 d with
        | true =>
         rw [z7] at z8
         simp -implicitDefEqProofs (maxSteps:=1000000) (disch:=omega) only [↓zzP,zzA,zzL,zzB,Nat.reduceSub,reduceIte,reduceCtorEq,Nat.reduceLT,↓reduceIte,Nat.reduceEqDiff,Nat.reduceLeDiff,Array.reduceGetElem?,↓gd,↓opP,↓qv,slot,putS,putO,ofV,fldA,unS,asRow,rdF,Ent.row,ldS,sz,bldS,binH,binS2,binS,arrS,isI,hx,hy,z6,z8]
         repeat (refine ⟨by omega,?_⟩)
         exact into_keep [(1,.ptr h.length 0),(2,.int .i64 0),(3,.ptr (h.length+1) 0)] (by simp [sameT,slot,lkL]) fun j=>⟨j,hHD.2 (by unfold mayHead; rw [y1,y2,z3,z4,z5,z6,z7]; rfl),rfl⟩
        | false =>
         rw [z7] at z8
         simp -implicitDefEqProofs (maxSteps:=1000000) (disch:=omega) only [↓zzP,zzA,zzL,zzB,Nat.reduceSub,reduceIte,reduceCtorEq,Nat.reduceLT,↓reduceIte,Nat.reduceEqDiff,Nat.reduceLeDiff,Array.reduceGetElem?,↓gd,↓opP,↓qv,slot,putS,putO,ofV,fldA,unS,asRow,rdF,Ent.row,ldS,sz,bldS,binH,binS2,binS,arrS,isI,hx,hy,z6,z8]
         repeat (refine ⟨by omega,?_⟩)
         exact hd1 (by unfold mayHead; rw [y1,y2,z3,z4,z5,z6,z7]; rfl)
 ·rintro _ ⟨j1,hhd,rfl⟩
  have hhead:¬ mayHead k f v s d = false:=by rw [hHD.1 hhd]; simp
  obtain ⟨N1,hN1⟩:∃ N1:Prop,N1 ↔ mayBuns k b bs = 0:=⟨_,Iff.rfl⟩
  refine codeP_seq (pl:=np) tabOk follows_mixed (by kernel_rfl) (fun st=>∃ (j:Nat→Value),N1∧st = ⟨⟨89,[(1,.ptr h.length 0),(2,.int .i64 0),(3,.ptr (h.length+1) 0)],j⟩,H1,[]⟩) ?_ ?_
  ·simp -implicitDefEqProofs (maxSteps:=1000000) (disch:=omega) only [↓zzP,zzA,zzL,Nat.reduceSub,reduceIte,reduceCtorEq,Nat.reduceLT,↓reduceIte,Nat.reduceEqDiff,Nat.reduceLeDiff,↓gd,↓opP,↓qv,slot,putS,putO,rdF,Ent.row,ldS,sz,hx,hy]
   repeat (refine ⟨by omega,?_⟩)
   refine c56 k f v s d b bs p q key of _ H1 hM _ ?_
   by_cases e:mayBuns k b bs = 0
   ·have z1:(mayBuns k b bs != 0) = false:=by rw [e]; rfl
    simp -implicitDefEqProofs (maxSteps:=1000000) (disch:=omega) only [↓zzP,zzA,reduceIte,Nat.reduceLT,↓reduceIte,↓gd,↓opP,↓qv,slot,putS,putO,ofV,binH,binS2,binS,z1]
    repeat (refine ⟨by omega,?_⟩)
    exact into_keep [(1,.ptr h.length 0),(2,.int .i64 0),(3,.ptr (h.length+1) 0)] (by simp [sameT,slot,lkL]) fun j=>⟨j,hN1.2 e,rfl⟩
   ·have z1:(mayBuns k b bs != 0) = true:=bne_iff_ne.2 e
    simp -implicitDefEqProofs (maxSteps:=1000000) (disch:=omega) only [↓zzP,zzA,reduceIte,reduceCtorEq,Nat.reduceLT,↓reduceIte,Nat.reduceEqDiff,↓gd,↓opP,↓qv,slot,putS,putO,ofV,binH,binS2,binS,z1]
    repeat (refine ⟨by omega,?_⟩)
    exact drop H1 x _ hH1 (by rw [if_neg hhead,if_pos e])
  rintro _ ⟨j2,hn1,rfl⟩
  have e1:¬ mayBuns k b bs ≠ 0:=fun h=>h (hN1.1 hn1)
  obtain ⟨W,hW⟩:∃ W,W = mayW (hProof k) (if k = 7 then 6 else if k = 6 ∨ k = 9 then 5 else 0) p:=⟨_,rfl⟩
  rw [← hW] at drop
  obtain ⟨N2,hN2⟩:∃ N2:Prop,N2 ↔ W = 0:=⟨_,Iff.rfl⟩
  refine codeP_seq (pl:=np) tabOk follows_mixed (by kernel_rfl) (fun st=>∃ (j:Nat→Value),N2∧st = ⟨⟨89,[(1,.ptr h.length 0),(2,.int .i64 0),(3,.ptr (h.length+1) 0)],j⟩,H1,[]⟩) ?_ ?_
  ·simp -implicitDefEqProofs (maxSteps:=1000000) (disch:=omega) only [↓zzP,zzA,zzL,zzB,Nat.reduceSub,reduceIte,reduceCtorEq,Nat.reduceLT,↓reduceIte,Nat.reduceEqDiff,Nat.reduceLeDiff,↓gd,↓opP,↓qv,slot,putS,putO,fldA,rdF,Ent.row,ldS,sz,hx,hy]
   repeat (refine ⟨by omega,?_⟩)
   refine c57R (hProof k) _ p IP kp wp fp H1 (hE.look h3 (by simp) fun h=>h) (h4.ext hE) _ ?_
   rw [← hW]
   by_cases e:W = 0
   ·have z1:(W != 0) = false:=by rw [e]; rfl
    simp -implicitDefEqProofs (maxSteps:=1000000) (disch:=omega) only [↓zzP,zzA,reduceIte,Nat.reduceLT,↓reduceIte,↓gd,↓opP,↓qv,slot,putS,putO,ofV,binH,binS2,binS,z1]
    repeat (refine ⟨by omega,?_⟩)
    exact into_keep [(1,.ptr h.length 0),(2,.int .i64 0),(3,.ptr (h.length+1) 0)] (by simp [sameT,slot,lkL]) fun j=>⟨j,hN2.2 e,rfl⟩
   ·have z1:(W != 0) = true:=bne_iff_ne.2 e
    simp -implicitDefEqProofs (maxSteps:=1000000) (disch:=omega) only [↓zzP,zzA,reduceIte,reduceCtorEq,Nat.reduceLT,↓reduceIte,Nat.reduceEqDiff,↓gd,↓opP,↓qv,slot,putS,putO,ofV,binH,binS2,binS,z1]
    repeat (refine ⟨by omega,?_⟩)
    exact drop H1 x _ hH1 (by rw [if_neg hhead,if_neg e1,if_pos e])
  rintro _ ⟨j3,hn2,rfl⟩
  have e2:¬ W ≠ 0:=fun h=>h (hN2.1 hn2)
  obtain ⟨N3,hN3⟩:∃ N3:Prop,N3 ↔ mayP k q = 0:=⟨_,Iff.rfl⟩
  refine codeP_seq (pl:=np) tabOk follows_mixed (by kernel_rfl) (fun st=>∃ (j:Nat→Value),N3∧st = ⟨⟨89,[(1,.ptr h.length 0),(2,.int .i64 0),(3,.ptr (h.length+1) 0)],j⟩,H1,[]⟩) ?_ ?_
  ·simp -implicitDefEqProofs (maxSteps:=1000000) (disch:=omega) only [↓zzP,zzA,zzL,zzB,Nat.reduceSub,reduceIte,reduceCtorEq,Nat.reduceLT,↓reduceIte,Nat.reduceEqDiff,Nat.reduceLeDiff,↓gd,↓opP,↓qv,slot,putS,putO,fldA,rdF,Ent.row,ldS,sz,hx,hy]
   repeat (refine ⟨by omega,?_⟩)
   refine c58R k q IQ kq wq fq H1 (hE.look h5 (by simp) fun h=>h) (h6.ext hE) _ ?_
   by_cases e:mayP k q = 0
   ·have z1:(mayP k q != 0) = false:=by rw [e]; rfl
    simp -implicitDefEqProofs (maxSteps:=1000000) (disch:=omega) only [↓zzP,zzA,reduceIte,Nat.reduceLT,↓reduceIte,↓gd,↓opP,↓qv,slot,putS,putO,ofV,binH,binS2,binS,z1]
    repeat (refine ⟨by omega,?_⟩)
    exact into_keep [(1,.ptr h.length 0),(2,.int .i64 0),(3,.ptr (h.length+1) 0)] (by simp [sameT,slot,lkL]) fun j=>⟨j,hN3.2 e,rfl⟩
   ·have z1:(mayP k q != 0) = true:=bne_iff_ne.2 e
    simp -implicitDefEqProofs (maxSteps:=1000000) (disch:=omega) only [↓zzP,zzA,reduceIte,reduceCtorEq,Nat.reduceLT,↓reduceIte,Nat.reduceEqDiff,↓gd,↓opP,↓qv,slot,putS,putO,ofV,binH,binS2,binS,z1]
    repeat (refine ⟨by omega,?_⟩)
    exact drop H1 x _ hH1 (by rw [if_neg hhead,if_neg e1,if_neg e2,if_pos e])
  rintro _ ⟨j4,hn3,rfl⟩
  have e3:¬ mayP k q ≠ 0:=fun h=>h (hN3.1 hn3)
  have fin:∀ e,(if k = 1∧(key ≠ 0 ∨ zero32 of = false) then 1 else 0) = e→IntoR h.length (.int .i64 e) H1 K:=fun e he=>drop H1 x e hH1 (by rw [if_neg hhead,if_neg e1,if_neg e2,if_neg e3]; exact he)
  refine codeP_of_vc (pl:=np) tabOk follows_mixed (by kernel_rfl) ?_
  by_cases c1:k = 1
  ·have z1:(k == 1) = true:=beq_iff_eq.2 c1
   by_cases c2:key = 0
   ·have z2:(key != 0) = false:=by rw [c2]; rfl
    have z8:=famEq_zero of
    cases z7:zero32 of with
    | true =>
     rw [z7] at z8
     simp -implicitDefEqProofs (maxSteps:=1000000) (disch:=omega) only [↓zzP,zzA,zzL,zzB,Nat.reduceSub,reduceIte,reduceCtorEq,Nat.reduceLT,↓reduceIte,Nat.reduceEqDiff,Nat.reduceLeDiff,Nat.reduceAdd,Array.reduceGetElem?,↓gd,↓opP,↓qv,slot,putS,putO,ofV,fldA,asRow,rdF,Ent.row,ldS,sz,bldS,binH,binS2,binS,arrS,isI,hx,z1,z2,z8]
     repeat (refine ⟨by omega,?_⟩)
     exact fin 0 (by rw [if_neg]; rintro ⟨_,h | h⟩; exact h c2; rw [z7] at h; cases h)
    | false =>
     rw [z7] at z8
     simp -implicitDefEqProofs (maxSteps:=1000000) (disch:=omega) only [↓zzP,zzA,zzL,zzB,Nat.reduceSub,reduceIte,reduceCtorEq,Nat.reduceLT,↓reduceIte,Nat.reduceEqDiff,Nat.reduceLeDiff,Nat.reduceAdd,Array.reduceGetElem?,↓gd,↓opP,↓qv,slot,putS,putO,ofV,fldA,asRow,rdF,Ent.row,ldS,sz,bldS,binH,binS2,binS,arrS,isI,hx,z1,z2,z8]
     repeat (refine ⟨by omega,?_⟩)
     exact fin 1 (by rw [if_pos ⟨c1,.inr z7⟩])
   ·have z2:(key != 0) = true:=bne_iff_ne.2 c2
    simp -implicitDefEqProofs (maxSteps:=1000000) (disch:=omega) only [↓zzP,zzA,zzL,zzB,Nat.reduceSub,reduceIte,reduceCtorEq,Nat.reduceLT,↓reduceIte,Nat.reduceEqDiff,Nat.reduceLeDiff,Array.reduceGetElem?,↓gd,↓opP,↓qv,slot,putS,putO,ofV,fldA,rdF,Ent.row,ldS,sz,binH,binS2,binS,hx,z1,z2]
    repeat (refine ⟨by omega,?_⟩)
    exact fin 1 (by rw [if_pos ⟨c1,.inl c2⟩])
  ·have z1:(k == 1) = false:=beq_eq_false_iff_ne.2 c1
   simp -implicitDefEqProofs (maxSteps:=1000000) (disch:=omega) only [↓zzP,zzA,zzL,zzB,reduceIte,reduceCtorEq,Nat.reduceLT,↓reduceIte,Nat.reduceEqDiff,Array.reduceGetElem?,↓gd,↓opP,↓qv,slot,putS,putO,ofV,fldA,rdF,Ent.row,ldS,binH,binS2,binS,hx,z1]
   repeat (refine ⟨by omega,?_⟩)
   exact fin 0 (by rw [if_neg (fun h=>c1 h.1)])
mutual
theorem c15:∀ m:Msg,MayAt m
 | .mk k f v s d b bs p q key of=>c15S k f v s d b bs p q key of (c15L p) (c15Q q)
theorem c15L:∀ p:List Msg,∀ m ∈ p,MayAt m
 | [],m,hm=>by cases hm
 | a :: l,m,hm=>(List.mem_cons.1 hm).elim (fun e=>e ▸ c15 a) (c15L l m)
theorem c15Q:∀ q:List (Msg × List Msg),∀ x ∈ q,MayAt x.1∧∀ m ∈ x.2,MayAt m
 | [],x,hx=>by cases hx
 | (a,l) :: r,x,hx=>(List.mem_cons.1 hx).elim (fun e=>e ▸ ⟨c15 a,c15L l⟩) (c15Q r x)
end
end Go.Proofs.Ytgocfglmideobaa
set_option linter.all false
set_option maxRecDepth 40000
namespace Go.Proofs.Ytgocfglmideobaa
open Go Go.Sx
theorem res59:Try.f59.results.toList = [.cell 2 85]:=rfl
theorem res105:Try.f105.results.toList = [.tmp 2]:=rfl
theorem res60:Try.f60.results.toList = [.tmp 2]:=rfl
theorem res104:Try.f104.results.toList = [.tmp 4]:=rfl
def hasR (k:Int):SV:=.agg [.bool (hView k),.bool (hSeq k),.bool (hDig k),.bool (hBun k),.bool (hBuns k),.bool (hProof k),.bool (hPrep k)]
theorem c59 (k:Int) (hk:1≤k∧k≤9) (h:List Chunk) (K:Tok→SV→List Chunk→Prop) (hK:K .mk (hasR k) h):callP Try.prog 59 [.int .i64 k] h K:=by
 refine callP_good fun hgood=>?_
 refine callP_of_code tabOk Try.func59 (by kernel_rfl) rfl (Nat.le_of_ble_eq_true rfl) (codeP_of_vc (pl:=np) tabOk follows_mixed (by kernel_rfl) ?_)
 rw [Try.ntmps59]
 by_cases h1:k = 1
 ·subst h1
  have z1:((1:Int) == 1) = true:=rfl
  simp -implicitDefEqProofs (maxSteps:=1000000) (disch:=omega) only [↓zzP,zzA,zzB,Nat.reduceSub,reduceIte,reduceCtorEq,Nat.reduceLT,↓reduceIte,Nat.reduceEqDiff,Nat.reduceLeDiff,Nat.reduceAdd,↓gd,↓opP,↓qv,↓ef,↓stS,slot,putS,putO,ofV,rdF,Ent.row,ldS,sz,wrF,bldS,binH,binS2,binS,tupS,stor,res59,z1]
  repeat (refine ⟨by omega,?_⟩)
  exact intoR_drop hgood (by simp [hasR,ok,okL]) hK
 by_cases h2:k = 2
 ·subst h2
  have z1:((2:Int) == 1) = false:=rfl
  have z2:((2:Int) == 2) = true:=rfl
  simp -implicitDefEqProofs (maxSteps:=1000000) (disch:=omega) only [↓zzP,zzA,zzB,Nat.reduceSub,reduceIte,reduceCtorEq,Nat.reduceLT,↓reduceIte,Nat.reduceEqDiff,Nat.reduceLeDiff,Nat.reduceAdd,↓gd,↓opP,↓qv,↓ef,↓stS,slot,putS,putO,ofV,rdF,Ent.row,ldS,sz,wrF,bldS,binH,binS2,binS,tupS,stor,res59,z1,z2]
  repeat (refine ⟨by omega,?_⟩)
  exact intoR_drop hgood (by simp [hasR,ok,okL]) hK
 by_cases h3:k = 3
 ·subst h3
  have z1:((3:Int) == 1) = false:=rfl
  have z2:((3:Int) == 2) = false:=rfl
  have z3:((3:Int) == 3) = true:=rfl
  simp -implicitDefEqProofs (maxSteps:=1000000) (disch:=omega) only [↓zzP,zzA,zzB,Nat.reduceSub,reduceIte,reduceCtorEq,Nat.reduceLT,↓reduceIte,Nat.reduceEqDiff,Nat.reduceLeDiff,Nat.reduceAdd,↓gd,↓opP,↓qv,↓ef,↓stS,slot,putS,putO,ofV,rdF,Ent.row,ldS,sz,wrF,bldS,binH,binS2,binS,tupS,stor,res59,z1,z2,z3]
  repeat (refine ⟨by omega,?_⟩)
  exact intoR_drop hgood (by simp [hasR,ok,okL]) hK
 by_cases h4:k = 4
 ·subst h4
  have z1:((4:Int) == 1) = false:=rfl
  have z2:((4:Int) == 2) = false:=rfl
  have z3:((4:Int) == 3) = false:=rfl
  have z4:((4:Int) == 4) = true:=rfl
  simp -implicitDefEqProofs (maxSteps:=1000000) (disch:=omega) only [↓zzP,zzA,zzB,Nat.reduceSub,reduceIte,reduceCtorEq,Nat.reduceLT,↓reduceIte,Nat.reduceEqDiff,Nat.reduceLeDiff,Nat.reduceAdd,↓gd,↓opP,↓qv,↓ef,↓stS,slot,putS,putO,ofV,rdF,Ent.row,ldS,sz,wrF,bldS,binH,binS2,binS,tupS,stor,res59,z1,z2,z3,z4]
  repeat (refine ⟨by omega,?_⟩)
  exact intoR_drop hgood (by simp [hasR,ok,okL]) hK
 by_cases h5:k = 5
 ·subst h5
  have z1:((5:Int) == 1) = false:=rfl
  have z2:((5:Int) == 2) = false:=rfl
  have z3:((5:Int) == 3) = false:=rfl
  have z4:((5:Int) == 4) = false:=rfl
  have z5:((5:Int) == 5) = true:=rfl
  simp -implicitDefEqProofs (maxSteps:=1000000) (disch:=omega) only [↓zzP,zzA,zzB,Nat.reduceSub,reduceIte,reduceCtorEq,Nat.reduceLT,↓reduceIte,Nat.reduceEqDiff,Nat.reduceLeDiff,Nat.reduceAdd,↓gd,↓opP,↓qv,↓ef,↓stS,slot,putS,putO,ofV,rdF,Ent.row,ldS,sz,wrF,bldS,binH,binS2,binS,tupS,stor,res59,z1,z2,z3,z4,z5]
  repeat (refine ⟨by omega,?_⟩)
  exact intoR_drop hgood (by simp [hasR,ok,okL]) hK
 by_cases h6:k = 6
 ·subst h6
  have z1:((6:Int) == 1) = false:=rfl
  have z2:((6:Int) == 2) = false:=rfl
  have z3:((6:Int) == 3) = false:=rfl
  have z4:((6:Int) == 4) = false:=rfl
  have z5:((6:Int) == 5) = false:=rfl
  have z6:((6:Int) == 6) = true:=rfl
  simp -implicitDefEqProofs (maxSteps:=1000000) (disch:=omega) only [↓zzP,zzA,zzB,Nat.reduceSub,reduceIte,reduceCtorEq,Nat.reduceLT,↓reduceIte,Nat.reduceEqDiff,Nat.reduceLeDiff,Nat.reduceAdd,↓gd,↓opP,↓qv,↓ef,↓stS,slot,putS,putO,ofV,rdF,Ent.row,ldS,sz,wrF,bldS,binH,binS2,binS,tupS,stor,res59,z1,z2,z3,z4,z5,z6]
  repeat (refine ⟨by omega,?_⟩)
  exact intoR_drop hgood (by simp [hasR,ok,okL]) hK
 by_cases h7:k = 7
 ·subst h7
  have z1:((7:Int) == 1) = false:=rfl
  have z2:((7:Int) == 2) = false:=rfl
  have z3:((7:Int) == 3) = false:=rfl
  have z4:((7:Int) == 4) = false:=rfl
  have z5:((7:Int) == 5) = false:=rfl
  have z6:((7:Int) == 6) = false:=rfl
  have z7:((7:Int) == 7) = true:=rfl
  simp -implicitDefEqProofs (maxSteps:=1000000) (disch:=omega) only [↓zzP,zzA,zzB,Nat.reduceSub,reduceIte,reduceCtorEq,Nat.reduceLT,↓reduceIte,Nat.reduceEqDiff,Nat.reduceLeDiff,Nat.reduceAdd,↓gd,↓opP,↓qv,↓ef,↓stS,slot,putS,putO,ofV,rdF,Ent.row,ldS,sz,wrF,bldS,binH,binS2,binS,tupS,stor,res59,z1,z2,z3,z4,z5,z6,z7]
  repeat (refine ⟨by omega,?_⟩)
  exact intoR_drop hgood (by simp [hasR,ok,okL]) hK
 by_cases h8:k = 8
 ·subst h8
  have z1:((8:Int) == 1) = false:=rfl
  have z2:((8:Int) == 2) = false:=rfl
  have z3:((8:Int) == 3) = false:=rfl
  have z4:((8:Int) == 4) = false:=rfl
  have z5:((8:Int) == 5) = false:=rfl
  have z6:((8:Int) == 6) = false:=rfl
  have z7:((8:Int) == 7) = false:=rfl
  have z8:((8:Int) == 8) = true:=rfl
  simp -implicitDefEqProofs (maxSteps:=1000000) (disch:=omega) only [↓zzP,zzA,zzB,Nat.reduceSub,reduceIte,reduceCtorEq,Nat.reduceLT,↓reduceIte,Nat.reduceEqDiff,Nat.reduceLeDiff,Nat.reduceAdd,↓gd,↓opP,↓qv,↓ef,↓stS,slot,putS,putO,ofV,rdF,Ent.row,ldS,sz,wrF,bldS,binH,binS2,binS,tupS,stor,res59,z1,z2,z3,z4,z5,z6,z7,z8]
  repeat (refine ⟨by omega,?_⟩)
  exact intoR_drop hgood (by simp [hasR,ok,okL]) hK
 obtain rfl:k = 9:=by omega
 have z1:((9:Int) == 1) = false:=rfl
 have z2:((9:Int) == 2) = false:=rfl
 have z3:((9:Int) == 3) = false:=rfl
 have z4:((9:Int) == 4) = false:=rfl
 have z5:((9:Int) == 5) = false:=rfl
 have z6:((9:Int) == 6) = false:=rfl
 have z7:((9:Int) == 7) = false:=rfl
 have z8:((9:Int) == 8) = false:=rfl
 simp -implicitDefEqProofs (maxSteps:=1000000) (disch:=omega) only [↓zzP,zzA,zzB,Nat.reduceSub,reduceIte,reduceCtorEq,Nat.reduceLT,↓reduceIte,Nat.reduceEqDiff,Nat.reduceLeDiff,Nat.reduceAdd,↓gd,↓opP,↓qv,↓ef,↓stS,slot,putS,putO,ofV,rdF,Ent.row,ldS,sz,wrF,bldS,binH,binS2,binS,tupS,stor,res59,z1,z2,z3,z4,z5,z6,z7,z8]
 repeat (refine ⟨by omega,?_⟩)
 exact intoR_drop hgood (by simp [hasR,ok,okL]) hK
theorem c105 (k:Int) (h:List Chunk) (K:Tok→SV→List Chunk→Prop) (hK:K .mk (.int .i64 (kProof k)) h):callP Try.prog 105 [.int .i64 k] h K:=by
 unfold kProof at hK
 refine callP_of_code tabOk Try.func105 (by kernel_rfl) rfl (Nat.le_of_ble_eq_true rfl) (codeP_of_vc (pl:=np) tabOk follows_mixed (by kernel_rfl) ?_)
 rw [Try.ntmps105]
 by_cases c:k = 7
 ·have z:(k == 7) = true:=beq_iff_eq.2 c
  rw [if_pos c] at hK
  simp -implicitDefEqProofs (maxSteps:=1000000) (disch:=omega) only [↓zzP,zzA,reduceIte,reduceCtorEq,Nat.reduceLT,↓reduceIte,↓gd,↓opP,↓qv,slot,putS,putO,ofV,binH,binS2,binS,tupS,res105,z]
  repeat (refine ⟨by omega,?_⟩)
  exact intoR_refl (Nat.le_refl _) hK
 ·have z:(k == 7) = false:=beq_eq_false_iff_ne.2 c
  rw [if_neg c] at hK
  simp -implicitDefEqProofs (maxSteps:=1000000) (disch:=omega) only [↓zzP,zzA,reduceIte,reduceCtorEq,Nat.reduceLT,↓reduceIte,↓gd,↓opP,↓qv,slot,putS,putO,ofV,binH,binS2,binS,tupS,res105,z]
  repeat (refine ⟨by omega,?_⟩)
  exact intoR_refl (Nat.le_refl _) hK
theorem c60 (b:List By) (sv:SV) (h:List Chunk) (hb:rowB h sv b) (K:Tok→SV→List Chunk→Prop) (hK:K .mk (.int .i64 (mayB b)) h):callP Try.prog 60 [sv] h K:=by
 obtain ⟨k,w,rfl,hk⟩:=hb
 unfold mayB at hK
 refine callP_of_code tabOk Try.func60 (by kernel_rfl) rfl (Nat.le_of_ble_eq_true rfl) (codeP_of_vc (pl:=np) tabOk follows_mixed (by kernel_rfl) ?_)
 rw [Try.ntmps60]
 by_cases h0:b.length = 0
 ·have z1:(((b.length:Nat):Int) == 0) = true:=by rw [h0]; rfl
  rw [if_pos h0] at hK
  simp -implicitDefEqProofs (maxSteps:=1000000) (disch:=omega) only [↓zzP,zzA,reduceIte,reduceCtorEq,Nat.reduceLT,↓reduceIte,↓gd,↓opP,↓qv,slot,putS,putO,ofV,lenS,binH,binS2,binS,tupS,res60,z1]
  repeat (refine ⟨by omega,?_⟩)
  exact intoR_refl (Nat.le_refl _) hK
 ·have z1:(((b.length:Nat):Int) == 0) = false:=beq_eq_false_iff_ne.2 (by omega)
  rw [if_neg h0] at hK
  by_cases h2:b.length > 8192
  ·have z2:decide (((b.length:Nat):Int) > 8192) = true:=decide_eq_true (by omega)
   rw [if_pos h2] at hK
   simp -implicitDefEqProofs (maxSteps:=1000000) (disch:=omega) only [↓zzP,zzA,reduceIte,reduceCtorEq,Nat.reduceLT,↓reduceIte,↓gd,↓opP,↓qv,slot,putS,putO,ofV,lenS,binH,binS2,binS,tupS,res60,z1,z2]
   repeat (refine ⟨by omega,?_⟩)
   exact intoR_refl (Nat.le_refl _) hK
  ·have z2:decide (((b.length:Nat):Int) > 8192) = false:=decide_eq_false (by omega)
   rw [if_neg h2] at hK
   simp -implicitDefEqProofs (maxSteps:=1000000) (disch:=omega) only [↓zzP,zzA,reduceIte,reduceCtorEq,Nat.reduceLT,↓reduceIte,↓gd,↓opP,↓qv,slot,putS,putO,ofV,lenS,binH,binS2,binS,tupS,res60,z1,z2]
   repeat (refine ⟨by omega,?_⟩)
   exact intoR_refl (Nat.le_refl _) hK
abbrev RAt (m:Msg):Prop:=∀ (l:List SV) (h:List Chunk),MsgH h m l→∀ (K:Tok→SV→List Chunk→Prop),K .mk (.int .i64 (may m)) h→callP Try.prog 16 [.agg l] h K
def mayK (kind:Int) (m:Msg):Int:=if m.kind ≠ kind then 1 else may m
theorem c104 (kind:Int) (m:Msg) (hR:RAt m) (l:List SV) (h:List Chunk) (hm:MsgH h m l) (K:Tok→SV→List Chunk→Prop) (hK:K .mk (.int .i64 (mayK kind m)) h):callP Try.prog 104 [.agg l,.int .i64 kind] h K:=by
 have hm0:=hm
 obtain ⟨k,f,v,s,d,b,bs,p,q,key,of⟩:=m
 rw [MsgH] at hm
 obtain ⟨sb,sbs,kp,wp,fp,kq,wq,fq,hl,h1,h2,h3,h4,h5,h6⟩:=hm
 obtain ⟨kb,wb,rfl,hkb⟩:=h1
 obtain ⟨kbs,wbs,fb,rfl,hkbs,hfb⟩:=h2
 unfold dig32 at hl
 subst hl
 replace hK:K .mk (.int .i64 (if k ≠ kind then 1 else may (.mk k f v s d b bs p q key of))) h:=hK
 refine callP_good fun hgood=>?_
 refine callP_of_code tabOk Try.func104 (by kernel_rfl) rfl (Nat.le_of_ble_eq_true rfl) (codeP_of_vc (pl:=np) tabOk follows_mixed (by kernel_rfl) ?_)
 rw [Try.ntmps104]
 by_cases e:k = kind
 ·have z:(k != kind) = false:=by rw [e]; exact bne_self_eq_false _
  rw [if_neg (fun h=>h e)] at hK
  simp -implicitDefEqProofs (maxSteps:=1000000) (disch:=omega) only [↓zzP,zzA,zzL,zzB,Nat.reduceSub,reduceIte,reduceCtorEq,Nat.reduceLT,↓reduceIte,Nat.reduceEqDiff,Nat.reduceLeDiff,Nat.reduceAdd,↓gd,↓opP,↓qv,↓ef,slot,putS,putO,ofV,fldA,rdF,Ent.row,ldS,sz,binH,binS2,binS,tupS,stor,res104,z]
  repeat (refine ⟨by omega,?_⟩)
  refine hR _ _ (hm0.ext ((Ext.refl _ _).app _)) _ ?_
  simp -implicitDefEqProofs (maxSteps:=1000000) (disch:=omega) only [↓zzP,zzA,reduceIte,Nat.reduceLT,↓reduceIte,↓gd,↓opP,↓qv,slot,putS,putO]
  repeat (refine ⟨by omega,?_⟩)
  exact intoR_drop hgood trivial hK
 ·have z:(k != kind) = true:=bne_iff_ne.2 e
  rw [if_pos e] at hK
  simp -implicitDefEqProofs (maxSteps:=1000000) (disch:=omega) only [↓zzP,zzA,zzL,zzB,reduceIte,reduceCtorEq,Nat.reduceLT,↓reduceIte,Nat.reduceEqDiff,Nat.reduceAdd,↓gd,↓opP,↓qv,↓ef,slot,putS,putO,ofV,fldA,rdF,Ent.row,ldS,binH,binS2,binS,tupS,stor,res104,z]
  repeat (refine ⟨by omega,?_⟩)
  exact intoR_drop hgood trivial hK
end Go.Proofs.Ytgocfglmideobaa
set_option linter.all false
set_option maxRecDepth 40000
namespace Go.Proofs.Ytgocfglmideobaa
open Go Go.Sx
theorem res61:Try.f61.results.toList = [.tmp 4]:=rfl
def pl61:Nat→Plan
 | 19=>(.q 0 (.q 1 (.q 2 (.e1 3 [2] (.e1 4 [0,2,3] (.q 5 .nil))))))
 | _=>.nil
theorem mayL_dropK (kind:Int) (p:List Msg) {i:Nat} (hi:i < p.length):mayL kind (p.drop i) = if mayK kind p[i] ≠ 0 then mayK kind p[i] else mayL kind (p.drop (i+1)):=by
 rw [mayL_drop kind p hi]
 unfold mayK
 by_cases h1:p[i].kind ≠ kind
 ·rw [if_pos h1,if_pos h1]; rfl
 ·rw [if_neg h1,if_neg h1]
theorem mayW_one (m:Msg):mayW true 2 [m] = mayK 2 m:=by
 unfold mayW mayK
 rw [if_neg (by simp),if_neg (by simp),mayL,mayL]
 by_cases h1:m.kind ≠ 2
 ·rw [if_pos h1,if_pos h1]
 ·rw [if_neg h1,if_neg h1]
  by_cases h2:may m ≠ 0
  ·rw [if_pos h2]
  ·rw [if_neg h2]
   exact (Classical.not_not.1 h2).symm
def mayLs (k:Int) (bs:List (List By)) (p:List Msg) (q:List (Msg × List Msg)):Int :=
 if hBuns k = false∧0 < bs.length then 1 else if bs.length > 512 then 18 else if mayBs bs ≠ 0 then mayBs bs else
 if hProof k = false∧0 < p.length then 1 else if p.length > 64 then 18 else if mayL (kProof k) p ≠ 0 then mayL (kProof k) p else
 if hPrep k = false∧0 < q.length then 1 else if q.length > 64 then 18 else mayQ (hPreps k) q
set_option maxHeartbeats 8000000 in
theorem c61 (k f v s:Int) (d:Nat→By) (b:List By) (bs:List (List By)) (p:List Msg) (q:List (Msg × List Msg)) (key:Int) (of:Nat→By) (IP:∀ m ∈ p,RAt m) (IQ:∀ x ∈ q,RAt x.1∧∀ m ∈ x.2,RAt m) (l:List SV) (h:List Chunk) (hm:MsgH h (.mk k f v s d b bs p q key of) l) (K:Tok→SV→List Chunk→Prop) (hK:K .mk (.int .i64 (mayLs k bs p q)) h):callP Try.prog 61 [.agg l,hasR k] h K:=by
 rw [MsgH] at hm
 obtain ⟨sb,sbs,kp,wp,fp,kq,wq,fq,hl,h1,h2,h3,h4,h5,h6⟩:=hm
 obtain ⟨kb,wb,rfl,hkb⟩:=h1
 obtain ⟨kbs,wbs,fb,rfl,hkbs,hfb⟩:=h2
 unfold dig32 at hl
 subst hl
 refine callP_good fun hgood=>?_
 have drop:∀ (H1 x:List Chunk) e,H1 = h++x→mayLs k bs p q = e→IntoR h.length (.int .i64 e) H1 K:=fun H1 x e hH he=>by
  rw [he] at hK
  rw [hH]
  exact intoR_drop hgood trivial hK
 refine callP_of_code tabOk Try.func61 (by kernel_rfl) rfl (Nat.le_of_ble_eq_true rfl) ?_
 rw [Try.ntmps61]
 unfold hasR
 obtain ⟨HH,hHH⟩:∃ HH:List Chunk→List Chunk→Prop,∀ H1 x,HH H1 x ↔ (H1 = h++x∧lookH H1 h.length = (Chunk.cells true [.int .i64 k,.int .i64 f,.int .i64 v,.int .i64 s,.fam 32 1 fun i=>.int .u8 (nat (d i)),.osl kb 0 0 1 b.length,.osl kbs 0 0 1 bs.length,.osl kp 0 0 73 p.length,.osl kq 0 0 74 q.length,.int .i64 key,.fam 32 1 fun i=>.int .u8 (nat (of i))])∧lookH H1 (h.length+1) = (Chunk.cells true [.bool (hView k),.bool (hSeq k),.bool (hDig k),.bool (hBun k),.bool (hBuns k),.bool (hProof k),.bool (hPrep k)])):=⟨_,fun _ _=>Iff.rfl⟩
 refine codeP_seq (pl:=pl61) tabOk follows_mixed (by kernel_rfl) (fun st=>∃ (H1 x:List Chunk) (j:Nat→Value),HH H1 x∧True∧st = ⟨⟨125,[(2,.ptr h.length 0),(3,.ptr (h.length+1) 0),(4,.int .i64 0)],j⟩,H1,[]⟩) ?_ ?_
 ·simp -implicitDefEqProofs (maxSteps:=1000000) (disch:=omega) only [↓zzP,zzA,zzL,zzB,reduceIte,reduceCtorEq,Nat.reduceLT,↓reduceIte,Nat.reduceEqDiff,Nat.reduceAdd,↓gd,↓opP,↓qv,↓ef,slot,putS,putO,ofV,stor]
  repeat (refine ⟨by omega,?_⟩)
  have hb:HH (h++[Chunk.cells true [.int .i64 k,.int .i64 f,.int .i64 v,.int .i64 s,.fam 32 1 fun i=>.int .u8 (nat (d i)),.osl kb 0 0 1 b.length,.osl kbs 0 0 1 bs.length,.osl kp 0 0 73 p.length,.osl kq 0 0 74 q.length,.int .i64 key,.fam 32 1 fun i=>.int .u8 (nat (of i))],Chunk.cells true [.bool (hView k),.bool (hSeq k),.bool (hDig k),.bool (hBun k),.bool (hBuns k),.bool (hProof k),.bool (hPrep k)]]) [Chunk.cells true [.int .i64 k,.int .i64 f,.int .i64 v,.int .i64 s,.fam 32 1 fun i=>.int .u8 (nat (d i)),.osl kb 0 0 1 b.length,.osl kbs 0 0 1 bs.length,.osl kp 0 0 73 p.length,.osl kq 0 0 74 q.length,.int .i64 key,.fam 32 1 fun i=>.int .u8 (nat (of i))],Chunk.cells true [.bool (hView k),.bool (hSeq k),.bool (hDig k),.bool (hBun k),.bool (hBuns k),.bool (hProof k),.bool (hPrep k)]]:=(hHH _ _).2 ⟨rfl,lookH_app _ 0 _,lookH_app _ 1 _⟩
  exact into_keep [(2,.ptr h.length 0),(3,.ptr (h.length+1) 0),(4,.int .i64 0)] (by simp [sameT,slot,lkL]) fun j=>⟨_,_,j,hb,rfl⟩
 rintro _ ⟨H1,x,j0,hhh,_,rfl⟩
 obtain ⟨hH1,hx,hy⟩:=(hHH _ _).1 hhh
 obtain ⟨N1,hN1⟩:∃ N:Prop,N ↔ ¬ (hBuns k = false∧0 < bs.length):=⟨_,Iff.rfl⟩
 refine codeP_seq (pl:=pl61) tabOk follows_mixed (by kernel_rfl) (fun st=>∃ (H1 x:List Chunk) (j:Nat→Value),HH H1 x∧N1∧st = ⟨⟨125,[(2,.ptr h.length 0),(3,.ptr (h.length+1) 0),(4,.int .i64 0)],j⟩,H1,[]⟩) ?_ ?_
 ·by_cases c1:hBuns k = false∧0 < bs.length
  ·have z1:decide (((bs.length:Nat):Int) > 0) = true:=decide_eq_true (by omega)
   have z2:=c1.1
   simp -implicitDefEqProofs (maxSteps:=1000000) (disch:=omega) only [↓zzP,zzA,zzL,zzB,Nat.reduceSub,reduceIte,reduceCtorEq,Nat.reduceLT,Int.reduceLE,↓reduceIte,Nat.reduceEqDiff,Nat.reduceLeDiff,Int.reduceToNat,Array.reduceGetElem?,↓gd,↓opP,↓qv,slot,putS,putO,ofV,fldA,idxA,unS,lenS,rdF,Ent.row,ldS,sz,binH,binS2,binS,tupS,res61,z1,z2,hx,hy]
   repeat (refine ⟨by omega,?_⟩)
   exact drop H1 x _ hH1 (by unfold mayLs; rw [if_pos c1])
  ·have hc:∀ {P:Prop},(hBuns k = true→P)→(hBuns k = false→decide (((bs.length:Nat):Int) > 0) = false→P)→P:=fun a c=>by
    cases z:hBuns k with
    | true=>exact a z
    | false=>exact c z (decide_eq_false (fun h=>c1 ⟨z,by omega⟩))
   refine hc (fun z1=>?_) fun z1 z3=>?_
   ·simp -implicitDefEqProofs (maxSteps:=1000000) (disch:=omega) only [↓zzP,zzA,zzB,Nat.reduceSub,reduceIte,reduceCtorEq,Nat.reduceLT,Int.reduceLE,↓reduceIte,Nat.reduceEqDiff,Nat.reduceLeDiff,Int.reduceToNat,Array.reduceGetElem?,↓gd,↓opP,↓qv,slot,putS,putO,ofV,idxA,unS,rdF,Ent.row,ldS,sz,z1,hy]
    repeat (refine ⟨by omega,?_⟩)
    exact into_keep [(2,.ptr h.length 0),(3,.ptr (h.length+1) 0),(4,.int .i64 0)] (by simp [sameT,slot,lkL]) fun j=>⟨H1,x,j,(hHH _ _).2 ⟨hH1,hx,hy⟩,hN1.2 c1,rfl⟩
   ·simp -implicitDefEqProofs (maxSteps:=1000000) (disch:=omega) only [↓zzP,zzA,zzL,zzB,Nat.reduceSub,reduceIte,reduceCtorEq,Nat.reduceLT,Int.reduceLE,↓reduceIte,Nat.reduceEqDiff,Nat.reduceLeDiff,Int.reduceToNat,Array.reduceGetElem?,↓gd,↓opP,↓qv,slot,putS,putO,ofV,fldA,idxA,unS,lenS,rdF,Ent.row,ldS,sz,binH,binS2,binS,z1,z3,hx,hy]
    repeat (refine ⟨by omega,?_⟩)
    exact into_keep [(2,.ptr h.length 0),(3,.ptr (h.length+1) 0),(4,.int .i64 0)] (by simp [sameT,slot,lkL]) fun j=>⟨H1,x,j,(hHH _ _).2 ⟨hH1,hx,hy⟩,hN1.2 c1,rfl⟩
 rintro _ ⟨H1,x,j1,hhh,hn1,rfl⟩
 obtain ⟨hH1,hx,hy⟩:=(hHH _ _).1 hhh
 have hE:Ext (fun _=>False) h H1:=by rw [hH1]; exact (Ext.refl _ _).app _
 have n1:=hN1.1 hn1
 obtain ⟨N2,hN2⟩:∃ N:Prop,N ↔ ¬ bs.length > 512:=⟨_,Iff.rfl⟩
 refine codeP_seq (pl:=pl61) tabOk follows_mixed (by kernel_rfl) (fun st=>∃ (H1 x:List Chunk) (j:Nat→Value),HH H1 x∧N2∧st = ⟨⟨125,[(2,.ptr h.length 0),(3,.ptr (h.length+1) 0),(4,.int .i64 0)],j⟩,H1,[]⟩) ?_ ?_
 ·by_cases c1:bs.length > 512
  ·have z1:decide (((bs.length:Nat):Int) > 512) = true:=decide_eq_true (by omega)
   simp -implicitDefEqProofs (maxSteps:=1000000) (disch:=omega) only [↓zzP,zzA,zzL,zzB,Nat.reduceSub,reduceIte,reduceCtorEq,Nat.reduceLT,↓reduceIte,Nat.reduceLeDiff,↓gd,↓opP,↓qv,slot,putS,putO,ofV,fldA,lenS,rdF,Ent.row,ldS,sz,binH,binS2,binS,tupS,res61,z1,hx]
   repeat (refine ⟨by omega,?_⟩)
   exact drop H1 x _ hH1 (by unfold mayLs; rw [if_neg n1,if_pos c1])
  ·have z1:decide (((bs.length:Nat):Int) > 512) = false:=decide_eq_false (by omega)
   simp -implicitDefEqProofs (maxSteps:=1000000) (disch:=omega) only [↓zzP,zzA,zzL,zzB,Nat.reduceSub,reduceIte,reduceCtorEq,Nat.reduceLT,↓reduceIte,Nat.reduceLeDiff,↓gd,↓opP,↓qv,slot,putS,putO,ofV,fldA,lenS,rdF,Ent.row,ldS,sz,binH,binS2,binS,z1,hx]
   repeat (refine ⟨by omega,?_⟩)
   exact into_keep [(2,.ptr h.length 0),(3,.ptr (h.length+1) 0),(4,.int .i64 0)] (by simp [sameT,slot,lkL]) fun j=>⟨H1,x,j,(hHH _ _).2 ⟨hH1,hx,hy⟩,hN2.2 c1,rfl⟩
 rintro _ ⟨H1,x,j2,hhh,hn2,rfl⟩
 obtain ⟨hH1,hx,hy⟩:=(hHH _ _).1 hhh
 have hE:Ext (fun _=>False) h H1:=by rw [hH1]; exact (Ext.refl _ _).app _
 have n2:=hN2.1 hn2
 obtain ⟨N3,hN3⟩:∃ N:Prop,N ↔ ¬ mayBs bs ≠ 0:=⟨_,Iff.rfl⟩
 refine codeP_seq (pl:=pl61) tabOk follows_mixed (by kernel_rfl) (fun st=>∃ (H1 x:List Chunk) (j:Nat→Value),HH H1 x∧N3∧st = ⟨⟨125,[(2,.ptr h.length 0),(3,.ptr (h.length+1) 0),(4,.int .i64 0)],j⟩,H1,[]⟩) ?_ ?_
 ·simp -implicitDefEqProofs (maxSteps:=1000000) (disch:=omega) only [↓zzP,zzA,zzL,zzB,Nat.reduceSub,reduceIte,reduceCtorEq,Nat.reduceLT,↓reduceIte,Nat.reduceLeDiff,↓gd,↓opP,↓qv,slot,putS,putO,ofV,fldA,lenS,rdF,Ent.row,ldS,sz,tupS,res61,hx]
  repeat (refine ⟨by omega,?_⟩)
  refine codeP_loop (pl:=pl61) tabOk follows_mixed (by kernel_rfl) (fun z st=>∃ (i:Nat) (j:Nat→Value),i+z = bs.length∧mayBs bs = mayBs (bs.drop i)∧st = ⟨⟨125,[(2,.ptr h.length 0),(3,.ptr (h.length+1) 0),(4,.int .i64 0),(31,.osl kbs 0 0 1 bs.length),(32,.int .i64 (bs.length:Nat)),(33,.int .i64 (i:Nat))],j⟩,H1,[]⟩) ?_ ?_
  ·refine into_keep [(2,.ptr h.length 0),(3,.ptr (h.length+1) 0),(4,.int .i64 0),(31,.osl kbs 0 0 1 bs.length),(32,.int .i64 (bs.length:Nat)),(33,.int .i64 (0:Nat))] (by simp [sameT,slot,lkL]) fun j=>⟨bs.length,0,j,by omega,rfl,rfl⟩
  ·rintro z st ⟨i,j,hiz,hmi,rfl⟩
   have hkbs1:=hE.look hkbs (by simp) fun h=>h
   by_cases hi:i < bs.length
   ·have g1:decide ((i:Int) < (bs.length:Nat)) = true:=decide_eq_true (by omega)
    have a1:IntKind.i64.wrap ((i:Int)+1) = ((i+1:Nat):Int):=by rw [wrap64 (by omega) (by omega)]; omega
    obtain ⟨ki,wi,hfi,hki⟩:=hfb i hi
    have hd:=mayBs_drop bs hi
    simp -implicitDefEqProofs (maxSteps:=1000000) (disch:=omega) only [↓zzP,zzA,zzL,zzB,reduceIte,reduceCtorEq,Nat.reduceLT,↓reduceIte,Nat.reduceEqDiff,↓gd,↓opP,↓qv,slot,putS,putO,idxA,rdF,Ent.row,ldS,binH,binS2,binS,g1,hkbs1,hfi]
    repeat (refine ⟨by omega,?_⟩)
    refine c60 (bs.getD i []) _ H1 ⟨ki,wi,rfl,hE.look hki (by simp) fun h=>h⟩ _ ?_
    by_cases e:mayB (bs.getD i []) = 0
    ·have z2:(mayB (bs.getD i []) != 0) = false:=by rw [e]; rfl
     rw [if_pos e] at hd
     simp -implicitDefEqProofs (maxSteps:=1000000) (disch:=omega) only [↓zzP,zzA,reduceIte,Nat.reduceLT,↓reduceIte,Nat.reduceEqDiff,↓gd,↓opP,↓qv,slot,putS,putO,ofV,binH,binS2,binS,z2,a1]
     repeat (refine ⟨by omega,?_⟩)
     refine into_keep [(2,.ptr h.length 0),(3,.ptr (h.length+1) 0),(4,.int .i64 0),(31,.osl kbs 0 0 1 bs.length),(32,.int .i64 (bs.length:Nat)),(33,.int .i64 (i+1:Nat))] (by simp [sameT,slot,lkL]) fun j=>⟨z - 1,by omega,i+1,j,by omega,hmi.trans hd,rfl⟩
    ·have z2:(mayB (bs.getD i []) != 0) = true:=bne_iff_ne.2 e
     rw [if_neg e] at hd
     have hv:mayBs bs = mayB (bs.getD i []):=hmi.trans hd
     simp -implicitDefEqProofs (maxSteps:=1000000) (disch:=omega) only [↓zzP,zzA,reduceIte,reduceCtorEq,Nat.reduceLT,↓reduceIte,Nat.reduceEqDiff,↓gd,↓opP,↓qv,slot,putS,putO,ofV,binH,binS2,binS,z2]
     repeat (refine ⟨by omega,?_⟩)
     exact drop H1 x _ hH1 (by unfold mayLs; rw [if_neg n1,if_neg n2,if_pos (by rw [hv]; exact e),hv])
   ·have g1:decide ((i:Int) < (bs.length:Nat)) = false:=decide_eq_false (by omega)
    have hd:bs.drop i = []:=List.drop_of_length_le (by omega)
    rw [hd] at hmi
    simp -implicitDefEqProofs (maxSteps:=1000000) (disch:=omega) only [↓zzP,zzA,zzL,reduceIte,reduceCtorEq,Nat.reduceLT,↓reduceIte,Nat.reduceEqDiff,↓gd,↓opP,↓qv,slot,putS,putO,binH,binS2,binS,g1]
    repeat (refine ⟨by omega,?_⟩)
    exact into_keep [(2,.ptr h.length 0),(3,.ptr (h.length+1) 0),(4,.int .i64 0)] (by simp [sameT,slot,lkL]) fun j=>⟨H1,x,j,(hHH _ _).2 ⟨hH1,hx,hy⟩,hN3.2 (fun h=>h hmi),rfl⟩
 rintro _ ⟨H1,x,j3,hhh,hn3,rfl⟩
 obtain ⟨hH1,hx,hy⟩:=(hHH _ _).1 hhh
 have hE:Ext (fun _=>False) h H1:=by rw [hH1]; exact (Ext.refl _ _).app _
 have n3:=hN3.1 hn3
 obtain ⟨N4,hN4⟩:∃ N:Prop,N ↔ ¬ (hProof k = false∧0 < p.length):=⟨_,Iff.rfl⟩
 refine codeP_seq (pl:=pl61) tabOk follows_mixed (by kernel_rfl) (fun st=>∃ (H1 x:List Chunk) (j:Nat→Value),HH H1 x∧N4∧st = ⟨⟨125,[(2,.ptr h.length 0),(3,.ptr (h.length+1) 0),(4,.int .i64 0)],j⟩,H1,[]⟩) ?_ ?_
 ·by_cases c1:hProof k = false∧0 < p.length
  ·have z1:decide (((p.length:Nat):Int) > 0) = true:=decide_eq_true (by omega)
   have z2:=c1.1
   simp -implicitDefEqProofs (maxSteps:=1000000) (disch:=omega) only [↓zzP,zzA,zzL,zzB,Nat.reduceSub,reduceIte,reduceCtorEq,Nat.reduceLT,Int.reduceLE,↓reduceIte,Nat.reduceEqDiff,Nat.reduceLeDiff,Int.reduceToNat,Array.reduceGetElem?,↓gd,↓opP,↓qv,slot,putS,putO,ofV,fldA,idxA,unS,lenS,rdF,Ent.row,ldS,sz,binH,binS2,binS,tupS,res61,z1,z2,hx,hy]
   repeat (refine ⟨by omega,?_⟩)
   exact drop H1 x _ hH1 (by unfold mayLs; rw [if_neg n1,if_neg n2,if_neg n3,if_pos c1])
  ·have hc:∀ {P:Prop},(hProof k = true→P)→(hProof k = false→decide (((p.length:Nat):Int) > 0) = false→P)→P:=fun a c=>by
    cases z:hProof k with
    | true=>exact a z
    | false=>exact c z (decide_eq_false (fun h=>c1 ⟨z,by omega⟩))
   refine hc (fun z1=>?_) fun z1 z3=>?_
   ·simp -implicitDefEqProofs (maxSteps:=1000000) (disch:=omega) only [↓zzP,zzA,zzB,Nat.reduceSub,reduceIte,reduceCtorEq,Nat.reduceLT,Int.reduceLE,↓reduceIte,Nat.reduceEqDiff,Nat.reduceLeDiff,Int.reduceToNat,Array.reduceGetElem?,↓gd,↓opP,↓qv,slot,putS,putO,ofV,idxA,unS,rdF,Ent.row,ldS,sz,z1,hy]
    repeat (refine ⟨by omega,?_⟩)
    exact into_keep [(2,.ptr h.length 0),(3,.ptr (h.length+1) 0),(4,.int .i64 0)] (by simp [sameT,slot,lkL]) fun j=>⟨H1,x,j,(hHH _ _).2 ⟨hH1,hx,hy⟩,hN4.2 c1,rfl⟩
   ·simp -implicitDefEqProofs (maxSteps:=1000000) (disch:=omega) only [↓zzP,zzA,zzL,zzB,Nat.reduceSub,reduceIte,reduceCtorEq,Nat.reduceLT,Int.reduceLE,↓reduceIte,Nat.reduceEqDiff,Nat.reduceLeDiff,Int.reduceToNat,Array.reduceGetElem?,↓gd,↓opP,↓qv,slot,putS,putO,ofV,fldA,idxA,unS,lenS,rdF,Ent.row,ldS,sz,binH,binS2,binS,z1,z3,hx,hy]
    repeat (refine ⟨by omega,?_⟩)
    exact into_keep [(2,.ptr h.length 0),(3,.ptr (h.length+1) 0),(4,.int .i64 0)] (by simp [sameT,slot,lkL]) fun j=>⟨H1,x,j,(hHH _ _).2 ⟨hH1,hx,hy⟩,hN4.2 c1,rfl⟩
 rintro _ ⟨H1,x,j4,hhh,hn4,rfl⟩
 obtain ⟨hH1,hx,hy⟩:=(hHH _ _).1 hhh
 have hE:Ext (fun _=>False) h H1:=by rw [hH1]; exact (Ext.refl _ _).app _
 have n4:=hN4.1 hn4
 obtain ⟨N5,hN5⟩:∃ N:Prop,N ↔ ¬ p.length > 64:=⟨_,Iff.rfl⟩
 refine codeP_seq (pl:=pl61) tabOk follows_mixed (by kernel_rfl) (fun st=>∃ (H1 x:List Chunk) (j:Nat→Value),HH H1 x∧N5∧st = ⟨⟨125,[(2,.ptr h.length 0),(3,.ptr (h.length+1) 0),(4,.int .i64 0)],j⟩,H1,[]⟩) ?_ ?_
 ·by_cases c1:p.length > 64
  ·have z1:decide (((p.length:Nat):Int) > 64) = true:=decide_eq_true (by omega)
   simp -implicitDefEqProofs (maxSteps:=1000000) (disch:=omega) only [↓zzP,zzA,zzL,zzB,Nat.reduceSub,reduceIte,reduceCtorEq,Nat.reduceLT,↓reduceIte,Nat.reduceLeDiff,↓gd,↓opP,↓qv,slot,putS,putO,ofV,fldA,lenS,rdF,Ent.row,ldS,sz,binH,binS2,binS,tupS,res61,z1,hx]
   repeat (refine ⟨by omega,?_⟩)
   exact drop H1 x _ hH1 (by unfold mayLs; rw [if_neg n1,if_neg n2,if_neg n3,if_neg n4,if_pos c1])
  ·have z1:decide (((p.length:Nat):Int) > 64) = false:=decide_eq_false (by omega)
   simp -implicitDefEqProofs (maxSteps:=1000000) (disch:=omega) only [↓zzP,zzA,zzL,zzB,Nat.reduceSub,reduceIte,reduceCtorEq,Nat.reduceLT,↓reduceIte,Nat.reduceLeDiff,↓gd,↓opP,↓qv,slot,putS,putO,ofV,fldA,lenS,rdF,Ent.row,ldS,sz,binH,binS2,binS,z1,hx]
   repeat (refine ⟨by omega,?_⟩)
   exact into_keep [(2,.ptr h.length 0),(3,.ptr (h.length+1) 0),(4,.int .i64 0)] (by simp [sameT,slot,lkL]) fun j=>⟨H1,x,j,(hHH _ _).2 ⟨hH1,hx,hy⟩,hN5.2 c1,rfl⟩
 rintro _ ⟨H1,x,j5,hhh,hn5,rfl⟩
 obtain ⟨hH1,hx,hy⟩:=(hHH _ _).1 hhh
 have hE:Ext (fun _=>False) h H1:=by rw [hH1]; exact (Ext.refl _ _).app _
 have n5:=hN5.1 hn5
 obtain ⟨N6,hN6⟩:∃ N:Prop,N ↔ ¬ mayL (kProof k) p ≠ 0:=⟨_,Iff.rfl⟩
 refine codeP_seq (pl:=pl61) tabOk follows_mixed (by kernel_rfl) (fun st=>∃ (H1 x:List Chunk) (j:Nat→Value),HH H1 x∧N6∧st = ⟨⟨125,[(2,.ptr h.length 0),(3,.ptr (h.length+1) 0),(4,.int .i64 0)],j⟩,H1,[]⟩) ?_ ?_
 ·simp -implicitDefEqProofs (maxSteps:=1000000) (disch:=omega) only [↓zzP,zzA,zzL,zzB,Nat.reduceSub,reduceIte,reduceCtorEq,Nat.reduceLT,↓reduceIte,Nat.reduceLeDiff,↓gd,↓opP,↓qv,slot,putS,putO,ofV,fldA,lenS,rdF,Ent.row,ldS,sz,tupS,res61,hx]
  repeat (refine ⟨by omega,?_⟩)
  refine codeP_loop (pl:=pl61) tabOk follows_mixed (by kernel_rfl) (fun z st=>∃ (i:Nat) (H1 x:List Chunk) (j:Nat→Value),i+z = p.length∧HH H1 x∧mayL (kProof k) p = mayL (kProof k) (p.drop i)∧st = ⟨⟨125,[(2,.ptr h.length 0),(3,.ptr (h.length+1) 0),(4,.int .i64 0),(57,.osl kp 0 0 73 p.length),(58,.int .i64 (p.length:Nat)),(59,.int .i64 (i:Nat))],j⟩,H1,[]⟩) ?_ ?_
  ·refine into_keep [(2,.ptr h.length 0),(3,.ptr (h.length+1) 0),(4,.int .i64 0),(57,.osl kp 0 0 73 p.length),(58,.int .i64 (p.length:Nat)),(59,.int .i64 (0:Nat))] (by simp [sameT,slot,lkL]) fun j=>⟨p.length,0,H1,x,j,by omega,hhh,rfl,rfl⟩
  ·clear hE hx hy hH1 hhh x
   rintro z st ⟨i,H1,x,j,hiz,hhh,hmi,rfl⟩
   obtain ⟨hH1,hx,hy⟩:=(hHH _ _).1 hhh
   have hE:Ext (fun _=>False) h H1:=by rw [hH1]; exact (Ext.refl _ _).app _
   have hrow1:=hE.look h3 (by simp) fun h=>h
   have hl1:h.length+1 < H1.length:=lookH_lt hy (by simp)
   by_cases hi:i < p.length
   ·have g1:decide ((i:Int) < (p.length:Nat)) = true:=decide_eq_true (by omega)
    have a1:IntKind.i64.wrap ((i:Int)+1) = ((i+1:Nat):Int):=by rw [wrap64 (by omega) (by omega)]; omega
    have hd:=mayL_dropK (kProof k) p hi
    have hM:=h4.get hi
    have hIH:=IP p[i] (List.getElem_mem hi)
    obtain ⟨mi,hmi2⟩:∃ mi,p[i] = mi:=⟨_,rfl⟩
    rw [hmi2] at hd hM hIH
    have hM0:=hM
    obtain ⟨k',f',v',s',d',b',bs',p',q',key',of'⟩:=mi
    rw [MsgH] at hM
    obtain ⟨sb,sbs,kp',wp',fp',kq',wq',fq',hfi,h1,h2,_,_,_,_⟩:=hM
    obtain ⟨kb',wb',rfl,_⟩:=h1
    obtain ⟨kbs',wbs',fb',rfl,_,_⟩:=h2
    unfold dig32 at hfi
    rw [hfi] at hM0
    obtain ⟨m,hm⟩:∃ m,m = Msg.mk k' f' v' s' d' b' bs' p' q' key' of':=⟨_,rfl⟩
    rw [← hm] at hM0 hIH hd
    simp -implicitDefEqProofs (maxSteps:=1000000) (disch:=omega) only [↓zzP,zzA,zzL,zzB,Nat.reduceSub,reduceIte,reduceCtorEq,Nat.reduceLT,↓reduceIte,Nat.reduceEqDiff,Nat.reduceLeDiff,Nat.reduceAdd,Array.reduceGetElem?,↓gd,↓opP,↓qv,↓ef,↓stS,slot,putS,putO,fldA,idxA,rdF,Ent.row,ldS,sz,wrF,binH,binS2,binS,stor,qn,ldN,pl61,g1,hrow1,hfi,hx,lookH_at]
    repeat (refine ⟨by omega,?_⟩)
    refine c105 k _ _ ?_
    simp -implicitDefEqProofs (maxSteps:=1000000) (disch:=omega) only [↓zzP,zzA,zzB,reduceIte,reduceCtorEq,Nat.reduceLT,↓reduceIte,Nat.reduceEqDiff,Array.reduceGetElem?,↓gd,↓opP,slot,putS,putO]
    repeat (refine ⟨by omega,?_⟩)
    obtain ⟨c1,hc1⟩:∃ c1,c1 = Chunk.cells true [.int .i64 k',.int .i64 f',.int .i64 v',.int .i64 s',.fam 32 1 fun i=>.int .u8 (nat (d' i)),.osl kb' 0 0 1 b'.length,.osl kbs' 0 0 1 bs'.length,.osl kp' 0 0 73 p'.length,.osl kq' 0 0 74 q'.length,.int .i64 key',.fam 32 1 fun i=>.int .u8 (nat (of' i))]:=⟨_,rfl⟩
    rw [← hc1]
    have hE2:Ext (fun _=>False) H1 (H1++[c1]):=(Ext.refl _ _).app _
    refine c104 (kProof k) m hIH _ _ ((hM0.ext hE).ext hE2) _ ?_
    have hhh2:HH (H1++[c1]) (x++[c1]):=(hHH _ _).2 ⟨by rw [hH1,List.append_assoc],hE2.look hx (by simp) fun h=>h,hE2.look hy (by simp) fun h=>h⟩
    by_cases e:mayK (kProof k) m = 0
    ·have z2:(mayK (kProof k) m != 0) = false:=by rw [e]; rfl
     rw [if_neg (fun h=>h e)] at hd
     simp -implicitDefEqProofs (maxSteps:=1000000) (disch:=omega) only [↓zzP,zzA,reduceIte,Nat.reduceLT,↓reduceIte,Nat.reduceEqDiff,Array.reduceGetElem?,↓gd,↓opP,↓qv,slot,putS,putO,ofV,binH,binS2,binS,z2,a1]
     repeat (refine ⟨by omega,?_⟩)
     exact into_keep [(2,.ptr h.length 0),(3,.ptr (h.length+1) 0),(4,.int .i64 0),(57,.osl kp 0 0 73 p.length),(58,.int .i64 (p.length:Nat)),(59,.int .i64 (i+1:Nat))] (by simp [sameT,slot,lkL]) fun j=>⟨z - 1,by omega,i+1,_,_,j,by omega,hhh2,hmi.trans hd,rfl⟩
    ·have z2:(mayK (kProof k) m != 0) = true:=bne_iff_ne.2 e
     rw [if_pos e] at hd
     have hv:=hmi.trans hd
     simp -implicitDefEqProofs (maxSteps:=1000000) (disch:=omega) only [↓zzP,zzA,reduceIte,reduceCtorEq,Nat.reduceLT,↓reduceIte,Nat.reduceEqDiff,Array.reduceGetElem?,↓gd,↓opP,↓qv,slot,putS,putO,ofV,binH,binS2,binS,z2]
     repeat (refine ⟨by omega,?_⟩)
     exact drop _ _ _ ((hHH _ _).1 hhh2).1 (by unfold mayLs; rw [if_neg n1,if_neg n2,if_neg n3,if_neg n4,if_neg n5,if_pos (by rw [hv]; exact e),hv])
   ·have g1:decide ((i:Int) < (p.length:Nat)) = false:=decide_eq_false (by omega)
    have hd:p.drop i = []:=List.drop_of_length_le (by omega)
    rw [hd] at hmi
    simp -implicitDefEqProofs (maxSteps:=1000000) (disch:=omega) only [↓zzP,zzA,zzL,reduceIte,reduceCtorEq,Nat.reduceLT,↓reduceIte,Nat.reduceEqDiff,↓gd,↓opP,↓qv,slot,putS,putO,binH,binS2,binS,g1]
    repeat (refine ⟨by omega,?_⟩)
    exact into_keep [(2,.ptr h.length 0),(3,.ptr (h.length+1) 0),(4,.int .i64 0)] (by simp [sameT,slot,lkL]) fun j=>⟨H1,x,j,(hHH _ _).2 ⟨hH1,hx,hy⟩,hN6.2 (fun h=>h (hmi.trans (by rw [mayL]))),rfl⟩
 rintro _ ⟨H1,x,j6,hhh,hn6,rfl⟩
 obtain ⟨hH1,hx,hy⟩:=(hHH _ _).1 hhh
 have hE:Ext (fun _=>False) h H1:=by rw [hH1]; exact (Ext.refl _ _).app _
 have n6:=hN6.1 hn6
 obtain ⟨N7,hN7⟩:∃ N:Prop,N ↔ ¬ (hPrep k = false∧0 < q.length):=⟨_,Iff.rfl⟩
 refine codeP_seq (pl:=pl61) tabOk follows_mixed (by kernel_rfl) (fun st=>∃ (H1 x:List Chunk) (j:Nat→Value),HH H1 x∧N7∧st = ⟨⟨125,[(2,.ptr h.length 0),(3,.ptr (h.length+1) 0),(4,.int .i64 0)],j⟩,H1,[]⟩) ?_ ?_
 ·by_cases c1:hPrep k = false∧0 < q.length
  ·have z1:decide (((q.length:Nat):Int) > 0) = true:=decide_eq_true (by omega)
   have z2:=c1.1
   simp -implicitDefEqProofs (maxSteps:=1000000) (disch:=omega) only [↓zzP,zzA,zzL,zzB,Nat.reduceSub,reduceIte,reduceCtorEq,Nat.reduceLT,Int.reduceLE,↓reduceIte,Nat.reduceEqDiff,Nat.reduceLeDiff,Int.reduceToNat,Array.reduceGetElem?,↓gd,↓opP,↓qv,slot,putS,putO,ofV,fldA,idxA,unS,lenS,rdF,Ent.row,ldS,sz,binH,binS2,binS,tupS,res61,z1,z2,hx,hy]
   repeat (refine ⟨by omega,?_⟩)
   exact drop H1 x _ hH1 (by unfold mayLs; rw [if_neg n1,if_neg n2,if_neg n3,if_neg n4,if_neg n5,if_neg n6,if_pos c1])
  ·have hc:∀ {P:Prop},(hPrep k = true→P)→(hPrep k = false→decide (((q.length:Nat):Int) > 0) = false→P)→P:=fun a c=>by
    cases z:hPrep k with
    | true=>exact a z
    | false=>exact c z (decide_eq_false (fun h=>c1 ⟨z,by omega⟩))
   refine hc (fun z1=>?_) fun z1 z3=>?_
   ·simp -implicitDefEqProofs (maxSteps:=1000000) (disch:=omega) only [↓zzP,zzA,zzB,Nat.reduceSub,reduceIte,reduceCtorEq,Nat.reduceLT,Int.reduceLE,↓reduceIte,Nat.reduceEqDiff,Nat.reduceLeDiff,Int.reduceToNat,Array.reduceGetElem?,↓gd,↓opP,↓qv,slot,putS,putO,ofV,idxA,unS,rdF,Ent.row,ldS,sz,z1,hy]
    repeat (refine ⟨by omega,?_⟩)
    exact into_keep [(2,.ptr h.length 0),(3,.ptr (h.length+1) 0),(4,.int .i64 0)] (by simp [sameT,slot,lkL]) fun j=>⟨H1,x,j,(hHH _ _).2 ⟨hH1,hx,hy⟩,hN7.2 c1,rfl⟩
   ·simp -implicitDefEqProofs (maxSteps:=1000000) (disch:=omega) only [↓zzP,zzA,zzL,zzB,Nat.reduceSub,reduceIte,reduceCtorEq,Nat.reduceLT,Int.reduceLE,↓reduceIte,Nat.reduceEqDiff,Nat.reduceLeDiff,Int.reduceToNat,Array.reduceGetElem?,↓gd,↓opP,↓qv,slot,putS,putO,ofV,fldA,idxA,unS,lenS,rdF,Ent.row,ldS,sz,binH,binS2,binS,z1,z3,hx,hy]
    repeat (refine ⟨by omega,?_⟩)
    exact into_keep [(2,.ptr h.length 0),(3,.ptr (h.length+1) 0),(4,.int .i64 0)] (by simp [sameT,slot,lkL]) fun j=>⟨H1,x,j,(hHH _ _).2 ⟨hH1,hx,hy⟩,hN7.2 c1,rfl⟩
 rintro _ ⟨H1,x,j7,hhh,hn7,rfl⟩
 obtain ⟨hH1,hx,hy⟩:=(hHH _ _).1 hhh
 have hE:Ext (fun _=>False) h H1:=by rw [hH1]; exact (Ext.refl _ _).app _
 have n7:=hN7.1 hn7
 obtain ⟨N8,hN8⟩:∃ N:Prop,N ↔ ¬ q.length > 64:=⟨_,Iff.rfl⟩
 refine codeP_seq (pl:=pl61) tabOk follows_mixed (by kernel_rfl) (fun st=>∃ (H1 x:List Chunk) (j:Nat→Value),HH H1 x∧N8∧st = ⟨⟨125,[(2,.ptr h.length 0),(3,.ptr (h.length+1) 0),(4,.int .i64 0)],j⟩,H1,[]⟩) ?_ ?_
 ·by_cases c1:q.length > 64
  ·have z1:decide (((q.length:Nat):Int) > 64) = true:=decide_eq_true (by omega)
   simp -implicitDefEqProofs (maxSteps:=1000000) (disch:=omega) only [↓zzP,zzA,zzL,zzB,Nat.reduceSub,reduceIte,reduceCtorEq,Nat.reduceLT,↓reduceIte,Nat.reduceLeDiff,↓gd,↓opP,↓qv,slot,putS,putO,ofV,fldA,lenS,rdF,Ent.row,ldS,sz,binH,binS2,binS,tupS,res61,z1,hx]
   repeat (refine ⟨by omega,?_⟩)
   exact drop H1 x _ hH1 (by unfold mayLs; rw [if_neg n1,if_neg n2,if_neg n3,if_neg n4,if_neg n5,if_neg n6,if_neg n7,if_pos c1])
  ·have z1:decide (((q.length:Nat):Int) > 64) = false:=decide_eq_false (by omega)
   simp -implicitDefEqProofs (maxSteps:=1000000) (disch:=omega) only [↓zzP,zzA,zzL,zzB,Nat.reduceSub,reduceIte,reduceCtorEq,Nat.reduceLT,↓reduceIte,Nat.reduceLeDiff,↓gd,↓opP,↓qv,slot,putS,putO,ofV,fldA,lenS,rdF,Ent.row,ldS,sz,binH,binS2,binS,z1,hx]
   repeat (refine ⟨by omega,?_⟩)
   exact into_keep [(2,.ptr h.length 0),(3,.ptr (h.length+1) 0),(4,.int .i64 0)] (by simp [sameT,slot,lkL]) fun j=>⟨H1,x,j,(hHH _ _).2 ⟨hH1,hx,hy⟩,hN8.2 c1,rfl⟩
 rintro _ ⟨H1,x,j8,hhh,hn8,rfl⟩
 obtain ⟨hH1,hx,hy⟩:=(hHH _ _).1 hhh
 have hE:Ext (fun _=>False) h H1:=by rw [hH1]; exact (Ext.refl _ _).app _
 have n8:=hN8.1 hn8
 refine codeP_of_vc (pl:=pl61) tabOk follows_mixed (by kernel_rfl) ?_
 simp -implicitDefEqProofs (maxSteps:=1000000) (disch:=omega) only [↓zzP,zzA,zzL,zzB,Nat.reduceSub,reduceIte,reduceCtorEq,Nat.reduceLT,↓reduceIte,Nat.reduceLeDiff,↓gd,↓opP,↓qv,slot,putS,putO,ofV,fldA,lenS,rdF,Ent.row,ldS,sz,tupS,res61,hx]
 repeat (refine ⟨by omega,?_⟩)
 have hLs:mayLs k bs p q = mayQ (hPreps k) q:=by unfold mayLs; rw [if_neg n1,if_neg n2,if_neg n3,if_neg n4,if_neg n5,if_neg n6,if_neg n7,if_neg n8]
 refine codeP_loop (pl:=pl61) tabOk follows_mixed (by kernel_rfl) (fun z st=>∃ (i:Nat) (H1 x:List Chunk) (j:Nat→Value),i+z = q.length∧HH H1 x∧mayQ (hPreps k) q = mayQ (hPreps k) (q.drop i)∧st = ⟨⟨125,[(2,.ptr h.length 0),(3,.ptr (h.length+1) 0),(4,.int .i64 0),(86,.osl kq 0 0 74 q.length),(87,.int .i64 (q.length:Nat)),(88,.int .i64 (i:Nat))],j⟩,H1,[]⟩) ?_ ?_
 ·exact into_keep [(2,.ptr h.length 0),(3,.ptr (h.length+1) 0),(4,.int .i64 0),(86,.osl kq 0 0 74 q.length),(87,.int .i64 (q.length:Nat)),(88,.int .i64 (0:Nat))] (by simp [sameT,slot,lkL]) fun j=>⟨q.length,0,H1,x,j,by omega,hhh,rfl,rfl⟩
 ·clear hE hx hy hH1 hhh x
  rintro z st ⟨i,H1,x,j,hiz,hhh,hmi,rfl⟩
  obtain ⟨hH1,hx,hy⟩:=(hHH _ _).1 hhh
  have hE:Ext (fun _=>False) h H1:=by rw [hH1]; exact (Ext.refl _ _).app _
  have hrow1:=hE.look h5 (by simp) fun h=>h
  have hl1:h.length+1 < H1.length:=lookH_lt hy (by simp)
  by_cases hi:i < q.length
  ·have g1:decide ((i:Int) < (q.length:Nat)) = true:=decide_eq_true (by omega)
   have a1:IntKind.i64.wrap ((i:Int)+1) = ((i+1:Nat):Int):=by rw [wrap64 (by omega) (by omega)]; omega
   have hP:hPrep k = true:=by
    cases hh:hPrep k with
    | true=>rfl
    | false=>exact absurd ⟨hh,by omega⟩ n7
   have hd:=mayQ_drop (hPreps k) q hi
   have hM:=h6.get hi
   have hIH:=IQ q[i] (List.getElem_mem hi)
   obtain ⟨mi,hmi2⟩:∃ mi,q[i] = mi:=⟨_,rfl⟩
   rw [hmi2] at hd hM hIH
   obtain ⟨m,l⟩:=mi
   obtain ⟨lm,kl,wl,fl,hfi,hM1,hrl,hls⟩:=hM
   have hM0:=hM1
   obtain ⟨k',f',v',s',d',b',bs',p',q',key',of'⟩:=m
   rw [MsgH] at hM1
   obtain ⟨sb,sbs,kp',wp',fp',kq',wq',fq',hlm,h1,h2,_,_,_,_⟩:=hM1
   obtain ⟨kb',wb',rfl,_⟩:=h1
   obtain ⟨kbs',wbs',fb',rfl,_,_⟩:=h2
   unfold dig32 at hlm
   rw [hlm] at hfi hM0
   simp only [List.cons_append,List.nil_append] at hfi
   simp only at hrl hls hd hIH hfi
   rw [mayW_one] at hd
   obtain ⟨m,hm⟩:∃ m,m = Msg.mk k' f' v' s' d' b' bs' p' q' key' of':=⟨_,rfl⟩
   rw [← hm] at hM0 hIH hd
   simp -implicitDefEqProofs (maxSteps:=1000000) (disch:=omega) only [↓zzP,zzA,zzL,zzB,Nat.reduceSub,reduceIte,reduceCtorEq,Nat.reduceLT,↓reduceIte,Nat.reduceEqDiff,Nat.reduceLeDiff,Nat.reduceAdd,↓gd,↓opP,↓qv,↓ef,↓stS,slot,putS,putO,ofV,fldA,idxA,rdF,Ent.row,ldS,sz,wrF,binH,binS2,binS,stor,g1,hrow1,hfi]
   repeat (refine ⟨by omega,?_⟩)
   have hE2:Ext (fun _=>False) H1 (H1++[Chunk.cells true [.int .i64 k',.int .i64 f',.int .i64 v',.int .i64 s',.fam 32 1 fun i=>.int .u8 (nat (d' i)),.osl kb' 0 0 1 b'.length,.osl kbs' 0 0 1 bs'.length,.osl kp' 0 0 73 p'.length,.osl kq' 0 0 74 q'.length,.int .i64 key',.fam 32 1 fun i=>.int .u8 (nat (of' i)),.osl kl 0 0 73 l.length]]):=(Ext.refl _ _).app _
   have hp2:lookH (H1++[Chunk.cells true [.int .i64 k',.int .i64 f',.int .i64 v',.int .i64 s',.fam 32 1 fun i=>.int .u8 (nat (d' i)),.osl kb' 0 0 1 b'.length,.osl kbs' 0 0 1 bs'.length,.osl kp' 0 0 73 p'.length,.osl kq' 0 0 74 q'.length,.int .i64 key',.fam 32 1 fun i=>.int .u8 (nat (of' i)),.osl kl 0 0 73 l.length]]) H1.length = Chunk.cells true [.int .i64 k',.int .i64 f',.int .i64 v',.int .i64 s',.fam 32 1 fun i=>.int .u8 (nat (d' i)),.osl kb' 0 0 1 b'.length,.osl kbs' 0 0 1 bs'.length,.osl kp' 0 0 73 p'.length,.osl kq' 0 0 74 q'.length,.int .i64 key',.fam 32 1 fun i=>.int .u8 (nat (of' i)),.osl kl 0 0 73 l.length]:=lookH_app0 _ _
   have hhh2:HH (H1++[Chunk.cells true [.int .i64 k',.int .i64 f',.int .i64 v',.int .i64 s',.fam 32 1 fun i=>.int .u8 (nat (d' i)),.osl kb' 0 0 1 b'.length,.osl kbs' 0 0 1 bs'.length,.osl kp' 0 0 73 p'.length,.osl kq' 0 0 74 q'.length,.int .i64 key',.fam 32 1 fun i=>.int .u8 (nat (of' i)),.osl kl 0 0 73 l.length]]) (x++[Chunk.cells true [.int .i64 k',.int .i64 f',.int .i64 v',.int .i64 s',.fam 32 1 fun i=>.int .u8 (nat (d' i)),.osl kb' 0 0 1 b'.length,.osl kbs' 0 0 1 bs'.length,.osl kp' 0 0 73 p'.length,.osl kq' 0 0 74 q'.length,.int .i64 key',.fam 32 1 fun i=>.int .u8 (nat (of' i)),.osl kl 0 0 73 l.length]]):=(hHH _ _).2 ⟨by rw [hH1,List.append_assoc],hE2.look hx (by simp) fun h=>h,hE2.look hy (by simp) fun h=>h⟩
   obtain ⟨H2,hH2⟩:∃ H2,H2 = H1++[Chunk.cells true [.int .i64 k',.int .i64 f',.int .i64 v',.int .i64 s',.fam 32 1 fun i=>.int .u8 (nat (d' i)),.osl kb' 0 0 1 b'.length,.osl kbs' 0 0 1 bs'.length,.osl kp' 0 0 73 p'.length,.osl kq' 0 0 74 q'.length,.int .i64 key',.fam 32 1 fun i=>.int .u8 (nat (of' i)),.osl kl 0 0 73 l.length]]:=⟨_,rfl⟩
   obtain ⟨x2,hx2e⟩:∃ x2,x2 = x++[Chunk.cells true [.int .i64 k',.int .i64 f',.int .i64 v',.int .i64 s',.fam 32 1 fun i=>.int .u8 (nat (d' i)),.osl kb' 0 0 1 b'.length,.osl kbs' 0 0 1 bs'.length,.osl kp' 0 0 73 p'.length,.osl kq' 0 0 74 q'.length,.int .i64 key',.fam 32 1 fun i=>.int .u8 (nat (of' i)),.osl kl 0 0 73 l.length]]:=⟨_,rfl⟩
   rw [← hH2] at hE2 hp2 hhh2 ⊢
   rw [← hx2e] at hhh2
   have hE3:=hE.trans hE2
   obtain ⟨hH2',hx2,hy2⟩:=(hHH _ _).1 hhh2
   refine c104 2 m hIH.1 _ _ (hM0.ext hE3) _ ?_
   by_cases e1:mayK 2 m = 0
   ·have z2:(mayK 2 m != 0) = false:=by rw [e1]; rfl
    rw [if_neg (fun h=>h e1)] at hd
    have hrl2:=hE3.look hrl (by simp) fun h=>h
    have hls2:=hls.ext hE3
    have hIL:=hIH.2
    clear hrl hls hE2 hE3 hM0 hIH hE hx hy hH1 hhh hrow1 hl1
    by_cases c1:k = 7∧0 < l.length
    ·have w1:(k == 7) = true:=beq_iff_eq.2 c1.1
     have w2:decide (((l.length:Nat):Int) > 0) = true:=decide_eq_true (by omega)
     have w3:mayW (hPreps k) 3 l = 1:=by unfold mayW; rw [if_pos ⟨by rw [c1.1]; rfl,c1.2⟩]
     rw [w3,if_pos (by decide)] at hd
     simp -implicitDefEqProofs (maxSteps:=1000000) (disch:=omega) only [↓zzP,zzA,zzL,zzB,Nat.reduceSub,reduceIte,reduceCtorEq,Nat.reduceLT,↓reduceIte,Nat.reduceEqDiff,Nat.reduceLeDiff,Array.reduceGetElem?,↓gd,↓opP,↓qv,slot,putS,putO,ofV,fldA,lenS,rdF,Ent.row,ldS,sz,binH,binS2,binS,z2,w1,w2,hx2,hp2]
     repeat (refine ⟨by omega,?_⟩)
     exact drop _ _ _ hH2' (hLs.trans (hmi.trans hd))
    ·have hc:∀ {P:Prop},((k == 7) = false→P)→((k == 7) = true→decide (((l.length:Nat):Int) > 0) = false→P)→P:=fun a c=>by
      cases z:k == 7 with
      | false=>exact a z
      | true=>exact c z (decide_eq_false (fun h=>c1 ⟨eq_of_beq z,by omega⟩))
     have nc:¬ (hPreps k = false∧0 < l.length):=fun h=>c1 ⟨by
      have h1:=h.1
      unfold hPrep at hP
      unfold hPreps at h1
      rw [Bool.or_eq_true,beq_iff_eq,beq_iff_eq] at hP
      rw [beq_eq_false_iff_ne] at h1
      omega,h.2⟩
     by_cases e3:l.length > 64
     ·have w4:decide (((l.length:Nat):Int) > 64) = true:=decide_eq_true (by omega)
      have w3:mayW (hPreps k) 3 l = 18:=by unfold mayW; rw [if_neg nc,if_pos e3]
      rw [w3,if_pos (by decide)] at hd
      refine hc (fun w1=>?_) fun w1 w2=>?_
      ·simp -implicitDefEqProofs (maxSteps:=1000000) (disch:=omega) only [↓zzP,zzA,zzL,zzB,Nat.reduceSub,reduceIte,reduceCtorEq,Nat.reduceLT,↓reduceIte,Nat.reduceEqDiff,Nat.reduceLeDiff,Array.reduceGetElem?,↓gd,↓opP,↓qv,slot,putS,putO,ofV,fldA,lenS,rdF,Ent.row,ldS,sz,binH,binS2,binS,z2,w1,w4,hx2,hp2]
       repeat (refine ⟨by omega,?_⟩)
       exact drop _ _ _ hH2' (hLs.trans (hmi.trans hd))
      ·simp -implicitDefEqProofs (maxSteps:=1000000) (disch:=omega) only [↓zzP,zzA,zzL,zzB,Nat.reduceSub,reduceIte,reduceCtorEq,Nat.reduceLT,↓reduceIte,Nat.reduceEqDiff,Nat.reduceLeDiff,Array.reduceGetElem?,↓gd,↓opP,↓qv,slot,putS,putO,ofV,fldA,lenS,rdF,Ent.row,ldS,sz,binH,binS2,binS,z2,w1,w2,w4,hx2,hp2]
       repeat (refine ⟨by omega,?_⟩)
       exact drop _ _ _ hH2' (hLs.trans (hmi.trans hd))
     ·have w4:decide (((l.length:Nat):Int) > 64) = false:=decide_eq_false (by omega)
      have w3:mayW (hPreps k) 3 l = mayL 3 l:=by unfold mayW; rw [if_neg nc,if_neg e3]
      rw [w3] at hd
      refine hc (fun w1=>?_) fun w1 w2=>?_
      ·simp -implicitDefEqProofs (maxSteps:=1000000) (disch:=omega) only [↓zzP,zzA,zzL,zzB,Nat.reduceSub,reduceIte,reduceCtorEq,Nat.reduceLT,↓reduceIte,Nat.reduceEqDiff,Nat.reduceLeDiff,Array.reduceGetElem?,↓gd,↓opP,↓qv,slot,putS,putO,ofV,fldA,lenS,rdF,Ent.row,ldS,sz,binH,binS2,binS,z2,w1,w4,hx2,hp2]
       repeat (refine ⟨by omega,?_⟩)
       refine codeP_loop (pl:=pl61) tabOk follows_mixed (by kernel_rfl) (fun y st=>∃ (u:Nat) (H3 x3:List Chunk) (j:Nat→Value),u+y = l.length∧HH H3 x3∧mayL 3 l = mayL 3 (l.drop u)∧Ext (fun _=>False) H2 H3∧st = ⟨⟨125,[(2,.ptr h.length 0),(3,.ptr (h.length+1) 0),(4,.int .i64 0),(86,.osl kq 0 0 74 q.length),(87,.int .i64 (q.length:Nat)),(88,.int .i64 (i:Nat)),(112,.osl kl 0 0 73 l.length),(113,.int .i64 (l.length:Nat)),(114,.int .i64 (u:Nat))],j⟩,H3,[]⟩) ?_ ?_
       ·exact into_keep [(2,.ptr h.length 0),(3,.ptr (h.length+1) 0),(4,.int .i64 0),(86,.osl kq 0 0 74 q.length),(87,.int .i64 (q.length:Nat)),(88,.int .i64 (i:Nat)),(112,.osl kl 0 0 73 l.length),(113,.int .i64 (l.length:Nat)),(114,.int .i64 (0:Nat))] (by simp [sameT,slot,lkL]) fun j=>⟨l.length,0,H2,x2,j,by omega,hhh2,rfl,Ext.refl _ _,rfl⟩
       ·rintro y st ⟨u,H3,x3,j,huy,hhh3,hmu,hEx,rfl⟩
        obtain ⟨hH3,hx3,hy3⟩:=(hHH _ _).1 hhh3
        have hrow3:=hEx.look hrl2 (by simp) fun h=>h
        have hl3:h.length+1 < H3.length:=lookH_lt hy3 (by simp)
        by_cases hu:u < l.length
        ·have g2:decide ((u:Int) < (l.length:Nat)) = true:=decide_eq_true (by omega)
         have a2:IntKind.i64.wrap ((u:Int)+1) = ((u+1:Nat):Int):=by rw [wrap64 (by omega) (by omega)]; omega
         have hdu:=mayL_dropK 3 l hu
         have hM:=hls2.get hu
         have hI:=hIL l[u] (List.getElem_mem hu)
         obtain ⟨mu,hmu2⟩:∃ mu,l[u] = mu:=⟨_,rfl⟩
         rw [hmu2] at hdu hM hI
         have hM0:=hM
         clear hmu2
         obtain ⟨k'',f'',v'',s'',d'',b'',bs'',p'',q'',key'',of''⟩:=mu
         rw [MsgH] at hM
         obtain ⟨sb,sbs,kp'',wp'',fp'',kq'',wq'',fq'',hfu,h1,h2,_,_,_,_⟩:=hM
         obtain ⟨kb'',wb'',rfl,_⟩:=h1
         obtain ⟨kbs'',wbs'',fb'',rfl,_,_⟩:=h2
         unfold dig32 at hfu
         rw [hfu] at hM0
         obtain ⟨mu,hm2⟩:∃ m,m = Msg.mk k'' f'' v'' s'' d'' b'' bs'' p'' q'' key'' of'':=⟨_,rfl⟩
         rw [← hm2] at hM0 hI hdu
         simp -implicitDefEqProofs (maxSteps:=1000000) (disch:=omega) only [↓zzP,zzA,zzL,zzB,Nat.reduceSub,reduceIte,reduceCtorEq,Nat.reduceLT,↓reduceIte,Nat.reduceEqDiff,Nat.reduceLeDiff,Nat.reduceAdd,↓gd,↓opP,↓qv,↓ef,↓stS,slot,putS,putO,ofV,idxA,rdF,Ent.row,ldS,sz,wrF,binH,binS2,binS,stor,g2,hrow3,hfu]
         repeat (refine ⟨by omega,?_⟩)
         have hE4:Ext (fun _=>False) H3 (H3++[Chunk.cells true [.int .i64 k'',.int .i64 f'',.int .i64 v'',.int .i64 s'',.fam 32 1 fun i=>.int .u8 (nat (d'' i)),.osl kb'' 0 0 1 b''.length,.osl kbs'' 0 0 1 bs''.length,.osl kp'' 0 0 73 p''.length,.osl kq'' 0 0 74 q''.length,.int .i64 key'',.fam 32 1 fun i=>.int .u8 (nat (of'' i))]]):=(Ext.refl _ _).app _
         have hhh4:HH (H3++[Chunk.cells true [.int .i64 k'',.int .i64 f'',.int .i64 v'',.int .i64 s'',.fam 32 1 fun i=>.int .u8 (nat (d'' i)),.osl kb'' 0 0 1 b''.length,.osl kbs'' 0 0 1 bs''.length,.osl kp'' 0 0 73 p''.length,.osl kq'' 0 0 74 q''.length,.int .i64 key'',.fam 32 1 fun i=>.int .u8 (nat (of'' i))]]) (x3++[Chunk.cells true [.int .i64 k'',.int .i64 f'',.int .i64 v'',.int .i64 s'',.fam 32 1 fun i=>.int .u8 (nat (d'' i)),.osl kb'' 0 0 1 b''.length,.osl kbs'' 0 0 1 bs''.length,.osl kp'' 0 0 73 p''.length,.osl kq'' 0 0 74 q''.length,.int .i64 key'',.fam 32 1 fun i=>.int .u8 (nat (of'' i))]]):=(hHH _ _).2 ⟨by rw [hH3,List.append_assoc],hE4.look hx3 (by simp) fun h=>h,hE4.look hy3 (by simp) fun h=>h⟩
         refine c104 3 mu hI _ _ ((hM0.ext hEx).ext hE4) _ ?_
         by_cases e:mayK 3 mu = 0
         ·have z2:(mayK 3 mu != 0) = false:=by rw [e]; rfl
          rw [if_neg (fun h=>h e)] at hdu
          simp -implicitDefEqProofs (maxSteps:=1000000) (disch:=omega) only [↓zzP,zzA,reduceIte,Nat.reduceLT,↓reduceIte,Nat.reduceEqDiff,↓gd,↓opP,↓qv,slot,putS,putO,ofV,binH,binS2,binS,z2,a2]
          repeat (refine ⟨by omega,?_⟩)
          exact into_keep [(2,.ptr h.length 0),(3,.ptr (h.length+1) 0),(4,.int .i64 0),(86,.osl kq 0 0 74 q.length),(87,.int .i64 (q.length:Nat)),(88,.int .i64 (i:Nat)),(112,.osl kl 0 0 73 l.length),(113,.int .i64 (l.length:Nat)),(114,.int .i64 (u+1:Nat))] (by simp [sameT,slot,lkL]) fun j=>⟨y - 1,by omega,u+1,_,_,j,by omega,hhh4,hmu.trans hdu,hEx.trans hE4,rfl⟩
         ·have z2:(mayK 3 mu != 0) = true:=bne_iff_ne.2 e
          rw [if_pos e] at hdu
          have hv:=hmu.trans hdu
          rw [if_pos (by rw [hv]; exact e),hv] at hd
          simp -implicitDefEqProofs (maxSteps:=1000000) (disch:=omega) only [↓zzP,zzA,reduceIte,reduceCtorEq,Nat.reduceLT,↓reduceIte,Nat.reduceEqDiff,↓gd,↓opP,↓qv,slot,putS,putO,ofV,binH,binS2,binS,z2]
          repeat (refine ⟨by omega,?_⟩)
          exact drop _ _ _ ((hHH _ _).1 hhh4).1 (hLs.trans (hmi.trans hd))
        ·have g2:decide ((u:Int) < (l.length:Nat)) = false:=decide_eq_false (by omega)
         have hdu:l.drop u = []:=List.drop_of_length_le (by omega)
         rw [hdu,mayL] at hmu
         rw [if_neg (fun h=>h hmu)] at hd
         simp -implicitDefEqProofs (maxSteps:=1000000) (disch:=omega) only [↓zzP,zzA,zzL,reduceIte,reduceCtorEq,Nat.reduceLT,↓reduceIte,Nat.reduceEqDiff,↓gd,↓opP,↓qv,slot,putS,putO,ofV,binH,binS2,binS,g2,a1]
         repeat (refine ⟨by omega,?_⟩)
         exact into_keep [(2,.ptr h.length 0),(3,.ptr (h.length+1) 0),(4,.int .i64 0),(86,.osl kq 0 0 74 q.length),(87,.int .i64 (q.length:Nat)),(88,.int .i64 (i+1:Nat))] (by simp [sameT,slot,lkL]) fun j=>⟨z - 1,by omega,i+1,H3,x3,j,by omega,hhh3,hmi.trans hd,rfl⟩
      ·simp -implicitDefEqProofs (maxSteps:=1000000) (disch:=omega) only [↓zzP,zzA,zzL,zzB,Nat.reduceSub,reduceIte,reduceCtorEq,Nat.reduceLT,↓reduceIte,Nat.reduceEqDiff,Nat.reduceLeDiff,Array.reduceGetElem?,↓gd,↓opP,↓qv,slot,putS,putO,ofV,fldA,lenS,rdF,Ent.row,ldS,sz,binH,binS2,binS,z2,w1,w2,w4,hx2,hp2]
       repeat (refine ⟨by omega,?_⟩)
       refine codeP_loop (pl:=pl61) tabOk follows_mixed (by kernel_rfl) (fun y st=>∃ (u:Nat) (H3 x3:List Chunk) (j:Nat→Value),u+y = l.length∧HH H3 x3∧mayL 3 l = mayL 3 (l.drop u)∧Ext (fun _=>False) H2 H3∧st = ⟨⟨125,[(2,.ptr h.length 0),(3,.ptr (h.length+1) 0),(4,.int .i64 0),(86,.osl kq 0 0 74 q.length),(87,.int .i64 (q.length:Nat)),(88,.int .i64 (i:Nat)),(112,.osl kl 0 0 73 l.length),(113,.int .i64 (l.length:Nat)),(114,.int .i64 (u:Nat))],j⟩,H3,[]⟩) ?_ ?_
       ·exact into_keep [(2,.ptr h.length 0),(3,.ptr (h.length+1) 0),(4,.int .i64 0),(86,.osl kq 0 0 74 q.length),(87,.int .i64 (q.length:Nat)),(88,.int .i64 (i:Nat)),(112,.osl kl 0 0 73 l.length),(113,.int .i64 (l.length:Nat)),(114,.int .i64 (0:Nat))] (by simp [sameT,slot,lkL]) fun j=>⟨l.length,0,H2,x2,j,by omega,hhh2,rfl,Ext.refl _ _,rfl⟩
       ·rintro y st ⟨u,H3,x3,j,huy,hhh3,hmu,hEx,rfl⟩
        obtain ⟨hH3,hx3,hy3⟩:=(hHH _ _).1 hhh3
        have hrow3:=hEx.look hrl2 (by simp) fun h=>h
        have hl3:h.length+1 < H3.length:=lookH_lt hy3 (by simp)
        by_cases hu:u < l.length
        ·have g2:decide ((u:Int) < (l.length:Nat)) = true:=decide_eq_true (by omega)
         have a2:IntKind.i64.wrap ((u:Int)+1) = ((u+1:Nat):Int):=by rw [wrap64 (by omega) (by omega)]; omega
         have hdu:=mayL_dropK 3 l hu
         have hM:=hls2.get hu
         have hI:=hIL l[u] (List.getElem_mem hu)
         obtain ⟨mu,hmu2⟩:∃ mu,l[u] = mu:=⟨_,rfl⟩
         rw [hmu2] at hdu hM hI
         have hM0:=hM
         clear hmu2
         obtain ⟨k'',f'',v'',s'',d'',b'',bs'',p'',q'',key'',of''⟩:=mu
         rw [MsgH] at hM
         obtain ⟨sb,sbs,kp'',wp'',fp'',kq'',wq'',fq'',hfu,h1,h2,_,_,_,_⟩:=hM
         obtain ⟨kb'',wb'',rfl,_⟩:=h1
         obtain ⟨kbs'',wbs'',fb'',rfl,_,_⟩:=h2
         unfold dig32 at hfu
         rw [hfu] at hM0
         obtain ⟨mu,hm2⟩:∃ m,m = Msg.mk k'' f'' v'' s'' d'' b'' bs'' p'' q'' key'' of'':=⟨_,rfl⟩
         rw [← hm2] at hM0 hI hdu
         simp -implicitDefEqProofs (maxSteps:=1000000) (disch:=omega) only [↓zzP,zzA,zzL,zzB,Nat.reduceSub,reduceIte,reduceCtorEq,Nat.reduceLT,↓reduceIte,Nat.reduceEqDiff,Nat.reduceLeDiff,Nat.reduceAdd,↓gd,↓opP,↓qv,↓ef,↓stS,slot,putS,putO,ofV,idxA,rdF,Ent.row,ldS,sz,wrF,binH,binS2,binS,stor,g2,hrow3,hfu]
         repeat (refine ⟨by omega,?_⟩)
         have hE4:Ext (fun _=>False) H3 (H3++[Chunk.cells true [.int .i64 k'',.int .i64 f'',.int .i64 v'',.int .i64 s'',.fam 32 1 fun i=>.int .u8 (nat (d'' i)),.osl kb'' 0 0 1 b''.length,.osl kbs'' 0 0 1 bs''.length,.osl kp'' 0 0 73 p''.length,.osl kq'' 0 0 74 q''.length,.int .i64 key'',.fam 32 1 fun i=>.int .u8 (nat (of'' i))]]):=(Ext.refl _ _).app _
         have hhh4:HH (H3++[Chunk.cells true [.int .i64 k'',.int .i64 f'',.int .i64 v'',.int .i64 s'',.fam 32 1 fun i=>.int .u8 (nat (d'' i)),.osl kb'' 0 0 1 b''.length,.osl kbs'' 0 0 1 bs''.length,.osl kp'' 0 0 73 p''.length,.osl kq'' 0 0 74 q''.length,.int .i64 key'',.fam 32 1 fun i=>.int .u8 (nat (of'' i))]]) (x3++[Chunk.cells true [.int .i64 k'',.int .i64 f'',.int .i64 v'',.int .i64 s'',.fam 32 1 fun i=>.int .u8 (nat (d'' i)),.osl kb'' 0 0 1 b''.length,.osl kbs'' 0 0 1 bs''.length,.osl kp'' 0 0 73 p''.length,.osl kq'' 0 0 74 q''.length,.int .i64 key'',.fam 32 1 fun i=>.int .u8 (nat (of'' i))]]):=(hHH _ _).2 ⟨by rw [hH3,List.append_assoc],hE4.look hx3 (by simp) fun h=>h,hE4.look hy3 (by simp) fun h=>h⟩
         refine c104 3 mu hI _ _ ((hM0.ext hEx).ext hE4) _ ?_
         by_cases e:mayK 3 mu = 0
         ·have z2:(mayK 3 mu != 0) = false:=by rw [e]; rfl
          rw [if_neg (fun h=>h e)] at hdu
          simp -implicitDefEqProofs (maxSteps:=1000000) (disch:=omega) only [↓zzP,zzA,reduceIte,Nat.reduceLT,↓reduceIte,Nat.reduceEqDiff,↓gd,↓opP,↓qv,slot,putS,putO,ofV,binH,binS2,binS,z2,a2]
          repeat (refine ⟨by omega,?_⟩)
          exact into_keep [(2,.ptr h.length 0),(3,.ptr (h.length+1) 0),(4,.int .i64 0),(86,.osl kq 0 0 74 q.length),(87,.int .i64 (q.length:Nat)),(88,.int .i64 (i:Nat)),(112,.osl kl 0 0 73 l.length),(113,.int .i64 (l.length:Nat)),(114,.int .i64 (u+1:Nat))] (by simp [sameT,slot,lkL]) fun j=>⟨y - 1,by omega,u+1,_,_,j,by omega,hhh4,hmu.trans hdu,hEx.trans hE4,rfl⟩
         ·have z2:(mayK 3 mu != 0) = true:=bne_iff_ne.2 e
          rw [if_pos e] at hdu
          have hv:=hmu.trans hdu
          rw [if_pos (by rw [hv]; exact e),hv] at hd
          simp -implicitDefEqProofs (maxSteps:=1000000) (disch:=omega) only [↓zzP,zzA,reduceIte,reduceCtorEq,Nat.reduceLT,↓reduceIte,Nat.reduceEqDiff,↓gd,↓opP,↓qv,slot,putS,putO,ofV,binH,binS2,binS,z2]
          repeat (refine ⟨by omega,?_⟩)
          exact drop _ _ _ ((hHH _ _).1 hhh4).1 (hLs.trans (hmi.trans hd))
        ·have g2:decide ((u:Int) < (l.length:Nat)) = false:=decide_eq_false (by omega)
         have hdu:l.drop u = []:=List.drop_of_length_le (by omega)
         rw [hdu,mayL] at hmu
         rw [if_neg (fun h=>h hmu)] at hd
         simp -implicitDefEqProofs (maxSteps:=1000000) (disch:=omega) only [↓zzP,zzA,zzL,reduceIte,reduceCtorEq,Nat.reduceLT,↓reduceIte,Nat.reduceEqDiff,↓gd,↓opP,↓qv,slot,putS,putO,ofV,binH,binS2,binS,g2,a1]
         repeat (refine ⟨by omega,?_⟩)
         exact into_keep [(2,.ptr h.length 0),(3,.ptr (h.length+1) 0),(4,.int .i64 0),(86,.osl kq 0 0 74 q.length),(87,.int .i64 (q.length:Nat)),(88,.int .i64 (i+1:Nat))] (by simp [sameT,slot,lkL]) fun j=>⟨z - 1,by omega,i+1,H3,x3,j,by omega,hhh3,hmi.trans hd,rfl⟩
   ·have z2:(mayK 2 m != 0) = true:=bne_iff_ne.2 e1
    rw [if_pos e1] at hd
    simp -implicitDefEqProofs (maxSteps:=1000000) (disch:=omega) only [↓zzP,zzA,reduceIte,reduceCtorEq,Nat.reduceLT,↓reduceIte,Nat.reduceEqDiff,↓gd,↓opP,↓qv,slot,putS,putO,ofV,binH,binS2,binS,z2]
    repeat (refine ⟨by omega,?_⟩)
    exact drop _ _ _ hH2' (hLs.trans (hmi.trans hd))
  ·have g1:decide ((i:Int) < (q.length:Nat)) = false:=decide_eq_false (by omega)
   have hd:q.drop i = []:=List.drop_of_length_le (by omega)
   rw [hd] at hmi
   simp -implicitDefEqProofs (maxSteps:=1000000) (disch:=omega) only [↓zzP,zzA,zzL,reduceIte,reduceCtorEq,Nat.reduceLT,↓reduceIte,Nat.reduceEqDiff,↓gd,↓opP,↓qv,slot,putS,putO,ofV,binH,binS2,binS,g1]
   repeat (refine ⟨by omega,?_⟩)
   exact drop _ _ _ hH1 (hLs.trans (hmi.trans (by rw [mayQ])))
end Go.Proofs.Ytgocfglmideobaa
set_option linter.all false
set_option maxRecDepth 40000
namespace Go.Proofs.Ytgocfglmideobaa
open Go Go.Sx
theorem res16:Try.f16.results.toList = [.tmp 2]:=rfl
theorem okNum_neg {b:Bool} {n:Int} (h:n < 0):okNum b n = false:=by
 unfold okNum
 rw [beq_eq_false_iff_ne.2 (show n ≠ 0 by omega),decide_eq_false (show ¬ 0 < n by omega)]
 cases b <;> rfl
theorem okNum_big {b:Bool} {n:Int} (h:n > 1099511627776):okNum b n = false:=by
 unfold okNum
 rw [beq_eq_false_iff_ne.2 (show n ≠ 0 by omega),decide_eq_false (show ¬ n≤1099511627776 by omega)]
 cases b <;> simp
theorem okNum_no {n:Int} (h:n ≠ 0):okNum false n = false:=by
 unfold okNum
 rw [beq_eq_false_iff_ne.2 h]
 rfl
theorem okNum_t {n:Int} (h:¬ n < 0) (h1:¬ n > 1099511627776):okNum true n = true:=by
 unfold okNum
 by_cases e:n = 0
 ·rw [e]; rfl
 ·rw [decide_eq_true (show 0 < n by omega),decide_eq_true (show n≤1099511627776 by omega)]
  simp
theorem may_eq (k f v s:Int) (d:Nat→By) (b:List By) (bs:List (List By)) (p:List Msg) (q:List (Msg × List Msg)) (key:Int) (of:Nat→By):may (.mk k f v s d b bs p q key of) =
  if ¬ (1≤k∧k≤9) then 1 else if ¬ okFrom k f = true then 1 else if ¬ (okNum (hView k) v = true∧okNum (hSeq k) s = true∧(hDig k || zero32 d) = true) then 1 else
  if hBun k = true∧mayB b ≠ 0 then mayB b else if hBun k = false∧0 < b.length then 1 else if mayLs k bs p q ≠ 0 then mayLs k bs p q else if k = 1∧(key ≠ 0 ∨ zero32 of = false) then 1 else 0:=by
 rw [may]
 have hh:mayHead k f v s d = false ↔ ¬ ((1≤k∧k≤9)∧okFrom k f = true∧(okNum (hView k) v = true∧okNum (hSeq k) s = true∧(hDig k || zero32 d) = true)):=by
  unfold mayHead
  rw [← Bool.not_eq_true,Bool.and_eq_true,Bool.and_eq_true,Bool.and_eq_true,Bool.and_eq_true,Bool.and_eq_true,decide_eq_true_iff,decide_eq_true_iff]
  constructor
  ·rintro h ⟨⟨h1,h2⟩,h3,h4,h5,h6⟩
   exact h ⟨⟨⟨⟨⟨h1,h2⟩,h3⟩,h4⟩,h5⟩,h6⟩
  ·rintro h ⟨⟨⟨⟨⟨h1,h2⟩,h3⟩,h4⟩,h5⟩,h6⟩
   exact h ⟨⟨h1,h2⟩,h3,h4,h5,h6⟩
 dsimp only
 obtain ⟨e2,h2⟩:∃ e2,e2 = if hProof k = false∧0 < p.length then 1 else if p.length > 64 then 18 else mayL (kProof k) p:=⟨_,rfl⟩
 obtain ⟨e3,h3⟩:∃ e3,e3 = if hPrep k = false∧0 < q.length then 1 else if q.length > 64 then 18 else mayQ (hPreps k) q:=⟨_,rfl⟩
 have hL:mayLs k bs p q = if hBuns k = false∧0 < bs.length then 1 else if bs.length > 512 then 18 else if mayBs bs ≠ 0 then mayBs bs else if e2 ≠ 0 then e2 else e3:=by
  have hx:∀ X:Int,(if hProof k = false∧0 < p.length then 1 else if p.length > 64 then 18 else if mayL (kProof k) p ≠ 0 then mayL (kProof k) p else X) = if e2 ≠ 0 then e2 else X:=fun X=>by
   by_cases p1:hProof k = false∧0 < p.length
   ·rw [if_pos p1] at h2 ⊢
    rw [h2,if_pos (show (1:Int) ≠ 0 by decide)]
   ·rw [if_neg p1] at h2 ⊢
    by_cases p2:p.length > 64
    ·rw [if_pos p2] at h2 ⊢
     rw [h2,if_pos (show (18:Int) ≠ 0 by decide)]
    ·rw [if_neg p2] at h2 ⊢
     rw [h2]
  unfold mayLs
  rw [← h3,hx e3]
 rw [← h2,← h3,hL]
 by_cases c1:1≤k∧k≤9
 ·have i1:¬ ¬ (1≤k∧k≤9):=fun h=>h c1
  rw [if_neg i1]
  by_cases c2:okFrom k f = true
  ·have i2:¬ ¬ (okFrom k f = true):=fun h=>h c2
   rw [if_neg i2]
   by_cases c3:okNum (hView k) v = true∧okNum (hSeq k) s = true∧(hDig k || zero32 d) = true
   ·have i3:¬ ¬ (okNum (hView k) v = true∧okNum (hSeq k) s = true∧(hDig k || zero32 d) = true):=fun h=>h c3
    have i4:¬ mayHead k f v s d = false:=fun h=>hh.1 h ⟨c1,c2,c3⟩
    rw [if_neg i3,if_neg i4]
    clear h2 h3 hL hh
    unfold mayBuns
    by_cases b1:hBun k = true∧mayB b ≠ 0
    ·rw [if_pos b1,if_pos b1,if_pos b1.2]
    ·rw [if_neg b1,if_neg b1]
     by_cases b2:hBun k = false∧0 < b.length
     ·rw [if_pos (show (hBun k = false∧0 < b.length) ∨ (hBuns k = false∧0 < bs.length) from .inl b2),if_pos b2,if_pos (by decide)]
     ·rw [if_neg b2]
      by_cases b3:hBuns k = false∧0 < bs.length
      ·rw [if_pos (show (hBun k = false∧0 < b.length) ∨ (hBuns k = false∧0 < bs.length) from .inr b3),if_pos b3]; rfl
      ·have b3':¬ ((hBun k = false∧0 < b.length) ∨ (hBuns k = false∧0 < bs.length)):=fun h=>h.elim b2 b3
       rw [if_neg b3',if_neg b3]
       by_cases b4:bs.length > 512
       ·rw [if_pos b4,if_pos b4]; rfl
       ·rw [if_neg b4,if_neg b4]
        by_cases b5:mayBs bs ≠ 0
        ·rw [if_pos b5,if_pos b5,if_pos b5]
        ·rw [if_neg b5,if_neg b5]
         by_cases p3:e2 ≠ 0
         ·rw [if_pos p3,if_pos p3,if_pos p3]
         ·rw [if_neg p3,if_neg p3]
   ·rw [if_pos c3,if_pos (hh.2 fun h=>c3 h.2.2)]
  ·rw [if_pos c2,if_pos (hh.2 fun h=>c2 h.2.1)]
 ·rw [if_pos c1,if_pos (hh.2 fun h=>c1 h.1)]
set_option maxHeartbeats 8000000 in
theorem c16S (k f v s:Int) (d:Nat→By) (b:List By) (bs:List (List By)) (p:List Msg) (q:List (Msg × List Msg)) (key:Int) (of:Nat→By) (IP:∀ m ∈ p,RAt m) (IQ:∀ x ∈ q,RAt x.1∧∀ m ∈ x.2,RAt m):RAt (.mk k f v s d b bs p q key of):=by
 intro l h hm K hK
 rw [may_eq] at hK
 have hm0:=hm
 rw [MsgH] at hm
 obtain ⟨sb,sbs,kp,wp,fp,kq,wq,fq,hl,h1,h2,h3,h4,h5,h6⟩:=hm
 obtain ⟨kb,wb,rfl,hkb⟩:=h1
 obtain ⟨kbs,wbs,fb,rfl,hkbs,hfb⟩:=h2
 unfold dig32 at hl
 subst hl
 refine callP_good fun hgood=>?_
 obtain ⟨W,hW⟩:∃ W,W = mayLs k bs p q:=⟨_,rfl⟩
 rw [← hW] at hK
 have drop:∀ (H1 x:List Chunk) e,H1 = h++x→(if ¬ (1≤k∧k≤9) then 1 else if ¬ okFrom k f = true then 1 else if ¬ (okNum (hView k) v = true∧okNum (hSeq k) s = true∧(hDig k || zero32 d) = true) then 1 else
  if hBun k = true∧mayB b ≠ 0 then mayB b else if hBun k = false∧0 < b.length then 1 else if W ≠ 0 then W else if k = 1∧(key ≠ 0 ∨ zero32 of = false) then 1 else 0) = e→IntoR h.length (.int .i64 e) H1 K:=fun H1 x e hH he=>by
  rw [he] at hK
  rw [hH]
  exact intoR_drop hgood trivial hK
 obtain ⟨HH,hHH⟩:∃ HH:List Chunk→List Chunk→Prop,∀ H1 x,HH H1 x ↔ (H1 = h++x∧lookH H1 h.length = (Chunk.cells true [.int .i64 k,.int .i64 f,.int .i64 v,.int .i64 s,.fam 32 1 fun i=>.int .u8 (nat (d i)),.osl kb 0 0 1 b.length,.osl kbs 0 0 1 bs.length,.osl kp 0 0 73 p.length,.osl kq 0 0 74 q.length,.int .i64 key,.fam 32 1 fun i=>.int .u8 (nat (of i))])∧lookH H1 (h.length+1) = (Chunk.cells true [.bool (hView k),.bool (hSeq k),.bool (hDig k),.bool (hBun k),.bool (hBuns k),.bool (hProof k),.bool (hPrep k)])):=⟨_,fun _ _=>Iff.rfl⟩
 obtain ⟨N1,hN1⟩:∃ N:Prop,N ↔ (1≤k∧k≤9):=⟨_,Iff.rfl⟩
 refine callP_of_code tabOk Try.func16 (by kernel_rfl) rfl (Nat.le_of_ble_eq_true rfl) ?_
 rw [Try.ntmps16]
 refine codeP_seq (pl:=np) tabOk follows_mixed (by kernel_rfl) _ ?_ (fun s h=>h)
 simp -implicitDefEqProofs (maxSteps:=1000000) (disch:=omega) only [↓zzP,zzA,zzL,zzB,reduceIte,Nat.reduceLT,↓reduceIte,Int.reduceNeg,↓gd,↓opP,↓qv,↓ef,slot,putS,putO,ofV,tupS,stor,res16]
 repeat (refine ⟨by omega,?_⟩)
 refine into_refl ?_
 refine codeP_seq (pl:=np) tabOk follows_mixed (by kernel_rfl) (fun st=>∃ (j:Nat→Value),N1∧st = ⟨⟨116,[(1,.ptr h.length 0),(2,.int .i64 0)],j⟩,h++[Chunk.cells true [.int .i64 k,.int .i64 f,.int .i64 v,.int .i64 s,.fam 32 1 fun i=>.int .u8 (nat (d i)),.osl kb 0 0 1 b.length,.osl kbs 0 0 1 bs.length,.osl kp 0 0 73 p.length,.osl kq 0 0 74 q.length,.int .i64 key,.fam 32 1 fun i=>.int .u8 (nat (of i))]],[]⟩) ?_ ?_
 ·by_cases c1:k < 1
  ·have z1:decide (k < 1) = true:=decide_eq_true c1
   have hd:=drop (h++[Chunk.cells true [.int .i64 k,.int .i64 f,.int .i64 v,.int .i64 s,.fam 32 1 fun i=>.int .u8 (nat (d i)),.osl kb 0 0 1 b.length,.osl kbs 0 0 1 bs.length,.osl kp 0 0 73 p.length,.osl kq 0 0 74 q.length,.int .i64 key,.fam 32 1 fun i=>.int .u8 (nat (of i))]]) _ 1 rfl (by rw [if_pos]; omega)
   simp -implicitDefEqProofs (maxSteps:=1000000) (disch:=omega) only [↓zzP,zzA,zzL,zzB,reduceIte,reduceCtorEq,Nat.reduceLT,↓reduceIte,Nat.reduceEqDiff,Array.reduceGetElem?,↓gd,↓opP,↓qv,slot,putS,putO,ofV,fldA,rdF,Ent.row,ldS,binH,binS2,binS,z1]
   repeat (refine ⟨by omega,?_⟩)
   exact hd
  ·have z1:decide (k < 1) = false:=decide_eq_false c1
   by_cases c2:k > 9
   ·have z2:decide (k > 9) = true:=decide_eq_true c2
    have hd:=drop (h++[Chunk.cells true [.int .i64 k,.int .i64 f,.int .i64 v,.int .i64 s,.fam 32 1 fun i=>.int .u8 (nat (d i)),.osl kb 0 0 1 b.length,.osl kbs 0 0 1 bs.length,.osl kp 0 0 73 p.length,.osl kq 0 0 74 q.length,.int .i64 key,.fam 32 1 fun i=>.int .u8 (nat (of i))]]) _ 1 rfl (by rw [if_pos]; omega)
    simp -implicitDefEqProofs (maxSteps:=1000000) (disch:=omega) only [↓zzP,zzA,zzL,zzB,reduceIte,reduceCtorEq,Nat.reduceLT,↓reduceIte,Nat.reduceEqDiff,Array.reduceGetElem?,↓gd,↓opP,↓qv,slot,putS,putO,ofV,fldA,rdF,Ent.row,ldS,binH,binS2,binS,z1,z2]
    repeat (refine ⟨by omega,?_⟩)
    exact hd
   ·have z2:decide (k > 9) = false:=decide_eq_false c2
    simp -implicitDefEqProofs (maxSteps:=1000000) (disch:=omega) only [↓zzP,zzA,zzL,zzB,reduceIte,reduceCtorEq,Nat.reduceLT,↓reduceIte,Nat.reduceEqDiff,Array.reduceGetElem?,↓gd,↓opP,↓qv,slot,putS,putO,ofV,fldA,rdF,Ent.row,ldS,binH,binS2,binS,z1,z2]
    repeat (refine ⟨by omega,?_⟩)
    exact into_keep [(1,.ptr h.length 0),(2,.int .i64 0)] (by simp [sameT,slot,lkL]) fun j=>⟨j,hN1.2 (by omega),rfl⟩
 rintro _ ⟨j0,hn1,rfl⟩
 have n1:=hN1.1 hn1
 have i1:¬ ¬ (1≤k∧k≤9):=fun h=>h n1
 refine codeP_seq (pl:=np) tabOk follows_mixed (by kernel_rfl) (fun st=>∃ (H1 x:List Chunk) (j:Nat→Value),HH H1 x∧True∧st = ⟨⟨116,[(1,.ptr h.length 0),(2,.int .i64 0),(3,.ptr (h.length+1) 0)],j⟩,H1,[]⟩) ?_ ?_
 ·simp -implicitDefEqProofs (maxSteps:=1000000) (disch:=omega) only [↓zzP,zzA,zzL,zzB,reduceIte,reduceCtorEq,Nat.reduceLT,↓reduceIte,↓gd,↓opP,↓qv,slot,putS,putO,fldA,rdF,Ent.row,ldS]
  repeat (refine ⟨by omega,?_⟩)
  refine c59 k n1 _ _ ?_
  unfold hasR
  simp -implicitDefEqProofs (maxSteps:=1000000) (disch:=omega) only [↓zzP,zzA,zzB,Nat.reduceSub,reduceIte,reduceCtorEq,Nat.reduceLT,↓reduceIte,Nat.reduceEqDiff,Nat.reduceLeDiff,Nat.reduceAdd,↓gd,↓opP,↓qv,↓ef,↓stS,slot,putS,putO,sz,wrF,stor]
  repeat (refine ⟨by omega,?_⟩)
  have hb:HH (h++[Chunk.cells true [.int .i64 k,.int .i64 f,.int .i64 v,.int .i64 s,.fam 32 1 fun i=>.int .u8 (nat (d i)),.osl kb 0 0 1 b.length,.osl kbs 0 0 1 bs.length,.osl kp 0 0 73 p.length,.osl kq 0 0 74 q.length,.int .i64 key,.fam 32 1 fun i=>.int .u8 (nat (of i))],Chunk.cells true [.bool (hView k),.bool (hSeq k),.bool (hDig k),.bool (hBun k),.bool (hBuns k),.bool (hProof k),.bool (hPrep k)]]) [Chunk.cells true [.int .i64 k,.int .i64 f,.int .i64 v,.int .i64 s,.fam 32 1 fun i=>.int .u8 (nat (d i)),.osl kb 0 0 1 b.length,.osl kbs 0 0 1 bs.length,.osl kp 0 0 73 p.length,.osl kq 0 0 74 q.length,.int .i64 key,.fam 32 1 fun i=>.int .u8 (nat (of i))],Chunk.cells true [.bool (hView k),.bool (hSeq k),.bool (hDig k),.bool (hBun k),.bool (hBuns k),.bool (hProof k),.bool (hPrep k)]]:=(hHH _ _).2 ⟨rfl,lookH_app _ 0 _,lookH_app _ 1 _⟩
  exact into_keep [(1,.ptr h.length 0),(2,.int .i64 0),(3,.ptr (h.length+1) 0)] (by simp [sameT,slot,lkL]) fun j=>⟨_,_,j,hb,rfl⟩
 rintro _ ⟨H1,x,j1,hhh,_,rfl⟩
 obtain ⟨hH1,hx,hy⟩:=(hHH _ _).1 hhh
 obtain ⟨N2,hN2⟩:∃ N:Prop,N ↔ (okFrom k f = true):=⟨_,Iff.rfl⟩
 refine codeP_seq (pl:=np) tabOk follows_mixed (by kernel_rfl) (fun st=>∃ (H1 x:List Chunk) (j:Nat→Value),HH H1 x∧N2∧st = ⟨⟨116,[(1,.ptr h.length 0),(2,.int .i64 0),(3,.ptr (h.length+1) 0)],j⟩,H1,[]⟩) ?_ ?_
 ·have bad:¬ okFrom k f = true→IntoR h.length (.int .i64 1) H1 K:=fun c=>drop H1 x 1 hH1 (by rw [if_neg i1,if_pos c])
  by_cases c1:k = 1
  ·have z1:(k == 1) = true:=beq_iff_eq.2 c1
   have z2:(k != 1) = false:=by rw [c1]; rfl
   by_cases c2:f = -1
   ·have z3:(f != -1) = false:=by rw [c2]; rfl
    simp -implicitDefEqProofs (maxSteps:=1000000) (disch:=omega) only [↓zzP,zzA,zzL,zzB,reduceIte,reduceCtorEq,Nat.reduceLT,↓reduceIte,Nat.reduceEqDiff,Nat.reduceLeDiff,Int.reduceNeg,Array.reduceGetElem?,↓gd,↓opP,↓qv,slot,putS,putO,ofV,fldA,rdF,Ent.row,ldS,sz,binH,binS2,binS,hx,z1,z2,z3]
    repeat (refine ⟨by omega,?_⟩)
    exact into_keep [(1,.ptr h.length 0),(2,.int .i64 0),(3,.ptr (h.length+1) 0)] (by simp [sameT,slot,lkL]) fun j=>⟨H1,x,j,(hHH _ _).2 ⟨hH1,hx,hy⟩,hN2.2 (by unfold okFrom; rw [if_pos c1,c2]; rfl),rfl⟩
   ·have z3:(f != -1) = true:=bne_iff_ne.2 c2
    simp -implicitDefEqProofs (maxSteps:=1000000) (disch:=omega) only [↓zzP,zzA,zzL,zzB,reduceIte,reduceCtorEq,Nat.reduceLT,↓reduceIte,Nat.reduceEqDiff,Nat.reduceLeDiff,Int.reduceNeg,Array.reduceGetElem?,↓gd,↓opP,↓qv,slot,putS,putO,ofV,fldA,rdF,Ent.row,ldS,sz,binH,binS2,binS,hx,z1,z3]
    repeat (refine ⟨by omega,?_⟩)
    exact bad (by unfold okFrom; rw [if_pos c1,beq_eq_false_iff_ne.2 c2]; decide)
  ·have z1:(k == 1) = false:=beq_eq_false_iff_ne.2 c1
   have z2:(k != 1) = true:=bne_iff_ne.2 c1
   by_cases c2:f < 0
   ·have z3:decide (f < 0) = true:=decide_eq_true c2
    simp -implicitDefEqProofs (maxSteps:=1000000) (disch:=omega) only [↓zzP,zzA,zzL,zzB,reduceIte,reduceCtorEq,Nat.reduceLT,↓reduceIte,Nat.reduceEqDiff,Nat.reduceLeDiff,Int.reduceNeg,Array.reduceGetElem?,↓gd,↓opP,↓qv,slot,putS,putO,ofV,fldA,rdF,Ent.row,ldS,sz,binH,binS2,binS,hx,z1,z2,z3]
    repeat (refine ⟨by omega,?_⟩)
    exact bad (by unfold okFrom; rw [if_neg c1,decide_eq_false (show ¬ 0≤f by omega)]; simp)
   ·have z3:decide (f < 0) = false:=decide_eq_false c2
    by_cases c3:f > 63
    ·have z4:decide (f > 63) = true:=decide_eq_true c3
     simp -implicitDefEqProofs (maxSteps:=1000000) (disch:=omega) only [↓zzP,zzA,zzL,zzB,reduceIte,reduceCtorEq,Nat.reduceLT,↓reduceIte,Nat.reduceEqDiff,Nat.reduceLeDiff,Int.reduceNeg,Array.reduceGetElem?,↓gd,↓opP,↓qv,slot,putS,putO,ofV,fldA,rdF,Ent.row,ldS,sz,binH,binS2,binS,hx,z1,z2,z3,z4]
     repeat (refine ⟨by omega,?_⟩)
     exact bad (by unfold okFrom; rw [if_neg c1,decide_eq_false (show ¬ f≤63 by omega)]; simp)
    ·have z4:decide (f > 63) = false:=decide_eq_false c3
     simp -implicitDefEqProofs (maxSteps:=1000000) (disch:=omega) only [↓zzP,zzA,zzL,zzB,reduceIte,reduceCtorEq,Nat.reduceLT,↓reduceIte,Nat.reduceEqDiff,Nat.reduceLeDiff,Int.reduceNeg,Array.reduceGetElem?,↓gd,↓opP,↓qv,slot,putS,putO,ofV,fldA,rdF,Ent.row,ldS,sz,binH,binS2,binS,hx,z1,z2,z3,z4]
     repeat (refine ⟨by omega,?_⟩)
     exact into_keep [(1,.ptr h.length 0),(2,.int .i64 0),(3,.ptr (h.length+1) 0)] (by simp [sameT,slot,lkL]) fun j=>⟨H1,x,j,(hHH _ _).2 ⟨hH1,hx,hy⟩,hN2.2 (by unfold okFrom; rw [if_neg c1,decide_eq_true (show 0≤f by omega),decide_eq_true (show f≤63 by omega)]; rfl),rfl⟩
 rintro _ ⟨H1,x,j2,hhh,hn2,rfl⟩
 obtain ⟨hH1,hx,hy⟩:=(hHH _ _).1 hhh
 have hE:Ext (fun _=>False) h H1:=by rw [hH1]; exact (Ext.refl _ _).app _
 have n2:=hN2.1 hn2
 have i2:¬ ¬ okFrom k f = true:=fun h=>h n2
 obtain ⟨N3,hN3⟩:∃ N:Prop,N ↔ (okNum (hView k) v = true∧okNum (hSeq k) s = true∧(hDig k || zero32 d) = true):=⟨_,Iff.rfl⟩
 refine codeP_seq (pl:=np) tabOk follows_mixed (by kernel_rfl) (fun st=>∃ (H1 x:List Chunk) (j:Nat→Value),HH H1 x∧N3∧st = ⟨⟨116,[(1,.ptr h.length 0),(2,.int .i64 0),(3,.ptr (h.length+1) 0)],j⟩,H1,[]⟩) ?_ ?_
 ·have bad:¬ (okNum (hView k) v = true∧okNum (hSeq k) s = true∧(hDig k || zero32 d) = true)→IntoR h.length (.int .i64 1) H1 K:=fun c=>drop H1 x 1 hH1 (by rw [if_neg i1,if_neg i2,if_pos c])
  by_cases va:v < 0
  ·have yva:decide (v < 0) = true:=decide_eq_true va
   simp -implicitDefEqProofs (maxSteps:=1000000) (disch:=omega) only [↓zzP,zzA,zzL,zzB,Nat.reduceSub,reduceIte,reduceCtorEq,Nat.reduceLT,↓reduceIte,Nat.reduceEqDiff,Nat.reduceLeDiff,Array.reduceGetElem?,↓gd,↓opP,↓qv,slot,putS,putO,ofV,fldA,rdF,Ent.row,ldS,sz,binH,binS2,binS,hx,yva]
   repeat (refine ⟨by omega,?_⟩)
   exact bad fun h=>by have:=h.1; rw [okNum_neg va] at this; cases this
  have yva:decide (v < 0) = false:=decide_eq_false va
  by_cases vb:v > 1099511627776
  ·have yvb:decide (v > 1099511627776) = true:=decide_eq_true vb
   simp -implicitDefEqProofs (maxSteps:=1000000) (disch:=omega) only [↓zzP,zzA,zzL,zzB,Nat.reduceSub,reduceIte,reduceCtorEq,Nat.reduceLT,↓reduceIte,Nat.reduceEqDiff,Nat.reduceLeDiff,Array.reduceGetElem?,↓gd,↓opP,↓qv,slot,putS,putO,ofV,fldA,rdF,Ent.row,ldS,sz,binH,binS2,binS,hx,yva,yvb]
   repeat (refine ⟨by omega,?_⟩)
   exact bad fun h=>by have:=h.1; rw [okNum_big vb] at this; cases this
  have yvb:decide (v > 1099511627776) = false:=decide_eq_false vb
  cases yvc:hView k with
  | true =>
   have ov:okNum (hView k) v = true:=by rw [yvc]; exact okNum_t va vb
   by_cases sa:s < 0
   ·have ysa:decide (s < 0) = true:=decide_eq_true sa
    simp -implicitDefEqProofs (maxSteps:=1000000) (disch:=omega) only [↓zzP,zzA,zzL,zzB,Nat.reduceSub,reduceIte,reduceCtorEq,Nat.reduceLT,↓reduceIte,Nat.reduceEqDiff,Nat.reduceLeDiff,Int.reduceToNat,Array.reduceGetElem?,↓gd,↓opP,↓qv,slot,putS,putO,ofV,fldA,idxA,unS,rdF,Ent.row,ldS,sz,binH,binS2,binS,hx,hy,yva,yvb,yvc,ysa]
    repeat (refine ⟨by omega,?_⟩)
    exact bad fun h=>by have:=h.2.1; rw [okNum_neg sa] at this; cases this
   have ysa:decide (s < 0) = false:=decide_eq_false sa
   by_cases sb:s > 1099511627776
   ·have ysb:decide (s > 1099511627776) = true:=decide_eq_true sb
    simp -implicitDefEqProofs (maxSteps:=1000000) (disch:=omega) only [↓zzP,zzA,zzL,zzB,Nat.reduceSub,reduceIte,reduceCtorEq,Nat.reduceLT,↓reduceIte,Nat.reduceEqDiff,Nat.reduceLeDiff,Int.reduceToNat,Array.reduceGetElem?,↓gd,↓opP,↓qv,slot,putS,putO,ofV,fldA,idxA,unS,rdF,Ent.row,ldS,sz,binH,binS2,binS,hx,hy,yva,yvb,yvc,ysa,ysb]
    repeat (refine ⟨by omega,?_⟩)
    exact bad fun h=>by have:=h.2.1; rw [okNum_big sb] at this; cases this
   have ysb:decide (s > 1099511627776) = false:=decide_eq_false sb
   cases ysc:hSeq k with
   | true =>
    have os:okNum (hSeq k) s = true:=by rw [ysc]; exact okNum_t sa sb
    cases z6:hDig k with
    | true =>
     simp -implicitDefEqProofs (maxSteps:=1000000) (disch:=omega) only [↓zzP,zzA,zzL,zzB,Nat.reduceSub,reduceIte,reduceCtorEq,Nat.reduceLT,Int.reduceLE,↓reduceIte,Nat.reduceEqDiff,Nat.reduceLeDiff,Int.reduceToNat,Array.reduceGetElem?,↓gd,↓opP,↓qv,slot,putS,putO,ofV,fldA,idxA,unS,rdF,Ent.row,ldS,sz,binH,binS2,binS,hx,hy,yva,yvb,yvc,ysa,ysb,ysc,z6]
     repeat (refine ⟨by omega,?_⟩)
     exact into_keep [(1,.ptr h.length 0),(2,.int .i64 0),(3,.ptr (h.length+1) 0)] (by simp [sameT,slot,lkL]) fun j=>⟨H1,x,j,(hHH _ _).2 ⟨hH1,hx,hy⟩,hN3.2 (⟨ov,os,by rw [z6]; rfl⟩),rfl⟩
    | false =>
     have z8:=famEq_zero d
     cases z7:zero32 d with
     | true =>
      rw [z7] at z8
      simp -implicitDefEqProofs (maxSteps:=1000000) (disch:=omega) only [↓zzP,zzA,zzL,zzB,Nat.reduceSub,reduceIte,reduceCtorEq,Nat.reduceLT,Int.reduceLE,↓reduceIte,Nat.reduceEqDiff,Nat.reduceLeDiff,Int.reduceToNat,Array.reduceGetElem?,↓gd,↓opP,↓qv,slot,putS,putO,ofV,fldA,idxA,unS,asRow,rdF,Ent.row,ldS,sz,bldS,binH,binS2,binS,arrS,isI,hx,hy,yva,yvb,yvc,ysa,ysb,ysc,z6,z8]
      repeat (refine ⟨by omega,?_⟩)
      exact into_keep [(1,.ptr h.length 0),(2,.int .i64 0),(3,.ptr (h.length+1) 0)] (by simp [sameT,slot,lkL]) fun j=>⟨H1,x,j,(hHH _ _).2 ⟨hH1,hx,hy⟩,hN3.2 (⟨ov,os,by rw [z6,z7]; rfl⟩),rfl⟩
     | false =>
      rw [z7] at z8
      simp -implicitDefEqProofs (maxSteps:=1000000) (disch:=omega) only [↓zzP,zzA,zzL,zzB,Nat.reduceSub,reduceIte,reduceCtorEq,Nat.reduceLT,Int.reduceLE,↓reduceIte,Nat.reduceEqDiff,Nat.reduceLeDiff,Int.reduceToNat,Array.reduceGetElem?,↓gd,↓opP,↓qv,slot,putS,putO,ofV,fldA,idxA,unS,asRow,rdF,Ent.row,ldS,sz,bldS,binH,binS2,binS,arrS,isI,hx,hy,yva,yvb,yvc,ysa,ysb,ysc,z6,z8]
      repeat (refine ⟨by omega,?_⟩)
      exact bad fun h=>by have:=h.2.2; rw [z6,z7] at this; cases this
   | false =>
    by_cases sd:s = 0
    ·have ysd:(s != 0) = false:=by rw [sd]; rfl
     have os:okNum (hSeq k) s = true:=by rw [sd]; rfl
     cases z6:hDig k with
     | true =>
      simp -implicitDefEqProofs (maxSteps:=1000000) (disch:=omega) only [↓zzP,zzA,zzL,zzB,Nat.reduceSub,reduceIte,reduceCtorEq,Nat.reduceLT,Int.reduceLE,↓reduceIte,Nat.reduceEqDiff,Nat.reduceLeDiff,Int.reduceToNat,Array.reduceGetElem?,↓gd,↓opP,↓qv,slot,putS,putO,ofV,fldA,idxA,unS,rdF,Ent.row,ldS,sz,binH,binS2,binS,hx,hy,yva,yvb,yvc,ysa,ysb,ysc,ysd,z6]
      repeat (refine ⟨by omega,?_⟩)
      exact into_keep [(1,.ptr h.length 0),(2,.int .i64 0),(3,.ptr (h.length+1) 0)] (by simp [sameT,slot,lkL]) fun j=>⟨H1,x,j,(hHH _ _).2 ⟨hH1,hx,hy⟩,hN3.2 (⟨ov,os,by rw [z6]; rfl⟩),rfl⟩
     | false =>
      have z8:=famEq_zero d
      cases z7:zero32 d with
      | true =>
       rw [z7] at z8
       simp -implicitDefEqProofs (maxSteps:=1000000) (disch:=omega) only [↓zzP,zzA,zzL,zzB,Nat.reduceSub,reduceIte,reduceCtorEq,Nat.reduceLT,Int.reduceLE,↓reduceIte,Nat.reduceEqDiff,Nat.reduceLeDiff,Int.reduceToNat,Array.reduceGetElem?,↓gd,↓opP,↓qv,slot,putS,putO,ofV,fldA,idxA,unS,asRow,rdF,Ent.row,ldS,sz,bldS,binH,binS2,binS,arrS,isI,hx,hy,yva,yvb,yvc,ysa,ysb,ysc,ysd,z6,z8]
       repeat (refine ⟨by omega,?_⟩)
       exact into_keep [(1,.ptr h.length 0),(2,.int .i64 0),(3,.ptr (h.length+1) 0)] (by simp [sameT,slot,lkL]) fun j=>⟨H1,x,j,(hHH _ _).2 ⟨hH1,hx,hy⟩,hN3.2 (⟨ov,os,by rw [z6,z7]; rfl⟩),rfl⟩
      | false =>
       rw [z7] at z8
       simp -implicitDefEqProofs (maxSteps:=1000000) (disch:=omega) only [↓zzP,zzA,zzL,zzB,Nat.reduceSub,reduceIte,reduceCtorEq,Nat.reduceLT,Int.reduceLE,↓reduceIte,Nat.reduceEqDiff,Nat.reduceLeDiff,Int.reduceToNat,Array.reduceGetElem?,↓gd,↓opP,↓qv,slot,putS,putO,ofV,fldA,idxA,unS,asRow,rdF,Ent.row,ldS,sz,bldS,binH,binS2,binS,arrS,isI,hx,hy,yva,yvb,yvc,ysa,ysb,ysc,ysd,z6,z8]
       repeat (refine ⟨by omega,?_⟩)
       exact bad fun h=>by have:=h.2.2; rw [z6,z7] at this; cases this
    ·have ysd:(s != 0) = true:=bne_iff_ne.2 sd
     simp -implicitDefEqProofs (maxSteps:=1000000) (disch:=omega) only [↓zzP,zzA,zzL,zzB,Nat.reduceSub,reduceIte,reduceCtorEq,Nat.reduceLT,Int.reduceLE,↓reduceIte,Nat.reduceEqDiff,Nat.reduceLeDiff,Int.reduceToNat,Array.reduceGetElem?,↓gd,↓opP,↓qv,slot,putS,putO,ofV,fldA,idxA,unS,rdF,Ent.row,ldS,sz,binH,binS2,binS,hx,hy,yva,yvb,yvc,ysa,ysb,ysc,ysd]
     repeat (refine ⟨by omega,?_⟩)
     exact bad fun h=>by have:=h.2.1; rw [ysc,okNum_no sd] at this; cases this
  | false =>
   by_cases vd:v = 0
   ·have yvd:(v != 0) = false:=by rw [vd]; rfl
    have ov:okNum (hView k) v = true:=by rw [vd]; rfl
    by_cases sa:s < 0
    ·have ysa:decide (s < 0) = true:=decide_eq_true sa
     simp -implicitDefEqProofs (maxSteps:=1000000) (disch:=omega) only [↓zzP,zzA,zzL,zzB,Nat.reduceSub,reduceIte,reduceCtorEq,Nat.reduceLT,↓reduceIte,Nat.reduceEqDiff,Nat.reduceLeDiff,Int.reduceToNat,Array.reduceGetElem?,↓gd,↓opP,↓qv,slot,putS,putO,ofV,fldA,idxA,unS,rdF,Ent.row,ldS,sz,binH,binS2,binS,hx,hy,yva,yvb,yvc,yvd,ysa]
     repeat (refine ⟨by omega,?_⟩)
     exact bad fun h=>by have:=h.2.1; rw [okNum_neg sa] at this; cases this
    have ysa:decide (s < 0) = false:=decide_eq_false sa
    by_cases sb:s > 1099511627776
    ·have ysb:decide (s > 1099511627776) = true:=decide_eq_true sb
     simp -implicitDefEqProofs (maxSteps:=1000000) (disch:=omega) only [↓zzP,zzA,zzL,zzB,Nat.reduceSub,reduceIte,reduceCtorEq,Nat.reduceLT,↓reduceIte,Nat.reduceEqDiff,Nat.reduceLeDiff,Int.reduceToNat,Array.reduceGetElem?,↓gd,↓opP,↓qv,slot,putS,putO,ofV,fldA,idxA,unS,rdF,Ent.row,ldS,sz,binH,binS2,binS,hx,hy,yva,yvb,yvc,yvd,ysa,ysb]
     repeat (refine ⟨by omega,?_⟩)
     exact bad fun h=>by have:=h.2.1; rw [okNum_big sb] at this; cases this
    have ysb:decide (s > 1099511627776) = false:=decide_eq_false sb
    cases ysc:hSeq k with
    | true =>
     have os:okNum (hSeq k) s = true:=by rw [ysc]; exact okNum_t sa sb
     cases z6:hDig k with
     | true =>
      simp -implicitDefEqProofs (maxSteps:=1000000) (disch:=omega) only [↓zzP,zzA,zzL,zzB,Nat.reduceSub,reduceIte,reduceCtorEq,Nat.reduceLT,Int.reduceLE,↓reduceIte,Nat.reduceEqDiff,Nat.reduceLeDiff,Int.reduceToNat,Array.reduceGetElem?,↓gd,↓opP,↓qv,slot,putS,putO,ofV,fldA,idxA,unS,rdF,Ent.row,ldS,sz,binH,binS2,binS,hx,hy,yva,yvb,yvc,yvd,ysa,ysb,ysc,z6]
      repeat (refine ⟨by omega,?_⟩)
      exact into_keep [(1,.ptr h.length 0),(2,.int .i64 0),(3,.ptr (h.length+1) 0)] (by simp [sameT,slot,lkL]) fun j=>⟨H1,x,j,(hHH _ _).2 ⟨hH1,hx,hy⟩,hN3.2 (⟨ov,os,by rw [z6]; rfl⟩),rfl⟩
     | false =>
      have z8:=famEq_zero d
      cases z7:zero32 d with
      | true =>
       rw [z7] at z8
       simp -implicitDefEqProofs (maxSteps:=1000000) (disch:=omega) only [↓zzP,zzA,zzL,zzB,Nat.reduceSub,reduceIte,reduceCtorEq,Nat.reduceLT,Int.reduceLE,↓reduceIte,Nat.reduceEqDiff,Nat.reduceLeDiff,Int.reduceToNat,Array.reduceGetElem?,↓gd,↓opP,↓qv,slot,putS,putO,ofV,fldA,idxA,unS,asRow,rdF,Ent.row,ldS,sz,bldS,binH,binS2,binS,arrS,isI,hx,hy,yva,yvb,yvc,yvd,ysa,ysb,ysc,z6,z8]
       repeat (refine ⟨by omega,?_⟩)
       exact into_keep [(1,.ptr h.length 0),(2,.int .i64 0),(3,.ptr (h.length+1) 0)] (by simp [sameT,slot,lkL]) fun j=>⟨H1,x,j,(hHH _ _).2 ⟨hH1,hx,hy⟩,hN3.2 (⟨ov,os,by rw [z6,z7]; rfl⟩),rfl⟩
      | false =>
       rw [z7] at z8
       simp -implicitDefEqProofs (maxSteps:=1000000) (disch:=omega) only [↓zzP,zzA,zzL,zzB,Nat.reduceSub,reduceIte,reduceCtorEq,Nat.reduceLT,Int.reduceLE,↓reduceIte,Nat.reduceEqDiff,Nat.reduceLeDiff,Int.reduceToNat,Array.reduceGetElem?,↓gd,↓opP,↓qv,slot,putS,putO,ofV,fldA,idxA,unS,asRow,rdF,Ent.row,ldS,sz,bldS,binH,binS2,binS,arrS,isI,hx,hy,yva,yvb,yvc,yvd,ysa,ysb,ysc,z6,z8]
       repeat (refine ⟨by omega,?_⟩)
       exact bad fun h=>by have:=h.2.2; rw [z6,z7] at this; cases this
    | false =>
     by_cases sd:s = 0
     ·have ysd:(s != 0) = false:=by rw [sd]; rfl
      have os:okNum (hSeq k) s = true:=by rw [sd]; rfl
      cases z6:hDig k with
      | true =>
       simp -implicitDefEqProofs (maxSteps:=1000000) (disch:=omega) only [↓zzP,zzA,zzL,zzB,Nat.reduceSub,reduceIte,reduceCtorEq,Nat.reduceLT,Int.reduceLE,↓reduceIte,Nat.reduceEqDiff,Nat.reduceLeDiff,Int.reduceToNat,Array.reduceGetElem?,↓gd,↓opP,↓qv,slot,putS,putO,ofV,fldA,idxA,unS,rdF,Ent.row,ldS,sz,binH,binS2,binS,hx,hy,yva,yvb,yvc,yvd,ysa,ysb,ysc,ysd,z6]
       repeat (refine ⟨by omega,?_⟩)
       exact into_keep [(1,.ptr h.length 0),(2,.int .i64 0),(3,.ptr (h.length+1) 0)] (by simp [sameT,slot,lkL]) fun j=>⟨H1,x,j,(hHH _ _).2 ⟨hH1,hx,hy⟩,hN3.2 (⟨ov,os,by rw [z6]; rfl⟩),rfl⟩
      | false =>
       have z8:=famEq_zero d
       cases z7:zero32 d with
       | true =>
        rw [z7] at z8
        simp -implicitDefEqProofs (maxSteps:=1000000) (disch:=omega) only [↓zzP,zzA,zzL,zzB,Nat.reduceSub,reduceIte,reduceCtorEq,Nat.reduceLT,Int.reduceLE,↓reduceIte,Nat.reduceEqDiff,Nat.reduceLeDiff,Int.reduceToNat,Array.reduceGetElem?,↓gd,↓opP,↓qv,slot,putS,putO,ofV,fldA,idxA,unS,asRow,rdF,Ent.row,ldS,sz,bldS,binH,binS2,binS,arrS,isI,hx,hy,yva,yvb,yvc,yvd,ysa,ysb,ysc,ysd,z6,z8]
        repeat (refine ⟨by omega,?_⟩)
        exact into_keep [(1,.ptr h.length 0),(2,.int .i64 0),(3,.ptr (h.length+1) 0)] (by simp [sameT,slot,lkL]) fun j=>⟨H1,x,j,(hHH _ _).2 ⟨hH1,hx,hy⟩,hN3.2 (⟨ov,os,by rw [z6,z7]; rfl⟩),rfl⟩
       | false =>
        rw [z7] at z8
        simp -implicitDefEqProofs (maxSteps:=1000000) (disch:=omega) only [↓zzP,zzA,zzL,zzB,Nat.reduceSub,reduceIte,reduceCtorEq,Nat.reduceLT,Int.reduceLE,↓reduceIte,Nat.reduceEqDiff,Nat.reduceLeDiff,Int.reduceToNat,Array.reduceGetElem?,↓gd,↓opP,↓qv,slot,putS,putO,ofV,fldA,idxA,unS,asRow,rdF,Ent.row,ldS,sz,bldS,binH,binS2,binS,arrS,isI,hx,hy,yva,yvb,yvc,yvd,ysa,ysb,ysc,ysd,z6,z8]
        repeat (refine ⟨by omega,?_⟩)
        exact bad fun h=>by have:=h.2.2; rw [z6,z7] at this; cases this
     ·have ysd:(s != 0) = true:=bne_iff_ne.2 sd
      simp -implicitDefEqProofs (maxSteps:=1000000) (disch:=omega) only [↓zzP,zzA,zzL,zzB,Nat.reduceSub,reduceIte,reduceCtorEq,Nat.reduceLT,Int.reduceLE,↓reduceIte,Nat.reduceEqDiff,Nat.reduceLeDiff,Int.reduceToNat,Array.reduceGetElem?,↓gd,↓opP,↓qv,slot,putS,putO,ofV,fldA,idxA,unS,rdF,Ent.row,ldS,sz,binH,binS2,binS,hx,hy,yva,yvb,yvc,yvd,ysa,ysb,ysc,ysd]
      repeat (refine ⟨by omega,?_⟩)
      exact bad fun h=>by have:=h.2.1; rw [ysc,okNum_no sd] at this; cases this
   ·have yvd:(v != 0) = true:=bne_iff_ne.2 vd
    simp -implicitDefEqProofs (maxSteps:=1000000) (disch:=omega) only [↓zzP,zzA,zzL,zzB,Nat.reduceSub,reduceIte,reduceCtorEq,Nat.reduceLT,↓reduceIte,Nat.reduceEqDiff,Nat.reduceLeDiff,Int.reduceToNat,Array.reduceGetElem?,↓gd,↓opP,↓qv,slot,putS,putO,ofV,fldA,idxA,unS,rdF,Ent.row,ldS,sz,binH,binS2,binS,hx,hy,yva,yvb,yvc,yvd]
    repeat (refine ⟨by omega,?_⟩)
    exact bad fun h=>by have:=h.1; rw [yvc,okNum_no vd] at this; cases this
 rintro _ ⟨H1,x,j3,hhh,hn3,rfl⟩
 obtain ⟨hH1,hx,hy⟩:=(hHH _ _).1 hhh
 have hE:Ext (fun _=>False) h H1:=by rw [hH1]; exact (Ext.refl _ _).app _
 have n3:=hN3.1 hn3
 have i3:¬ ¬ (okNum (hView k) v = true∧okNum (hSeq k) s = true∧(hDig k || zero32 d) = true):=fun h=>h n3
 obtain ⟨N4,hN4⟩:∃ N:Prop,N ↔ (¬ (hBun k = true∧mayB b ≠ 0)∧¬ (hBun k = false∧0 < b.length)):=⟨_,Iff.rfl⟩
 refine codeP_seq (pl:=np) tabOk follows_mixed (by kernel_rfl) (fun st=>∃ (H1 x:List Chunk) (j:Nat→Value),HH H1 x∧N4∧st = ⟨⟨116,[(1,.ptr h.length 0),(2,.int .i64 0),(3,.ptr (h.length+1) 0)],j⟩,H1,[]⟩) ?_ ?_
 ·cases z1:hBun k with
  | true =>
   simp -implicitDefEqProofs (maxSteps:=1000000) (disch:=omega) only [↓zzP,zzA,zzL,zzB,Nat.reduceSub,reduceIte,reduceCtorEq,Nat.reduceLT,Int.reduceLE,↓reduceIte,Nat.reduceEqDiff,Nat.reduceLeDiff,Int.reduceToNat,↓gd,↓opP,↓qv,slot,putS,putO,ofV,fldA,idxA,rdF,Ent.row,ldS,sz,hx,hy,z1]
   repeat (refine ⟨by omega,?_⟩)
   refine c60 b _ H1 ⟨kb,wb,rfl,hE.look hkb (by simp) fun h=>h⟩ _ ?_
   by_cases e:mayB b = 0
   ·have z2:(mayB b != 0) = false:=by rw [e]; rfl
    simp -implicitDefEqProofs (maxSteps:=1000000) (disch:=omega) only [↓zzP,zzA,reduceIte,Nat.reduceLT,↓reduceIte,↓gd,↓opP,↓qv,slot,putS,putO,ofV,binH,binS2,binS,z2]
    repeat (refine ⟨by omega,?_⟩)
    exact into_keep [(1,.ptr h.length 0),(2,.int .i64 0),(3,.ptr (h.length+1) 0)] (by simp [sameT,slot,lkL]) fun j=>⟨H1,x,j,(hHH _ _).2 ⟨hH1,hx,hy⟩,hN4.2 (⟨fun h=>h.2 e,fun h=>Bool.noConfusion (z1.symm.trans h.1)⟩),rfl⟩
   ·have z2:(mayB b != 0) = true:=bne_iff_ne.2 e
    simp -implicitDefEqProofs (maxSteps:=1000000) (disch:=omega) only [↓zzP,zzA,reduceIte,reduceCtorEq,Nat.reduceLT,↓reduceIte,Nat.reduceEqDiff,↓gd,↓opP,↓qv,slot,putS,putO,ofV,binH,binS2,binS,z2]
    repeat (refine ⟨by omega,?_⟩)
    exact drop H1 x _ hH1 (by rw [if_neg i1,if_neg i2,if_neg i3,if_pos ⟨z1,e⟩])
  | false =>
   by_cases e:0 < b.length
   ·have z2:decide (((b.length:Nat):Int) > 0) = true:=decide_eq_true (by omega)
    simp -implicitDefEqProofs (maxSteps:=1000000) (disch:=omega) only [↓zzP,zzA,zzL,zzB,Nat.reduceSub,reduceIte,reduceCtorEq,Nat.reduceLT,Int.reduceLE,↓reduceIte,Nat.reduceEqDiff,Nat.reduceLeDiff,Int.reduceToNat,↓gd,↓opP,↓qv,slot,putS,putO,ofV,fldA,idxA,lenS,rdF,Ent.row,ldS,sz,binH,binS2,binS,hx,hy,z1,z2]
    repeat (refine ⟨by omega,?_⟩)
    exact drop H1 x _ hH1 (by rw [if_neg i1,if_neg i2,if_neg i3,if_neg (fun h=>Bool.noConfusion (z1.symm.trans h.1)),if_pos ⟨z1,e⟩])
   ·have z2:decide (((b.length:Nat):Int) > 0) = false:=decide_eq_false (by omega)
    simp -implicitDefEqProofs (maxSteps:=1000000) (disch:=omega) only [↓zzP,zzA,zzL,zzB,Nat.reduceSub,reduceIte,reduceCtorEq,Nat.reduceLT,Int.reduceLE,↓reduceIte,Nat.reduceEqDiff,Nat.reduceLeDiff,Int.reduceToNat,↓gd,↓opP,↓qv,slot,putS,putO,ofV,fldA,idxA,lenS,rdF,Ent.row,ldS,sz,binH,binS2,binS,hx,hy,z1,z2]
    repeat (refine ⟨by omega,?_⟩)
    exact into_keep [(1,.ptr h.length 0),(2,.int .i64 0),(3,.ptr (h.length+1) 0)] (by simp [sameT,slot,lkL]) fun j=>⟨H1,x,j,(hHH _ _).2 ⟨hH1,hx,hy⟩,hN4.2 (⟨fun h=>Bool.noConfusion (z1.symm.trans h.1),fun h=>e h.2⟩),rfl⟩
 rintro _ ⟨H1,x,j4,hhh,hn4,rfl⟩
 obtain ⟨hH1,hx,hy⟩:=(hHH _ _).1 hhh
 have hE:Ext (fun _=>False) h H1:=by rw [hH1]; exact (Ext.refl _ _).app _
 have n4:=hN4.1 hn4
 obtain ⟨N5,hN5⟩:∃ N:Prop,N ↔ (¬ W ≠ 0):=⟨_,Iff.rfl⟩
 refine codeP_seq (pl:=np) tabOk follows_mixed (by kernel_rfl) (fun st=>∃ (H1 x:List Chunk) (j:Nat→Value),HH H1 x∧N5∧st = ⟨⟨116,[(1,.ptr h.length 0),(2,.int .i64 0),(3,.ptr (h.length+1) 0)],j⟩,H1,[]⟩) ?_ ?_
 ·have hc:=c61 k f v s d b bs p q key of IP IQ _ H1 (hm0.ext hE)
  rw [← hW] at hc
  unfold hasR at hc
  simp -implicitDefEqProofs (maxSteps:=1000000) (disch:=omega) only [↓zzP,zzA,zzL,Nat.reduceSub,reduceIte,reduceCtorEq,Nat.reduceLT,↓reduceIte,Nat.reduceEqDiff,Nat.reduceLeDiff,↓gd,↓opP,↓qv,slot,putS,putO,rdF,Ent.row,ldS,sz,hx,hy]
  repeat (refine ⟨by omega,?_⟩)
  refine hc _ ?_
  by_cases e:W = 0
  ·have z2:(W != 0) = false:=by rw [e]; rfl
   simp -implicitDefEqProofs (maxSteps:=1000000) (disch:=omega) only [↓zzP,zzA,reduceIte,Nat.reduceLT,↓reduceIte,↓gd,↓opP,↓qv,slot,putS,putO,ofV,binH,binS2,binS,z2]
   repeat (refine ⟨by omega,?_⟩)
   exact into_keep [(1,.ptr h.length 0),(2,.int .i64 0),(3,.ptr (h.length+1) 0)] (by simp [sameT,slot,lkL]) fun j=>⟨H1,x,j,(hHH _ _).2 ⟨hH1,hx,hy⟩,hN5.2 (fun h=>h e),rfl⟩
  ·have z2:(W != 0) = true:=bne_iff_ne.2 e
   simp -implicitDefEqProofs (maxSteps:=1000000) (disch:=omega) only [↓zzP,zzA,reduceIte,reduceCtorEq,Nat.reduceLT,↓reduceIte,Nat.reduceEqDiff,↓gd,↓opP,↓qv,slot,putS,putO,ofV,binH,binS2,binS,z2]
   repeat (refine ⟨by omega,?_⟩)
   exact drop H1 x _ hH1 (by rw [if_neg i1,if_neg i2,if_neg i3,if_neg n4.1,if_neg n4.2,if_pos e])
 rintro _ ⟨H1,x,j5,hhh,hn5,rfl⟩
 obtain ⟨hH1,hx,hy⟩:=(hHH _ _).1 hhh
 have hE:Ext (fun _=>False) h H1:=by rw [hH1]; exact (Ext.refl _ _).app _
 have n5:=hN5.1 hn5
 have fin:∀ e,(if k = 1∧(key ≠ 0 ∨ zero32 of = false) then 1 else 0) = e→IntoR h.length (.int .i64 e) H1 K:=fun e he=>drop H1 x e hH1 (by rw [if_neg i1,if_neg i2,if_neg i3,if_neg n4.1,if_neg n4.2,if_neg n5]; exact he)
 refine codeP_of_vc (pl:=np) tabOk follows_mixed (by kernel_rfl) ?_
 by_cases c1:k = 1
 ·have z1:(k == 1) = true:=beq_iff_eq.2 c1
  have z8:=famEq_zero of
  by_cases c2:key = 0
  ·have z2:(key == 0) = true:=beq_iff_eq.2 c2
   cases z7:zero32 of with
   | true =>
    rw [z7] at z8
    simp -implicitDefEqProofs (maxSteps:=1000000) (disch:=omega) only [↓zzP,zzA,zzL,zzB,Nat.reduceSub,reduceIte,reduceCtorEq,Nat.reduceLT,↓reduceIte,Nat.reduceEqDiff,Nat.reduceLeDiff,Array.reduceGetElem?,↓gd,↓opP,↓qv,slot,putS,putO,ofV,fldA,asRow,rdF,Ent.row,ldS,sz,bldS,binH,binS2,structS,eqL,eqF,binS,arrS,isI,stor,hx,z1,z2,z8,Bool.and_true]
    repeat (refine ⟨by omega,?_⟩)
    exact fin 0 (by rw [if_neg]; rintro ⟨_,h | h⟩; exact h c2; rw [z7] at h; cases h)
   | false =>
    rw [z7] at z8
    simp -implicitDefEqProofs (maxSteps:=1000000) (disch:=omega) only [↓zzP,zzA,zzL,zzB,Nat.reduceSub,reduceIte,reduceCtorEq,Nat.reduceLT,↓reduceIte,Nat.reduceEqDiff,Nat.reduceLeDiff,Array.reduceGetElem?,↓gd,↓opP,↓qv,slot,putS,putO,ofV,fldA,asRow,rdF,Ent.row,ldS,sz,bldS,binH,binS2,structS,eqL,eqF,binS,arrS,isI,stor,hx,z1,z2,z8,Bool.and_true,Bool.and_false]
    repeat (refine ⟨by omega,?_⟩)
    exact fin 1 (by rw [if_pos ⟨c1,.inr z7⟩])
  ·have z2:(key == 0) = false:=beq_eq_false_iff_ne.2 c2
   simp -implicitDefEqProofs (maxSteps:=1000000) (disch:=omega) only [↓zzP,zzA,zzL,zzB,Nat.reduceSub,reduceIte,reduceCtorEq,Nat.reduceLT,↓reduceIte,Nat.reduceEqDiff,Nat.reduceLeDiff,Array.reduceGetElem?,↓gd,↓opP,↓qv,slot,putS,putO,ofV,fldA,asRow,rdF,Ent.row,ldS,sz,bldS,binH,binS2,structS,eqL,eqF,binS,arrS,isI,stor,hx,z1,z2,Bool.and_true,Bool.false_and]
   repeat (refine ⟨by omega,?_⟩)
   exact fin 1 (by rw [if_pos ⟨c1,.inl c2⟩])
 ·have z1:(k == 1) = false:=beq_eq_false_iff_ne.2 c1
  simp -implicitDefEqProofs (maxSteps:=1000000) (disch:=omega) only [↓zzP,zzA,zzL,zzB,reduceIte,reduceCtorEq,Nat.reduceLT,↓reduceIte,Nat.reduceEqDiff,Array.reduceGetElem?,↓gd,↓opP,↓qv,slot,putS,putO,ofV,fldA,rdF,Ent.row,ldS,binH,binS2,binS,hx,z1]
  repeat (refine ⟨by omega,?_⟩)
  exact fin 0 (by rw [if_neg (fun h=>c1 h.1)])
mutual
theorem c16:∀ m:Msg,RAt m
 | .mk k f v s d b bs p q key of=>c16S k f v s d b bs p q key of (c16L p) (c16Q q)
theorem c16L:∀ p:List Msg,∀ m ∈ p,RAt m
 | [],m,hm=>by cases hm
 | a :: l,m,hm=>(List.mem_cons.1 hm).elim (fun e=>e ▸ c16 a) (c16L l m)
theorem c16Q:∀ q:List (Msg × List Msg),∀ x ∈ q,RAt x.1∧∀ m ∈ x.2,RAt m
 | [],x,hx=>by cases hx
 | (a,l) :: r,x,hx=>(List.mem_cons.1 hx).elim (fun e=>e ▸ ⟨c16 a,c16L l⟩) (c16Q r x)
end
end Go.Proofs.Ytgocfglmideobaa
set_option linter.all false
set_option maxRecDepth 40000
namespace Go.Proofs.Ytgocfglmideobaa
open Go Go.Sx
theorem res106:Try.f106.results.toList = [.tmp 4]:=rfl
set_option maxHeartbeats 4000000 in
theorem c106 (B:List By) (k:Nat) (w:Bool) (v:BitVec 64) (h:List Chunk) (hk:lookH h k = .row w B.length 1 (fun i=>.int .u8 (nat (B.getD i 0)))) (hlen:B.length≤70368744177664) (K:Tok→SV→List Chunk→Prop) (hK:Out (fun j=>False) h (B++leb v.toNat) K) :
  callP Try.prog 106 [.osl k 0 0 1 B.length,.int .u64 (nat v)] h K:=by
 have hv10:=leb_64 v
 refine callP_of_code tabOk Try.func106 (by kernel_rfl) rfl (Nat.le_of_ble_eq_true rfl) (codeP_of_vc (pl:=np) tabOk follows_mixed (by kernel_rfl) ?_)
 rw [Try.ntmps106]
 simp -implicitDefEqProofs (maxSteps:=1000000) (disch:=omega) only [↓zzP,zzA,reduceIte,reduceCtorEq,Nat.reduceLT,↓reduceIte,Nat.reduceAdd,↓gd,↓opP,↓qv,↓ef,↓appS,slot,putS,putO,ofV,srcS,tupS,notInt,res106,hk]
 repeat (refine ⟨by omega,?_⟩)
 refine codeP_loop (pl:=np) tabOk follows_mixed (by kernel_rfl) (fun z st=>∃ (D:List By) (u:BitVec 64) (H:List Chunk) (m:Nat) (j:Nat→Value),z = u.toNat∧D++leb u.toNat = B++leb v.toNat∧Ext (fun j=>False) h H∧(h.length≤m)∧lookH H m = .row true D.length 1 (fun i=>.int .u8 (nat (D.getD i 0)))∧st = ⟨⟨23,[(1,.int .u64 (nat u)),(4,.v (.slice none 0 0)),(5,.osl m 0 0 1 D.length)],j⟩,H,[]⟩) ?_ ?_
 ·refine into_sim (row_sim rfl fun i _=>rfl) ?_
  exact into_keep [(1,.int .u64 (nat v)),(4,.v (.slice none 0 0)),(5,.osl h.length 0 0 1 B.length)] (by simp [sameT,slot,lkL]) fun j=>⟨v.toNat,B,v,_,h.length,j,rfl,rfl,(Ext.refl _ _).app _,Nat.le_refl _,lookH_end _ _,rfl⟩
 ·rintro z st ⟨D,u,H,m,j,rfl,hD,hE,hm,hrow,rfl⟩
  have hl:=congrArg List.length hD
  rw [List.length_append,List.length_append] at hl
  have hlt:m < H.length:=lookH_lt hrow (by simp)
  have hhl:=hE.1
  by_cases c:u.toNat < 128
  ·have z1:decide (nat u ≥ 128) = false:=decide_eq_false (by unfold nat; omega)
   simp -implicitDefEqProofs (maxSteps:=1000000) (disch:=omega) only [↓zzP,zzA,zzL,zzB,reduceIte,reduceCtorEq,Nat.reduceLT,↓reduceIte,Nat.reduceEqDiff,Nat.reduceLeDiff,↓gd,↓opP,↓qv,↓ef,↓bslS,↓appS,slot,putS,putO,ofV,convS,sz,srcS,binH,binS2,binS,stor,notInt,z1,hrow,byte_one,lookH_at]
   repeat (refine ⟨by omega,?_⟩)
   rw [leb_lt c] at hD
   rw [← hD] at hK
   have hd:D.length+1 = (D++[BitVec.ofNat 8 u.toNat]).length:=by simp
   refine intoR_sim (row_sim hd fun i hi=>app_one hi rfl) ?_
   rw [hd]
   exact intoR_refl (by simp [putH_len]; omega) (hK _ _ (((hE.app _).put _ (.inr hm)).app _) (by omega) (lookH_last (by simp [putH_len])))
  ·have z1:decide (nat u ≥ 128) = true:=decide_eq_true (by unfold nat; omega)
   simp -implicitDefEqProofs (maxSteps:=1000000) (disch:=omega) only [↓zzP,zzA,zzL,zzB,reduceIte,Nat.reduceLT,Int.reduceLE,↓reduceIte,Nat.reduceEqDiff,Nat.reduceLeDiff,Int.reduceToNat,↓gd,↓opP,↓qv,↓ef,↓bslS,↓appS,slot,putS,putO,ofV,convS,sz,srcS,binH,binS2,binS,stor,notInt,z1,hrow,bytes_conv,lookH_at]
   repeat (refine ⟨by omega,?_⟩)
   rw [leb_ge c] at hD
   have hd:D.length+1 = (D++[BitVec.ofNat 8 (u.toNat % 128+128)]).length:=by simp
   refine into_sim (row_sim hd fun i hi=>app_one hi rfl) ?_
   rw [hd]
   exact into_keep [(1,.int .u64 (nat (u >>> 7))),(4,.v (.slice none 0 0)),(5,.osl (H.length+1) 0 0 1 (D++[BitVec.ofNat 8 (u.toNat % 128+128)]).length)] (by simp [sameT,slot,lkL]) fun j=>⟨(u >>> 7).toNat,by rw [shr7]; omega,_,u >>> 7,_,H.length+1,j,rfl,by rw [shr7,List.append_assoc,← hD]; rfl,((hE.app _).put _ (.inr hm)).app _,by omega,lookH_last (by simp [putH_len]),rfl⟩
end Go.Proofs.Ytgocfglmideobaa
set_option linter.all false
set_option maxRecDepth 40000
namespace Go.Proofs.Ytgocfglmideobaa
open Go Go.Sx
theorem res101:Try.f101.results.toList = [.tmp 4]:=rfl
theorem res107:Try.f107.results.toList = [.tmp 4]:=rfl
set_option maxHeartbeats 4000000 in
theorem c101 (B:List By) (k:Nat) (w:Bool) (n:Int) (hn:rng n) (h:List Chunk) (hk:lookH h k = .row w B.length 1 (fun i=>.int .u8 (nat (B.getD i 0)))) (hlen:B.length≤70368744177664) (K:Tok→SV→List Chunk→Prop) (hK:Out (fun j=>False) h (B++leb (zig n)) K) :
  callP Try.prog 101 [.osl k 0 0 1 B.length,.int .i64 n] h K:=by
 have z:=zf1 hn
 refine callP_of_code tabOk Try.func101 (by kernel_rfl) rfl (Nat.le_of_ble_eq_true rfl) (codeP_of_vc (pl:=np) tabOk follows_mixed (by kernel_rfl) ?_)
 rw [Try.ntmps101]
 simp -implicitDefEqProofs (maxSteps:=1000000) (disch:=omega) only [↓zzP,zzA,reduceIte,reduceCtorEq,Nat.reduceLT,Int.reduceLE,↓reduceIte,Nat.reduceEqDiff,Nat.reduceAdd,↓gd,↓opP,↓qv,slot,putS,putO,ofV,convS,binH,binS2,binS,tupS,res101,z]
 repeat (refine ⟨by omega,?_⟩)
 refine c106 B k w _ h hk hlen _ ?_
 rw [zig_toNat hn]
 obtain ⟨D,hD⟩:∃ D,D = B++leb (zig n):=⟨_,rfl⟩
 rw [← hD] at hK ⊢
 intro H m hE hm hrow
 have hhl:=hE.1
 simp -implicitDefEqProofs (maxSteps:=1000000) (disch:=omega) only [↓zzP,zzA,reduceIte,Nat.reduceLT,↓reduceIte,↓gd,↓opP,↓qv,slot,putS,putO]
 repeat (refine ⟨by omega,?_⟩)
 exact intoR_refl hhl (hK _ _ hE hm hrow)
set_option maxHeartbeats 4000000 in
theorem c107 (B C:List By) (k k2:Nat) (w w2:Bool) (h:List Chunk) (hk:lookH h k = .row w B.length 1 (fun i=>.int .u8 (nat (B.getD i 0)))) (hk2:lookH h k2 = .row w2 C.length 1 (fun i=>.int .u8 (nat (C.getD i 0)))) (hlen:B.length+C.length≤35184372088832) (K:Tok→SV→List Chunk→Prop) (hK:Out (fun j=>False) h (B++putB C) K) :
  callP Try.prog 107 [.osl k 0 0 1 B.length,.osl k2 0 0 1 C.length] h K:=by
 have hu:=len_u64 (n:=C.length) (by omega)
 have hu1:=hu.1
 refine callP_of_code tabOk Try.func107 (by kernel_rfl) rfl (Nat.le_of_ble_eq_true rfl) (codeP_of_vc (pl:=np) tabOk follows_mixed (by kernel_rfl) ?_)
 rw [Try.ntmps107]
 simp -implicitDefEqProofs (maxSteps:=1000000) (disch:=omega) only [↓zzP,zzA,reduceIte,reduceCtorEq,Nat.reduceLT,↓reduceIte,Nat.reduceEqDiff,Nat.reduceAdd,↓gd,↓opP,↓qv,slot,putS,putO,ofV,convS,lenS,tupS,res107,hu1]
 repeat (refine ⟨by omega,?_⟩)
 refine c106 B k w _ h hk (by omega) _ ?_
 intro H m hE hm hrow
 rw [hu.2] at hrow ⊢
 have hl10:(leb C.length).length≤10:=by have:=leb_64 (BitVec.ofNat 64 C.length); rwa [hu.2] at this
 obtain ⟨D,hD⟩:∃ D,D = B++leb C.length:=⟨_,rfl⟩
 have hDl:D.length≤B.length+10:=by rw [hD,List.length_append]; omega
 rw [← hD] at hrow ⊢
 have hrow2:=hE.look hk2 (by simp) (fun h=>h)
 have hhl:=hE.1
 simp -implicitDefEqProofs (maxSteps:=1000000) (disch:=omega) only [↓zzP,zzA,reduceIte,reduceCtorEq,Nat.reduceLT,↓reduceIte,Nat.reduceEqDiff,↓gd,↓opP,↓qv,↓ef,↓appS,slot,putS,putO,srcS,notInt,hrow,hrow2]
 repeat (refine ⟨by omega,?_⟩)
 have hd:D.length+C.length = (B++putB C).length:=by rw [hD]; unfold putB; simp only [List.length_append]; omega
 refine intoR_sim (row_sim hd fun i hi=>?_) ?_
 ·rw [show B++putB C = D++C by rw [hD]; unfold putB; rw [List.append_assoc]]
  exact app_byte
 rw [hd]
 exact intoR_refl (by simp [putH_len]; omega) (hK _ _ ((hE.put _ (.inr hm)).app _) (by omega) (lookH_last (by simp [putH_len])))
end Go.Proofs.Ytgocfglmideobaa
set_option linter.all false
set_option maxRecDepth 40000
namespace Go.Proofs.Ytgocfglmideobaa
open Go Go.Sx
theorem res108:Try.f108.results.toList = [.tmp 6]:=rfl
theorem res109:Try.f109.results.toList = [.tmp 6]:=rfl
theorem res110:Try.f110.results.toList = [.tmp 4]:=rfl
theorem res111:Try.f111.results.toList = [.tmp 6]:=rfl
theorem res112:Try.f112.results.toList = [.tmp 4]:=rfl
def pl112:Nat→Plan
 | 1=>(.q 0 (.q 1 (.q 2 (.q 4 (.q 5 (.e1 3 [2] (.e1 6 [2,3,5] (.q 7 .nil))))))))
 | _=>.nil
theorem MsgH.open {h:List Chunk} {m:Msg} {l:List SV} (H:MsgH h m l):∃ (xk xf xv xs:Int) (xd:Nat→By) (xkb xnb xkbs xnbs xkp xnp xkq xnq:Nat) (xkey:Int) (xof:Nat→By),l = [.int .i64 xk,.int .i64 xf,.int .i64 xv,.int .i64 xs,.fam 32 1 fun i=>.int .u8 (nat (xd i)),.osl xkb 0 0 1 xnb,.osl xkbs 0 0 1 xnbs,.osl xkp 0 0 73 xnp,.osl xkq 0 0 74 xnq,.int .i64 xkey,.fam 32 1 fun i=>.int .u8 (nat (xof i))]:=by
 obtain ⟨k,f,v,s,d,b,bs,p,q,key,of⟩:=m
 rw [MsgH] at H
 obtain ⟨sb,sbs,kp,wp,fp,kq,wq,fq,hl,h1,h2,_⟩:=H
 obtain ⟨kb,wb,rfl,_⟩:=h1
 obtain ⟨kbs,wbs,fb,rfl,_,_⟩:=h2
 exact ⟨_,_,_,_,_,_,_,_,_,_,_,_,_,_,_,hl⟩
theorem putB_pos (b:List By):1≤(putB b).length:=by
 unfold putB
 rw [List.length_append]
 have:=leb_pos b.length
 omega
theorem putB_pos2 (b c:List By):1≤(putB b++c).length:=by
 rw [List.length_append]
 have:=putB_pos b
 omega
theorem len_flat {α:Type} (f:α→List By) (hf:∀ x,1≤(f x).length):∀ l:List α,l.length≤(l.flatMap f).length
 | []=>Nat.le_refl _
 | a :: l=>by
  rw [List.flatMap_cons,List.length_append,List.length_cons]
  have:=hf a
  have:=len_flat f hf l
  omega
abbrev EncAt (F:FuncId) (m:Msg):Prop:=∀ (l:List SV) (h:List Chunk),MsgH h m l→(enc m).length≤17592186044416→∀ (K:Tok→SV→List Chunk→Prop),Out (fun _=>False) h (enc m) K→callP Try.prog F [.agg l] h K
set_option maxHeartbeats 4000000 in
theorem c110 (B:List By) (k:Nat) (w:Bool) (m:Msg) (hR:EncAt 51 m) (l:List SV) (h:List Chunk) (hm:MsgH h m l) (hk:lookH h k = .row w B.length 1 (fun i=>.int .u8 (nat (B.getD i 0)))) (hlen:(B++putB (enc m)).length≤17592186044416) (K:Tok→SV→List Chunk→Prop) (hK:Out (fun j=>False) h (B++putB (enc m)) K) :
  callP Try.prog 110 [.osl k 0 0 1 B.length,.agg l] h K:=by
 obtain ⟨xk,xf,xv,xs,xd,xkb,xnb,xkbs,xnbs,xkp,xnp,xkq,xnq,xkey,xof,rfl⟩:=hm.open
 have hlen1:=hlen
 unfold putB at hlen1
 simp only [List.length_append] at hlen1
 refine callP_of_code tabOk Try.func110 (by kernel_rfl) rfl (Nat.le_of_ble_eq_true rfl) (codeP_of_vc (pl:=np) tabOk follows_mixed (by kernel_rfl) ?_)
 rw [Try.ntmps110]
 simp -implicitDefEqProofs (maxSteps:=1000000) (disch:=omega) only [↓zzP,zzA,zzL,zzB,Nat.reduceSub,reduceIte,reduceCtorEq,Nat.reduceLT,↓reduceIte,Nat.reduceEqDiff,Nat.reduceLeDiff,Nat.reduceAdd,↓gd,↓opP,↓qv,↓ef,slot,putS,putO,ofV,rdF,Ent.row,ldS,sz,tupS,stor,res110]
 repeat (refine ⟨by omega,?_⟩)
 have hE0:Ext (fun _=>False) h (h++[Chunk.cells true [.int .i64 xk,.int .i64 xf,.int .i64 xv,.int .i64 xs,.fam 32 1 fun i=>.int .u8 (nat (xd i)),.osl xkb 0 0 1 xnb,.osl xkbs 0 0 1 xnbs,.osl xkp 0 0 73 xnp,.osl xkq 0 0 74 xnq,.int .i64 xkey,.fam 32 1 fun i=>.int .u8 (nat (xof i))]]):=(Ext.refl _ _).app _
 refine hR _ _ (hm.ext hE0) (by omega) _ ?_
 intro H m1 hE hm1 hrow
 have hE1:=hE0.trans hE
 have hk1:=hE1.look hk (by simp) fun h=>h
 obtain ⟨C,hC⟩:∃ C,C = enc m:=⟨_,rfl⟩
 rw [← hC] at hrow hK hlen1 ⊢
 simp -implicitDefEqProofs (maxSteps:=1000000) (disch:=omega) only [↓zzP,zzA,reduceIte,Nat.reduceLT,↓reduceIte,Nat.reduceEqDiff,↓gd,↓opP,slot,putS,putO]
 repeat (refine ⟨by omega,?_⟩)
 refine c107 B C k m1 w true H hk1 hrow (by omega) _ ?_
 intro H2 m2 hE2 hm2 hrow2
 obtain ⟨D,hD⟩:∃ D,D = B++putB C:=⟨_,rfl⟩
 rw [← hD] at hK hrow2 ⊢
 have hE3:=hE1.trans hE2
 have hl3:=hE3.1
 have hl1:=hE1.1
 simp -implicitDefEqProofs (maxSteps:=1000000) (disch:=omega) only [↓zzP,zzA,reduceIte,Nat.reduceLT,↓reduceIte,↓gd,↓opP,↓qv,slot,putS,putO]
 repeat (refine ⟨by omega,?_⟩)
 exact intoR_refl hl3 (hK _ _ hE3 (by omega) hrow2)
set_option maxHeartbeats 4000000 in
theorem c108 (B:List By) (k:Nat) (w:Bool) (bs:List (List By)) (kr:Nat) (wr:Bool) (fb:Nat→SV) (h:List Chunk) (hr:lookH h kr = .row wr bs.length 1 fb) (hbs:∀ i,i < bs.length→rowB h (fb i) (bs.getD i [])) (hk:lookH h k = .row w B.length 1 (fun i=>.int .u8 (nat (B.getD i 0)))) (hlen:(B++(leb bs.length++bs.flatMap putB)).length≤17592186044416) (K:Tok→SV→List Chunk→Prop) (hK:Out (fun j=>False) h (B++(leb bs.length++bs.flatMap putB)) K) :
  callP Try.prog 108 [.osl k 0 0 1 B.length,.osl kr 0 0 1 bs.length,.fn (.func 107) [] []] h K:=by
 refine callP_of_code tabOk Try.func108 (by kernel_rfl) rfl (Nat.le_of_ble_eq_true rfl) (codeP_of_vc (pl:=np) tabOk follows_mixed (by kernel_rfl) ?_)
 rw [Try.ntmps108]
 have hbl:bs.length≤17592186044416:=by
  have h1:=len_flat putB (fun x=>by exact putB_pos _) bs
  rw [List.length_append,List.length_append] at hlen
  omega
 have hu:=len_u64 (n:=bs.length) (by omega)
 have hu1:=hu.1
 have hl10:(leb bs.length).length≤10:=by have:=leb_64 (BitVec.ofNat 64 bs.length); rwa [hu.2] at this
 have hB:B.length≤17592186044416:=by rw [List.length_append] at hlen; omega
 simp -implicitDefEqProofs (maxSteps:=1000000) (disch:=omega) only [↓zzP,zzA,reduceIte,reduceCtorEq,Nat.reduceLT,↓reduceIte,Nat.reduceEqDiff,Nat.reduceAdd,↓gd,↓opP,↓qv,slot,putS,putO,ofV,convS,lenS,nilS,nilEq,binH,binS2,binS,tupS,res108,hu1]
 repeat (refine ⟨by omega,?_⟩)
 refine c106 B k w _ h hk (by omega) _ ?_
 intro H0 m0 hE0 hm0 hrow0
 rw [hu.2] at hrow0 ⊢
 obtain ⟨T,hT⟩:∃ T,T = B++(leb bs.length++bs.flatMap putB):=⟨_,rfl⟩
 rw [← hT] at hlen hK
 obtain ⟨D0,hD0⟩:∃ D0,D0 = B++leb bs.length:=⟨_,rfl⟩
 rw [← hD0] at hrow0 ⊢
 have hDT:D0++bs.flatMap putB = T:=by rw [hD0,hT,List.append_assoc]
 simp -implicitDefEqProofs (maxSteps:=1000000) (disch:=omega) only [↓zzP,zzA,reduceIte,reduceCtorEq,Nat.reduceLT,↓reduceIte,Nat.reduceEqDiff,↓gd,↓opP,↓qv,slot,putS,putO,ofV,lenS]
 repeat (refine ⟨by omega,?_⟩)
 refine codeP_loop (pl:=np) tabOk follows_mixed (by kernel_rfl) (fun z st=>∃ (i:Nat) (D:List By) (H:List Chunk) (m:Nat) (j:Nat→Value),i+z = bs.length∧D++(bs.drop i).flatMap putB = T∧Ext (fun _=>False) h H∧h.length≤m∧lookH H m = .row true D.length 1 (fun i=>.int .u8 (nat (D.getD i 0)))∧st = ⟨⟨31,[(2,.fn (.func 107) [] []),(6,.v (.slice none 0 0)),(7,.osl m 0 0 1 D.length),(19,.osl kr 0 0 1 bs.length),(20,.int .i64 (bs.length:Nat)),(21,.int .i64 (i:Nat))],j⟩,H,[]⟩) ?_ ?_
 ·exact into_keep [(2,.fn (.func 107) [] []),(6,.v (.slice none 0 0)),(7,.osl m0 0 0 1 D0.length),(19,.osl kr 0 0 1 bs.length),(20,.int .i64 (bs.length:Nat)),(21,.int .i64 (0:Nat))] (by simp [sameT,slot,lkL]) fun j=>⟨bs.length,0,D0,H0,m0,j,by omega,hDT,hE0,hm0,hrow0,rfl⟩
 ·rintro z st ⟨i,D,H,m,j,hiz,hD,hE,hm,hrow,rfl⟩
  have hhl:=hE.1
  by_cases hi:i < bs.length
  ·have g1:decide ((i:Int) < (bs.length:Nat)) = true:=decide_eq_true (by omega)
   have a1:IntKind.i64.wrap ((i:Int)+1) = ((i+1:Nat):Int):=by rw [wrap64 (by omega) (by omega)]; omega
   have hr1:=hE.look hr (by simp) fun h=>h
   rw [List.drop_eq_getElem_cons hi,List.flatMap_cons,← List.append_assoc] at hD
   have hl2:=congrArg List.length hD
   rw [List.length_append] at hl2
   obtain ⟨k2,w2,hfi,hk2⟩:=hbs i hi
   have hg:bs.getD i [] = bs[i]:=by simp [hi]
   rw [hg] at hfi hk2
   obtain ⟨C,hC⟩:∃ C,C = bs[i]:=⟨_,rfl⟩
   have hp:(D++putB C).length≤17592186044416:=by rw [hC]; omega
   unfold putB at hp
   simp only [List.length_append] at hp
   rw [← hC] at hfi hk2
   simp -implicitDefEqProofs (maxSteps:=1000000) (disch:=omega) only [↓zzP,zzA,zzL,zzB,reduceIte,Nat.reduceLT,↓reduceIte,Nat.reduceEqDiff,↓gd,↓opP,↓qv,slot,putS,putO,idxA,rdF,Ent.row,ldS,binH,binS2,binS,g1,hr1,hfi]
   repeat (refine ⟨by omega,?_⟩)
   have hEm:=hE
   refine c107 D C m k2 true w2 H hrow (hE.look hk2 (by simp) fun h=>h) (by omega) _ ?_
   rw [hC]
   intro H2 m2 hE2 hm2 hrow2
   obtain ⟨D2,hD2⟩:∃ D2,D2 = D++putB bs[i]:=⟨_,rfl⟩
   rw [← hD2] at hrow2 hD ⊢
   have hE3:=hEm.trans hE2
   have hl3:=hEm.1
   simp -implicitDefEqProofs (maxSteps:=1000000) (disch:=omega) only [↓zzP,zzA,reduceIte,Nat.reduceLT,↓reduceIte,Nat.reduceEqDiff,↓gd,↓opP,↓qv,slot,putS,putO,ofV,binH,binS2,binS,a1]
   repeat (refine ⟨by omega,?_⟩)
   exact into_keep [(2,.fn (.func 107) [] []),(6,.v (.slice none 0 0)),(7,.osl m2 0 0 1 D2.length),(19,.osl kr 0 0 1 bs.length),(20,.int .i64 (bs.length:Nat)),(21,.int .i64 (i+1:Nat))] (by simp [sameT,slot,lkL]) fun j=>⟨z - 1,by omega,i+1,D2,H2,m2,j,by omega,hD,hE3,by omega,hrow2,rfl⟩
  ·have g1:decide ((i:Int) < (bs.length:Nat)) = false:=decide_eq_false (by omega)
   have hd:bs.drop i = []:=List.drop_of_length_le (by omega)
   rw [hd,List.flatMap_nil,List.append_nil] at hD
   subst hD
   simp -implicitDefEqProofs (maxSteps:=1000000) (disch:=omega) only [↓zzP,zzA,zzL,reduceIte,reduceCtorEq,Nat.reduceLT,↓reduceIte,Nat.reduceEqDiff,↓gd,↓opP,↓qv,slot,putS,putO,binH,binS2,binS,g1]
   repeat (refine ⟨by omega,?_⟩)
   exact intoR_refl hhl (hK _ _ hE hm hrow)
set_option maxHeartbeats 4000000 in
theorem c109 (B:List By) (k:Nat) (w:Bool) (bs:List Msg) (kr:Nat) (wr:Bool) (fp:Nat→List SV) (h:List Chunk) (hr:lookH h kr = .row wr bs.length 73 fun i=>.agg (fp i)) (hp:MsgsH h bs fp) (IH:∀ m ∈ bs,EncAt 51 m) (hk:lookH h k = .row w B.length 1 (fun i=>.int .u8 (nat (B.getD i 0)))) (hlen:(B++(leb bs.length++bs.flatMap (fun m=>putB (enc m)))).length≤17592186044416) (K:Tok→SV→List Chunk→Prop) (hK:Out (fun j=>False) h (B++(leb bs.length++bs.flatMap (fun m=>putB (enc m)))) K) :
  callP Try.prog 109 [.osl k 0 0 1 B.length,.osl kr 0 0 73 bs.length,.fn (.func 110) [] []] h K:=by
 refine callP_of_code tabOk Try.func109 (by kernel_rfl) rfl (Nat.le_of_ble_eq_true rfl) (codeP_of_vc (pl:=np) tabOk follows_mixed (by kernel_rfl) ?_)
 rw [Try.ntmps109]
 have hbl:bs.length≤17592186044416:=by
  have h1:=len_flat (fun m=>putB (enc m)) (fun x=>by exact putB_pos _) bs
  rw [List.length_append,List.length_append] at hlen
  omega
 have hu:=len_u64 (n:=bs.length) (by omega)
 have hu1:=hu.1
 have hl10:(leb bs.length).length≤10:=by have:=leb_64 (BitVec.ofNat 64 bs.length); rwa [hu.2] at this
 have hB:B.length≤17592186044416:=by rw [List.length_append] at hlen; omega
 simp -implicitDefEqProofs (maxSteps:=1000000) (disch:=omega) only [↓zzP,zzA,reduceIte,reduceCtorEq,Nat.reduceLT,↓reduceIte,Nat.reduceEqDiff,Nat.reduceAdd,↓gd,↓opP,↓qv,slot,putS,putO,ofV,convS,lenS,nilS,nilEq,binH,binS2,binS,tupS,res109,hu1]
 repeat (refine ⟨by omega,?_⟩)
 refine c106 B k w _ h hk (by omega) _ ?_
 intro H0 m0 hE0 hm0 hrow0
 rw [hu.2] at hrow0 ⊢
 obtain ⟨T,hT⟩:∃ T,T = B++(leb bs.length++bs.flatMap (fun m=>putB (enc m))):=⟨_,rfl⟩
 rw [← hT] at hlen hK
 obtain ⟨D0,hD0⟩:∃ D0,D0 = B++leb bs.length:=⟨_,rfl⟩
 rw [← hD0] at hrow0 ⊢
 have hDT:D0++bs.flatMap (fun m=>putB (enc m)) = T:=by rw [hD0,hT,List.append_assoc]
 simp -implicitDefEqProofs (maxSteps:=1000000) (disch:=omega) only [↓zzP,zzA,reduceIte,reduceCtorEq,Nat.reduceLT,↓reduceIte,Nat.reduceEqDiff,↓gd,↓opP,↓qv,slot,putS,putO,ofV,lenS]
 repeat (refine ⟨by omega,?_⟩)
 refine codeP_loop (pl:=np) tabOk follows_mixed (by kernel_rfl) (fun z st=>∃ (i:Nat) (D:List By) (H:List Chunk) (m:Nat) (j:Nat→Value),i+z = bs.length∧D++(bs.drop i).flatMap (fun m=>putB (enc m)) = T∧Ext (fun _=>False) h H∧h.length≤m∧lookH H m = .row true D.length 1 (fun i=>.int .u8 (nat (D.getD i 0)))∧st = ⟨⟨31,[(2,.fn (.func 110) [] []),(6,.v (.slice none 0 0)),(7,.osl m 0 0 1 D.length),(19,.osl kr 0 0 73 bs.length),(20,.int .i64 (bs.length:Nat)),(21,.int .i64 (i:Nat))],j⟩,H,[]⟩) ?_ ?_
 ·exact into_keep [(2,.fn (.func 110) [] []),(6,.v (.slice none 0 0)),(7,.osl m0 0 0 1 D0.length),(19,.osl kr 0 0 73 bs.length),(20,.int .i64 (bs.length:Nat)),(21,.int .i64 (0:Nat))] (by simp [sameT,slot,lkL]) fun j=>⟨bs.length,0,D0,H0,m0,j,by omega,hDT,hE0,hm0,hrow0,rfl⟩
 ·rintro z st ⟨i,D,H,m,j,hiz,hD,hE,hm,hrow,rfl⟩
  have hhl:=hE.1
  by_cases hi:i < bs.length
  ·have g1:decide ((i:Int) < (bs.length:Nat)) = true:=decide_eq_true (by omega)
   have a1:IntKind.i64.wrap ((i:Int)+1) = ((i+1:Nat):Int):=by rw [wrap64 (by omega) (by omega)]; omega
   have hr1:=hE.look hr (by simp) fun h=>h
   rw [List.drop_eq_getElem_cons hi,List.flatMap_cons,← List.append_assoc] at hD
   have hl2:=congrArg List.length hD
   rw [List.length_append] at hl2
   have hM:=hp.get hi
   obtain ⟨xk,xf,xv,xs,xd,xkb,xnb,xkbs,xnbs,xkp,xnp,xkq,xnq,xkey,xof,hfi⟩:=hM.open
   rw [hfi] at hM
   simp -implicitDefEqProofs (maxSteps:=1000000) (disch:=omega) only [↓zzP,zzA,zzL,zzB,Nat.reduceSub,reduceIte,reduceCtorEq,Nat.reduceLT,↓reduceIte,Nat.reduceEqDiff,Nat.reduceLeDiff,Nat.reduceAdd,↓gd,↓opP,↓qv,↓ef,↓stS,slot,putS,putO,idxA,rdF,Ent.row,ldS,sz,wrF,binH,binS2,binS,stor,g1,hr1,hfi]
   repeat (refine ⟨by omega,?_⟩)
   have hEm:Ext (fun _=>False) h (H++[Chunk.cells true [.int .i64 xk,.int .i64 xf,.int .i64 xv,.int .i64 xs,.fam 32 1 fun i=>.int .u8 (nat (xd i)),.osl xkb 0 0 1 xnb,.osl xkbs 0 0 1 xnbs,.osl xkp 0 0 73 xnp,.osl xkq 0 0 74 xnq,.int .i64 xkey,.fam 32 1 fun i=>.int .u8 (nat (xof i))]]):=hE.app _
   have hrowm:lookH (H++[Chunk.cells true [.int .i64 xk,.int .i64 xf,.int .i64 xv,.int .i64 xs,.fam 32 1 fun i=>.int .u8 (nat (xd i)),.osl xkb 0 0 1 xnb,.osl xkbs 0 0 1 xnbs,.osl xkp 0 0 73 xnp,.osl xkq 0 0 74 xnq,.int .i64 xkey,.fam 32 1 fun i=>.int .u8 (nat (xof i))]]) m = .row true D.length 1 (fun i=>.int .u8 (nat (D.getD i 0))):=by rw [lookH_at _ (lookH_lt hrow (by simp))]; exact hrow
   refine c110 D m true bs[i] (IH _ (List.getElem_mem hi)) _ _ (hM.ext hEm) hrowm (by omega) _ ?_
   intro H2 m2 hE2 hm2 hrow2
   obtain ⟨D2,hD2⟩:∃ D2,D2 = D++(fun m=>putB (enc m)) bs[i]:=⟨_,rfl⟩
   rw [← hD2] at hrow2 hD ⊢
   have hE3:=hEm.trans hE2
   have hl3:=hEm.1
   simp -implicitDefEqProofs (maxSteps:=1000000) (disch:=omega) only [↓zzP,zzA,reduceIte,Nat.reduceLT,↓reduceIte,Nat.reduceEqDiff,↓gd,↓opP,↓qv,slot,putS,putO,ofV,binH,binS2,binS,a1]
   repeat (refine ⟨by omega,?_⟩)
   exact into_keep [(2,.fn (.func 110) [] []),(6,.v (.slice none 0 0)),(7,.osl m2 0 0 1 D2.length),(19,.osl kr 0 0 73 bs.length),(20,.int .i64 (bs.length:Nat)),(21,.int .i64 (i+1:Nat))] (by simp [sameT,slot,lkL]) fun j=>⟨z - 1,by omega,i+1,D2,H2,m2,j,by omega,hD,hE3,by omega,hrow2,rfl⟩
  ·have g1:decide ((i:Int) < (bs.length:Nat)) = false:=decide_eq_false (by omega)
   have hd:bs.drop i = []:=List.drop_of_length_le (by omega)
   rw [hd,List.flatMap_nil,List.append_nil] at hD
   subst hD
   simp -implicitDefEqProofs (maxSteps:=1000000) (disch:=omega) only [↓zzP,zzA,zzL,reduceIte,reduceCtorEq,Nat.reduceLT,↓reduceIte,Nat.reduceEqDiff,↓gd,↓opP,↓qv,slot,putS,putO,binH,binS2,binS,g1]
   repeat (refine ⟨by omega,?_⟩)
   exact intoR_refl hhl (hK _ _ hE hm hrow)
def encP (x:Msg × List Msg):List By:=putB (enc x.1)++(leb x.2.length++x.2.flatMap fun m=>putB (enc m))
set_option maxHeartbeats 4000000 in
theorem c112 (B:List By) (k:Nat) (w:Bool) (x:Msg × List Msg) (hR:EncAt 51 x.1) (hL:∀ m ∈ x.2,EncAt 51 m) (l:List SV) (kl nl:Nat) (wl:Bool) (fl:Nat→List SV) (h:List Chunk) (hm:MsgH h x.1 l) (hnl:nl = x.2.length) (hrl:lookH h kl = .row wl nl 73 fun i=>.agg (fl i)) (hls:MsgsH h x.2 fl) (hk:lookH h k = .row w B.length 1 (fun i=>.int .u8 (nat (B.getD i 0)))) (hlen:(B++encP x).length≤17592186044416) (K:Tok→SV→List Chunk→Prop) (hK:Out (fun j=>False) h (B++encP x) K) :
  callP Try.prog 112 [.osl k 0 0 1 B.length,.agg (l++[.osl kl 0 0 73 nl])] h K:=by
 obtain ⟨xk,xf,xv,xs,xd,xkb,xnb,xkbs,xnbs,xkp,xnp,xkq,xnq,xkey,xof,rfl⟩:=hm.open
 simp only [List.cons_append,List.nil_append]
 refine callP_of_code tabOk Try.func112 (by kernel_rfl) rfl (Nat.le_of_ble_eq_true rfl) (codeP_of_vc (pl:=pl112) tabOk follows_mixed (by kernel_rfl) ?_)
 rw [Try.ntmps112]
 simp -implicitDefEqProofs (maxSteps:=1000000) (disch:=omega) only [↓zzP,zzA,zzL,zzB,Nat.reduceSub,reduceIte,reduceCtorEq,Nat.reduceLT,↓reduceIte,Nat.reduceEqDiff,Nat.reduceLeDiff,Nat.reduceAdd,Array.reduceGetElem?,↓gd,↓opP,↓qv,↓ef,slot,putS,putO,ofV,fldA,rdF,Ent.row,ldS,sz,tupS,stor,qn,ldN,res112,pl112]
 repeat (refine ⟨by omega,?_⟩)
 have hE0:Ext (fun _=>False) h (h++[Chunk.cells true [.int .i64 xk,.int .i64 xf,.int .i64 xv,.int .i64 xs,.fam 32 1 fun i=>.int .u8 (nat (xd i)),.osl xkb 0 0 1 xnb,.osl xkbs 0 0 1 xnbs,.osl xkp 0 0 73 xnp,.osl xkq 0 0 74 xnq,.int .i64 xkey,.fam 32 1 fun i=>.int .u8 (nat (xof i)),.osl kl 0 0 73 nl]]):=(Ext.refl _ _).app _
 have hk0:=hE0.look hk (by simp) fun h=>h
 have hlen1:=hlen
 unfold encP at hlen1
 rw [← List.append_assoc] at hlen1
 have hlen2:=hlen1
 rw [List.length_append] at hlen2
 refine c110 B k w x.1 hR _ _ (hm.ext hE0) hk0 (by omega) _ ?_
 intro H m1 hE hm1 hrow
 have hE1:=hE0.trans hE
 have hx:lookH H h.length = Chunk.cells true [.int .i64 xk,.int .i64 xf,.int .i64 xv,.int .i64 xs,.fam 32 1 fun i=>.int .u8 (nat (xd i)),.osl xkb 0 0 1 xnb,.osl xkbs 0 0 1 xnbs,.osl xkp 0 0 73 xnp,.osl xkq 0 0 74 xnq,.int .i64 xkey,.fam 32 1 fun i=>.int .u8 (nat (xof i)),.osl kl 0 0 73 nl]:=hE.look (lookH_end _ _) (by simp) fun h=>h
 refine ⟨hx,?_⟩
 obtain ⟨D,hD⟩:∃ D,D = B++putB (enc x.1):=⟨_,rfl⟩
 rw [← hD] at hlen1 hrow ⊢
 simp -implicitDefEqProofs (maxSteps:=1000000) (disch:=omega) only [↓zzP,zzA,reduceIte,Nat.reduceLT,↓reduceIte,Nat.reduceEqDiff,Array.reduceGetElem?,↓gd,↓opP,slot,putS,putO]
 repeat (refine ⟨by omega,?_⟩)
 rw [hnl] at hrl ⊢
 refine c109 D m1 true x.2 kl wl fl H (hE1.look hrl (by simp) fun h=>h) (hls.ext hE1) hL hrow hlen1 _ ?_
 intro H2 m2 hE2 hm2 hrow2
 have e:D++(leb x.2.length++x.2.flatMap fun m=>putB (enc m)) = B++encP x:=by unfold encP; rw [hD,List.append_assoc]
 rw [e] at hrow2 ⊢
 obtain ⟨D2,hD2⟩:∃ D2,D2 = B++encP x:=⟨_,rfl⟩
 rw [← hD2] at hK hrow2 ⊢
 have hE3:=hE1.trans hE2
 have hl3:=hE3.1
 have hl1:=hE1.1
 simp -implicitDefEqProofs (maxSteps:=1000000) (disch:=omega) only [↓zzP,zzA,reduceIte,Nat.reduceLT,↓reduceIte,Array.reduceGetElem?,↓gd,↓qv,slot,putS,putO]
 repeat (refine ⟨by omega,?_⟩)
 exact intoR_refl hl3 (hK _ _ hE3 (by omega) hrow2)
set_option maxHeartbeats 4000000 in
theorem c111 (B:List By) (k:Nat) (w:Bool) (bs:List (Msg × List Msg)) (kr:Nat) (wr:Bool) (fp:Nat→List SV) (h:List Chunk) (hr:lookH h kr = .row wr bs.length 74 fun i=>.agg (fp i)) (hp:PrepsH h bs fp) (IH:∀ x ∈ bs,EncAt 51 x.1∧∀ m ∈ x.2,EncAt 51 m) (hk:lookH h k = .row w B.length 1 (fun i=>.int .u8 (nat (B.getD i 0)))) (hlen:(B++(leb bs.length++bs.flatMap encP)).length≤17592186044416) (K:Tok→SV→List Chunk→Prop) (hK:Out (fun j=>False) h (B++(leb bs.length++bs.flatMap encP)) K) :
  callP Try.prog 111 [.osl k 0 0 1 B.length,.osl kr 0 0 74 bs.length,.fn (.func 112) [] []] h K:=by
 refine callP_of_code tabOk Try.func111 (by kernel_rfl) rfl (Nat.le_of_ble_eq_true rfl) (codeP_of_vc (pl:=np) tabOk follows_mixed (by kernel_rfl) ?_)
 rw [Try.ntmps111]
 have hbl:bs.length≤17592186044416:=by
  have h1:=len_flat encP (fun x=>by unfold encP; exact putB_pos2 _ _) bs
  rw [List.length_append,List.length_append] at hlen
  omega
 have hu:=len_u64 (n:=bs.length) (by omega)
 have hu1:=hu.1
 have hl10:(leb bs.length).length≤10:=by have:=leb_64 (BitVec.ofNat 64 bs.length); rwa [hu.2] at this
 have hB:B.length≤17592186044416:=by rw [List.length_append] at hlen; omega
 simp -implicitDefEqProofs (maxSteps:=1000000) (disch:=omega) only [↓zzP,zzA,reduceIte,reduceCtorEq,Nat.reduceLT,↓reduceIte,Nat.reduceEqDiff,Nat.reduceAdd,↓gd,↓opP,↓qv,slot,putS,putO,ofV,convS,lenS,nilS,nilEq,binH,binS2,binS,tupS,res111,hu1]
 repeat (refine ⟨by omega,?_⟩)
 refine c106 B k w _ h hk (by omega) _ ?_
 intro H0 m0 hE0 hm0 hrow0
 rw [hu.2] at hrow0 ⊢
 obtain ⟨T,hT⟩:∃ T,T = B++(leb bs.length++bs.flatMap encP):=⟨_,rfl⟩
 rw [← hT] at hlen hK
 obtain ⟨D0,hD0⟩:∃ D0,D0 = B++leb bs.length:=⟨_,rfl⟩
 rw [← hD0] at hrow0 ⊢
 have hDT:D0++bs.flatMap encP = T:=by rw [hD0,hT,List.append_assoc]
 simp -implicitDefEqProofs (maxSteps:=1000000) (disch:=omega) only [↓zzP,zzA,reduceIte,reduceCtorEq,Nat.reduceLT,↓reduceIte,Nat.reduceEqDiff,↓gd,↓opP,↓qv,slot,putS,putO,ofV,lenS]
 repeat (refine ⟨by omega,?_⟩)
 refine codeP_loop (pl:=np) tabOk follows_mixed (by kernel_rfl) (fun z st=>∃ (i:Nat) (D:List By) (H:List Chunk) (m:Nat) (j:Nat→Value),i+z = bs.length∧D++(bs.drop i).flatMap encP = T∧Ext (fun _=>False) h H∧h.length≤m∧lookH H m = .row true D.length 1 (fun i=>.int .u8 (nat (D.getD i 0)))∧st = ⟨⟨31,[(2,.fn (.func 112) [] []),(6,.v (.slice none 0 0)),(7,.osl m 0 0 1 D.length),(19,.osl kr 0 0 74 bs.length),(20,.int .i64 (bs.length:Nat)),(21,.int .i64 (i:Nat))],j⟩,H,[]⟩) ?_ ?_
 ·exact into_keep [(2,.fn (.func 112) [] []),(6,.v (.slice none 0 0)),(7,.osl m0 0 0 1 D0.length),(19,.osl kr 0 0 74 bs.length),(20,.int .i64 (bs.length:Nat)),(21,.int .i64 (0:Nat))] (by simp [sameT,slot,lkL]) fun j=>⟨bs.length,0,D0,H0,m0,j,by omega,hDT,hE0,hm0,hrow0,rfl⟩
 ·rintro z st ⟨i,D,H,m,j,hiz,hD,hE,hm,hrow,rfl⟩
  have hhl:=hE.1
  by_cases hi:i < bs.length
  ·have g1:decide ((i:Int) < (bs.length:Nat)) = true:=decide_eq_true (by omega)
   have a1:IntKind.i64.wrap ((i:Int)+1) = ((i+1:Nat):Int):=by rw [wrap64 (by omega) (by omega)]; omega
   have hr1:=hE.look hr (by simp) fun h=>h
   rw [List.drop_eq_getElem_cons hi,List.flatMap_cons,← List.append_assoc] at hD
   have hl2:=congrArg List.length hD
   rw [List.length_append] at hl2
   obtain ⟨lm,xkl,wl,fl,hfi,hM,hrl,hls⟩:=hp.get hi
   have hIH:=IH bs[i] (List.getElem_mem hi)
   obtain ⟨xk,xf,xv,xs,xd,xkb,xnb,xkbs,xnbs,xkp,xnp,xkq,xnq,xkey,xof,hlm⟩:=hM.open
   rw [hlm] at hM hfi
   simp only [List.cons_append,List.nil_append] at hfi
   obtain ⟨xnl,hxnl⟩:∃ x,x = bs[i].2.length:=⟨_,rfl⟩
   rw [← hxnl] at hfi hrl
   simp -implicitDefEqProofs (maxSteps:=1000000) (disch:=omega) only [↓zzP,zzA,zzL,zzB,Nat.reduceSub,reduceIte,reduceCtorEq,Nat.reduceLT,↓reduceIte,Nat.reduceEqDiff,Nat.reduceLeDiff,Nat.reduceAdd,↓gd,↓opP,↓qv,↓ef,↓stS,slot,putS,putO,idxA,rdF,Ent.row,ldS,sz,wrF,binH,binS2,binS,stor,g1,hr1,hfi]
   repeat (refine ⟨by omega,?_⟩)
   have hEm:Ext (fun _=>False) h (H++[Chunk.cells true [.int .i64 xk,.int .i64 xf,.int .i64 xv,.int .i64 xs,.fam 32 1 fun i=>.int .u8 (nat (xd i)),.osl xkb 0 0 1 xnb,.osl xkbs 0 0 1 xnbs,.osl xkp 0 0 73 xnp,.osl xkq 0 0 74 xnq,.int .i64 xkey,.fam 32 1 fun i=>.int .u8 (nat (xof i)),.osl xkl 0 0 73 xnl]]):=hE.app _
   have hrowm:lookH (H++[Chunk.cells true [.int .i64 xk,.int .i64 xf,.int .i64 xv,.int .i64 xs,.fam 32 1 fun i=>.int .u8 (nat (xd i)),.osl xkb 0 0 1 xnb,.osl xkbs 0 0 1 xnbs,.osl xkp 0 0 73 xnp,.osl xkq 0 0 74 xnq,.int .i64 xkey,.fam 32 1 fun i=>.int .u8 (nat (xof i)),.osl xkl 0 0 73 xnl]]) m = .row true D.length 1 (fun i=>.int .u8 (nat (D.getD i 0))):=by rw [lookH_at _ (lookH_lt hrow (by simp))]; exact hrow
   refine c112 D m true bs[i] hIH.1 hIH.2 _ xkl xnl wl fl _ (hM.ext hEm) hxnl (hEm.look hrl (by simp) fun h=>h) (hls.ext hEm) hrowm (by omega) _ ?_
   intro H2 m2 hE2 hm2 hrow2
   obtain ⟨D2,hD2⟩:∃ D2,D2 = D++encP bs[i]:=⟨_,rfl⟩
   rw [← hD2] at hrow2 hD ⊢
   have hE3:=hEm.trans hE2
   have hl3:=hEm.1
   simp -implicitDefEqProofs (maxSteps:=1000000) (disch:=omega) only [↓zzP,zzA,reduceIte,Nat.reduceLT,↓reduceIte,Nat.reduceEqDiff,↓gd,↓opP,↓qv,slot,putS,putO,ofV,binH,binS2,binS,a1]
   repeat (refine ⟨by omega,?_⟩)
   exact into_keep [(2,.fn (.func 112) [] []),(6,.v (.slice none 0 0)),(7,.osl m2 0 0 1 D2.length),(19,.osl kr 0 0 74 bs.length),(20,.int .i64 (bs.length:Nat)),(21,.int .i64 (i+1:Nat))] (by simp [sameT,slot,lkL]) fun j=>⟨z - 1,by omega,i+1,D2,H2,m2,j,by omega,hD,hE3,by omega,hrow2,rfl⟩
  ·have g1:decide ((i:Int) < (bs.length:Nat)) = false:=decide_eq_false (by omega)
   have hd:bs.drop i = []:=List.drop_of_length_le (by omega)
   rw [hd,List.flatMap_nil,List.append_nil] at hD
   subst hD
   simp -implicitDefEqProofs (maxSteps:=1000000) (disch:=omega) only [↓zzP,zzA,zzL,reduceIte,reduceCtorEq,Nat.reduceLT,↓reduceIte,Nat.reduceEqDiff,↓gd,↓opP,↓qv,slot,putS,putO,binH,binS2,binS,g1]
   repeat (refine ⟨by omega,?_⟩)
   exact intoR_refl hhl (hK _ _ hE hm hrow)
end Go.Proofs.Ytgocfglmideobaa
set_option linter.all false
set_option maxRecDepth 40000
namespace Go.Proofs.Ytgocfglmideobaa
open Go Go.Sx
theorem res62:Try.f62.results.toList = [.tmp 2]:=rfl
theorem res51:Try.f51.results.toList = [.tmp 2]:=rfl
def pl62:Nat→Plan
 | 2=>(.q 0 (.q 1 (.q 2 (.q 3 (.q 5 (.q 6 (.q 7 (.e1 4 [2,3] (.e1 8 [3,4,6,7] (.q 9 .nil))))))))))
 | 3=>(.q 0 (.q 1 (.q 2 (.q 4 (.q 5 (.e1 3 [2] (.e1 6 [2,3,5] (.q 7 .nil))))))))
 | _=>.nil
def pl51:Nat→Plan
 | 1=>(.q 0 (.q 2 (.q 3 (.q 4 (.q 6 (.q 7 (.q 8 (.e1 1 [0] (.e1 5 [0,1,4] (.e1 9 [1,4,5,8] (.q 10 .nil)))))))))))
 | _=>.nil
theorem encL_flat:∀ l:List Msg,encL l = l.flatMap fun m=>putB (enc m)
 | []=>by rw [encL]; rfl
 | m :: l=>by rw [encL,List.flatMap_cons,encL_flat l]; rfl
theorem encQ_flat:∀ q:List (Msg × List Msg),encQ q = q.flatMap encP
 | []=>by rw [encQ]; rfl
 | (m,l) :: r=>by
  rw [encQ,List.flatMap_cons,encQ_flat r,encL_flat]
  unfold encP enc
  simp only [List.append_assoc]
theorem wrap8 (n:Int):IntKind.u8.wrap n = nat (BitVec.ofInt 8 n):=by
 rw [wrapU rfl]
 simp only [nat,BitVec.toNat_ofInt]
 have:(0:Int)≤n % 2 ^ 8:=Int.emod_nonneg _ (by decide)
 rw [show ((2 ^ 8:Nat):Int) = 2 ^ 8 from rfl,Int.toNat_of_nonneg this]
 rfl
theorem d32_len (d:Nat→By):(d32 d).length = 32:=by unfold d32; simp
theorem d32_get (d:Nat→By) {i:Nat} (hi:i < 32):(d32 d).getD i 0 = d i:=by unfold d32; simp [hi]
theorem body_eq (k f v s:Int) (d:Nat→By) (b:List By) (bs:List (List By)) (p:List Msg) (q:List (Msg × List Msg)) (key:Int) (of:Nat→By):body (.mk k f v s d b bs p q key of) =
  [BitVec.ofInt 8 k]++leb (zig f)++leb (u64n v)++leb (u64n s)++d32 d++putB b++(leb bs.length++bs.flatMap putB)++(leb p.length++p.flatMap fun m=>putB (enc m))++(leb q.length++q.flatMap encP):=by
 rw [body,encL_flat,encQ_flat]
 simp only [List.append_assoc]
abbrev BodyAt (F:FuncId) (m:Msg):Prop:=∀ (l:List SV) (h:List Chunk),MsgH h m l→(body m).length≤17592186044416→∀ (K:Tok→SV→List Chunk→Prop),Out (fun _=>False) h (body m) K→callP Try.prog F [.agg l] h K
set_option maxHeartbeats 8000000 in
theorem c62S (k f v s:Int) (d:Nat→By) (b:List By) (bs:List (List By)) (p:List Msg) (q:List (Msg × List Msg)) (key:Int) (of:Nat→By) (hf:rng f) (IP:∀ m ∈ p,EncAt 51 m) (IQ:∀ x ∈ q,EncAt 51 x.1∧∀ m ∈ x.2,EncAt 51 m):BodyAt 62 (.mk k f v s d b bs p q key of):=by
 intro l h hm0 hlen K hK
 rw [body_eq] at hK hlen
 rw [MsgH] at hm0
 obtain ⟨sb,sbs,kp,wp,fp,kq,wq,fq,hl,h1,h2,h3,h4,h5,h6⟩:=hm0
 obtain ⟨kb,wb,rfl,hkb⟩:=h1
 obtain ⟨kbs,wbs,fb,rfl,hkbs,hfb⟩:=h2
 unfold dig32 at hl
 subst hl
 obtain ⟨HB,hHB⟩:∃ HB:List By→List Chunk→Nat→Prop,∀ D H m,HB D H m ↔ (Ext (fun _=>False) h H∧lookH H h.length = (Chunk.cells true [.int .i64 k,.int .i64 f,.int .i64 v,.int .i64 s,.fam 32 1 fun i=>.int .u8 (nat (d i)),.osl kb 0 0 1 b.length,.osl kbs 0 0 1 bs.length,.osl kp 0 0 73 p.length,.osl kq 0 0 74 q.length,.int .i64 key,.fam 32 1 fun i=>.int .u8 (nat (of i))])∧h.length≤m∧lookH H m = .row true D.length 1 (fun i=>.int .u8 (nat (D.getD i 0)))):=⟨_,fun _ _ _=>Iff.rfl⟩
 obtain ⟨D1,hD1⟩:∃ D,D = [BitVec.ofInt 8 k]++leb (zig f):=⟨_,rfl⟩
 obtain ⟨D2,hD2⟩:∃ D,D = D1++leb (u64n v)++leb (u64n s):=⟨_,rfl⟩
 obtain ⟨D3,hD3⟩:∃ D,D = D2++d32 d++putB b:=⟨_,rfl⟩
 obtain ⟨D4,hD4⟩:∃ D,D = D3++(leb bs.length++bs.flatMap putB):=⟨_,rfl⟩
 obtain ⟨D5,hD5⟩:∃ D,D = D4++(leb p.length++p.flatMap fun m=>putB (enc m)):=⟨_,rfl⟩
 obtain ⟨D6,hD6⟩:∃ D,D = D5++(leb q.length++q.flatMap encP):=⟨_,rfl⟩
 rw [← hD1,← hD2,← hD3,← hD4,← hD5,← hD6] at hK hlen
 have l6:=congrArg List.length hD6
 have l5:=congrArg List.length hD5
 have l4:=congrArg List.length hD4
 have l3:=congrArg List.length hD3
 have l2:=congrArg List.length hD2
 rw [List.length_append] at l6 l5 l4
 rw [List.length_append,List.length_append,d32_len] at l3
 rw [List.length_append,List.length_append] at l2
 refine callP_of_code tabOk Try.func62 (by kernel_rfl) rfl (Nat.le_of_ble_eq_true rfl) ?_
 rw [Try.ntmps62]
 refine codeP_seq (pl:=pl62) tabOk follows_mixed (by kernel_rfl) _ ?_ (fun s h=>h)
 simp -implicitDefEqProofs (maxSteps:=1000000) (disch:=omega) only [↓zzP,zzA,zzL,zzB,reduceIte,Nat.reduceLT,↓reduceIte,↓gd,↓opP,↓qv,↓ef,slot,putS,putO,ofV,tupS,stor,res62]
 repeat (refine ⟨by omega,?_⟩)
 refine into_refl ?_
 refine codeP_seq (pl:=pl62) tabOk follows_mixed (by kernel_rfl) (fun st=>∃ (H:List Chunk) (m:Nat) (j:Nat→Value),HB D1 H m∧st = ⟨⟨39,[(1,.ptr h.length 0),(2,.v (.slice none 0 0)),(3,.osl m 0 0 1 D1.length)],j⟩,H,[]⟩) ?_ ?_
 ·simp -implicitDefEqProofs (maxSteps:=1000000) (disch:=omega) only [↓zzP,zzA,zzL,zzB,reduceIte,reduceCtorEq,Nat.reduceLT,↓reduceIte,Nat.reduceEqDiff,Nat.reduceLeDiff,↓gd,↓opP,↓qv,↓ef,↓bslS,slot,putS,putO,convS,fldA,rdF,Ent.row,ldS,sz,stor,wrap8]
  repeat (refine ⟨by omega,?_⟩)
  refine callP_simL (sim_two (c':=.row true [BitVec.ofInt 8 k].length 1 fun i=>.int .u8 (nat ([BitVec.ofInt 8 k].getD i 0))) (chSim_row rfl fun i hi=>by obtain rfl:i = 0:=(by omega); rfl)) ?_
  refine c101 [BitVec.ofInt 8 k] (h.length+1) true f hf _ (lookH_app _ 1 _) (by simp) _ ?_
  rw [← hD1]
  intro H m hE hm hrow
  have hE1:Ext (fun _=>False) h H:=((Ext.refl _ _).app _).trans hE
  have hx:lookH H h.length = Chunk.cells true [.int .i64 k,.int .i64 f,.int .i64 v,.int .i64 s,.fam 32 1 fun i=>.int .u8 (nat (d i)),.osl kb 0 0 1 b.length,.osl kbs 0 0 1 bs.length,.osl kp 0 0 73 p.length,.osl kq 0 0 74 q.length,.int .i64 key,.fam 32 1 fun i=>.int .u8 (nat (of i))]:=hE.look (lookH_app _ 0 _) (by simp) fun h=>h
  have hhl:=hE1.1
  have hm2:h.length≤m:=by rw [List.length_append] at hm; omega
  simp -implicitDefEqProofs (maxSteps:=1000000) (disch:=omega) only [↓zzP,zzA,reduceIte,Nat.reduceLT,↓reduceIte,↓gd,↓opP,↓qv,slot,putS,putO]
  repeat (refine ⟨by omega,?_⟩)
  exact into_keep [(1,.ptr h.length 0),(2,.v (.slice none 0 0)),(3,.osl m 0 0 1 D1.length)] (by simp [sameT,slot,lkL]) fun j=>⟨H,m,j,(hHB _ _ _).2 ⟨hE1,hx,hm2,hrow⟩,rfl⟩
 rintro _ ⟨H,m,j,hhb,rfl⟩
 obtain ⟨hE,hx,hm,hrow⟩:=(hHB _ _ _).1 hhb
 have hhl:=hE.1
 refine codeP_seq (pl:=pl62) tabOk follows_mixed (by kernel_rfl) (fun st=>∃ (H:List Chunk) (m:Nat) (j:Nat→Value),HB D2 H m∧st = ⟨⟨39,[(1,.ptr h.length 0),(2,.v (.slice none 0 0)),(3,.osl m 0 0 1 D2.length)],j⟩,H,[]⟩) ?_ ?_
 ·have hv:=wrap_ofInt v
  have hs:=wrap_ofInt s
  simp -implicitDefEqProofs (maxSteps:=1000000) (disch:=omega) only [↓zzP,zzA,zzL,zzB,Nat.reduceSub,reduceIte,reduceCtorEq,Nat.reduceLT,↓reduceIte,Nat.reduceEqDiff,Nat.reduceLeDiff,Array.reduceGetElem?,↓gd,↓opP,↓qv,slot,putS,putO,convS,fldA,rdF,Ent.row,ldS,sz,qn,ldN,convN,pl62,hx,hv,hs]
  repeat (refine ⟨by omega,?_⟩)
  refine c106 D1 m true (BitVec.ofInt 64 v) H hrow (by omega) _ ?_
  intro H1 m1 hE1 hm1 hrow1
  refine ⟨hE1.look hx (by simp) fun h=>h,?_⟩
  obtain ⟨Dv,hDv⟩:∃ D,D = D1++leb (BitVec.ofInt 64 v).toNat:=⟨_,rfl⟩
  have lv:=congrArg List.length hDv
  rw [List.length_append] at lv
  rw [← hDv] at hrow1 ⊢
  have hD2':D2 = Dv++leb (BitVec.ofInt 64 s).toNat:=by rw [hD2,hDv]; rfl
  have lv2:D1.length+(leb (BitVec.ofInt 64 v).toNat).length≤D2.length:=by rw [l2]; show _≤_+(leb (BitVec.ofInt 64 v).toNat).length+_; omega
  simp -implicitDefEqProofs (maxSteps:=1000000) (disch:=omega) only [↓zzP,zzA,reduceIte,Nat.reduceLT,↓reduceIte,Nat.reduceEqDiff,Array.reduceGetElem?,↓gd,↓opP,slot,putS,putO]
  repeat (refine ⟨by omega,?_⟩)
  refine c106 Dv m1 true (BitVec.ofInt 64 s) H1 hrow1 (by omega) _ ?_
  rw [← hD2']
  intro H2 m2 hE2 hm2 hrow2
  have hE3:=hE1.trans hE2
  have hE4:=hE.trans hE3
  have hx2:=hE3.look hx (by simp) fun h=>h
  have hm3:h.length≤m2:=by have:=hE1.1; omega
  simp -implicitDefEqProofs (maxSteps:=1000000) (disch:=omega) only [↓zzP,zzA,reduceIte,Nat.reduceLT,↓reduceIte,Array.reduceGetElem?,↓gd,↓qv,slot,putS,putO]
  repeat (refine ⟨by omega,?_⟩)
  refine ⟨hE2.2 _ (lookH_lt (hE1.look hx (by simp) fun h=>h) (by simp)) fun h=>h,?_⟩
  exact into_keep [(1,.ptr h.length 0),(2,.v (.slice none 0 0)),(3,.osl m2 0 0 1 D2.length)] (by simp [sameT,slot,lkL]) fun j=>⟨H2,m2,j,(hHB _ _ _).2 ⟨hE4,hx2,hm3,hrow2⟩,rfl⟩
 rintro _ ⟨H,m,j,hhb,rfl⟩
 obtain ⟨hE,hx,hm,hrow⟩:=(hHB _ _ _).1 hhb
 have hhl:=hE.1
 refine codeP_seq (pl:=pl62) tabOk follows_mixed (by kernel_rfl) (fun st=>∃ (H:List Chunk) (m:Nat) (j:Nat→Value),HB D3 H m∧st = ⟨⟨39,[(1,.ptr h.length 0),(2,.v (.slice none 0 0)),(3,.osl m 0 0 1 D3.length)],j⟩,H,[]⟩) ?_ ?_
 ·simp -implicitDefEqProofs (maxSteps:=1000000) (disch:=omega) only [↓zzP,zzA,zzL,zzB,Nat.reduceSub,reduceIte,reduceCtorEq,Nat.reduceLT,Int.reduceLE,↓reduceIte,Nat.reduceEqDiff,Nat.reduceLeDiff,Int.reduceToNat,Array.reduceGetElem?,↓gd,↓opP,↓qv,↓ef,↓appS,slot,putS,putO,fldA,oslN,bnd,slS,rdF,Ent.row,ldS,sz,srcS,qn,ldN,notInt,pl62,hx,hrow]
  repeat (refine ⟨by omega,?_⟩)
  have hEp:∀ c,Ext (fun _=>False) h (putH H m .none++[c]):=fun c=>(hE.put _ (.inr hm)).app _
  have hxm:h.length ≠ m:=fun e=>by rw [← e,hx] at hrow; cases hrow
  have hxl:=lookH_lt hx (by simp)
  refine ⟨by rw [lookH_at _ (by rw [putH_len]; exact hxl),lookH_put_ne _ hxm]; exact hx,?_⟩
  have hl:D2.length+32 = (D2++d32 d).length:=by rw [List.length_append,d32_len]
  refine callP_simL (row_sim hl fun i hi=>?_) ?_
  ·rw [← app_byte]
   by_cases c:i < D2.length
   ·rw [if_pos c,if_pos c]
   ·rw [if_neg c,if_neg c,d32_get _ (by omega)]
  have hxc:lookH (putH H m .none++[.row true (D2++d32 d).length 1 fun i=>.int .u8 (nat ((D2++d32 d).getD i 0))]) h.length = Chunk.cells true [.int .i64 k,.int .i64 f,.int .i64 v,.int .i64 s,.fam 32 1 fun i=>.int .u8 (nat (d i)),.osl kb 0 0 1 b.length,.osl kbs 0 0 1 bs.length,.osl kp 0 0 73 p.length,.osl kq 0 0 74 q.length,.int .i64 key,.fam 32 1 fun i=>.int .u8 (nat (of i))]:=by rw [lookH_at _ (by rw [putH_len]; exact hxl),lookH_put_ne _ hxm]; exact hx
  rw [hl]
  refine c107 (D2++d32 d) b H.length kb true wb _ (lookH_last (by simp [putH_len])) ((hEp _).look hkb (by simp) fun h=>h) (by rw [List.length_append,d32_len]; have:b.length≤(putB b).length:=(by unfold putB; rw [List.length_append]; omega); omega) _ ?_
  rw [← hD3]
  intro H2 m2 hE2 hm2 hrow2
  have hE4:=(hEp _).trans hE2
  have hx2:=hE2.look hxc (by simp) fun h=>h
  have hm3:h.length≤m2:=by rw [List.length_append,putH_len] at hm2; omega
  simp -implicitDefEqProofs (maxSteps:=1000000) (disch:=omega) only [↓zzP,zzA,reduceIte,Nat.reduceLT,↓reduceIte,Array.reduceGetElem?,↓gd,↓qv,slot,putS,putO]
  repeat (refine ⟨by omega,?_⟩)
  exact into_keep [(1,.ptr h.length 0),(2,.v (.slice none 0 0)),(3,.osl m2 0 0 1 D3.length)] (by simp [sameT,slot,lkL]) fun j=>⟨H2,m2,j,(hHB _ _ _).2 ⟨hE4,hx2,hm3,hrow2⟩,rfl⟩
 rintro _ ⟨H,m,j,hhb,rfl⟩
 obtain ⟨hE,hx,hm,hrow⟩:=(hHB _ _ _).1 hhb
 have hhl:=hE.1
 refine codeP_seq (pl:=pl62) tabOk follows_mixed (by kernel_rfl) (fun st=>∃ (H:List Chunk) (m:Nat) (j:Nat→Value),HB D4 H m∧st = ⟨⟨39,[(1,.ptr h.length 0),(2,.v (.slice none 0 0)),(3,.osl m 0 0 1 D4.length)],j⟩,H,[]⟩) ?_ ?_
 ·simp -implicitDefEqProofs (maxSteps:=1000000) (disch:=omega) only [↓zzP,zzA,zzL,zzB,Nat.reduceSub,reduceIte,reduceCtorEq,Nat.reduceLT,↓reduceIte,Nat.reduceEqDiff,Nat.reduceLeDiff,↓gd,↓opP,↓qv,slot,putS,putO,fldA,rdF,Ent.row,ldS,sz,hx]
  repeat (refine ⟨by omega,?_⟩)
  refine c108 D3 m true bs kbs wbs fb H (hE.look hkbs (by simp) fun h=>h) (fun i hi=>(hfb i hi).ext hE) hrow (by rw [← hD4]; omega) _ ?_
  rw [← hD4]
  intro H2 m2 hE2 hm2 hrow2
  have hE4:=hE.trans hE2
  have hx2:=hE2.look hx (by simp) fun h=>h
  have hm3:h.length≤m2:=by omega
  simp -implicitDefEqProofs (maxSteps:=1000000) (disch:=omega) only [↓zzP,zzA,reduceIte,Nat.reduceLT,↓reduceIte,↓gd,↓opP,↓qv,slot,putS,putO]
  repeat (refine ⟨by omega,?_⟩)
  exact into_keep [(1,.ptr h.length 0),(2,.v (.slice none 0 0)),(3,.osl m2 0 0 1 D4.length)] (by simp [sameT,slot,lkL]) fun j=>⟨H2,m2,j,(hHB _ _ _).2 ⟨hE4,hx2,hm3,hrow2⟩,rfl⟩
 rintro _ ⟨H,m,j,hhb,rfl⟩
 obtain ⟨hE,hx,hm,hrow⟩:=(hHB _ _ _).1 hhb
 have hhl:=hE.1
 refine codeP_seq (pl:=pl62) tabOk follows_mixed (by kernel_rfl) (fun st=>∃ (H:List Chunk) (m:Nat) (j:Nat→Value),HB D5 H m∧st = ⟨⟨39,[(1,.ptr h.length 0),(2,.v (.slice none 0 0)),(3,.osl m 0 0 1 D5.length)],j⟩,H,[]⟩) ?_ ?_
 ·simp -implicitDefEqProofs (maxSteps:=1000000) (disch:=omega) only [↓zzP,zzA,zzL,zzB,Nat.reduceSub,reduceIte,reduceCtorEq,Nat.reduceLT,↓reduceIte,Nat.reduceEqDiff,Nat.reduceLeDiff,↓gd,↓opP,↓qv,slot,putS,putO,fldA,rdF,Ent.row,ldS,sz,hx]
  repeat (refine ⟨by omega,?_⟩)
  refine c109 D4 m true p kp wp fp H (hE.look h3 (by simp) fun h=>h) (h4.ext hE) IP hrow (by rw [← hD5]; omega) _ ?_
  rw [← hD5]
  intro H2 m2 hE2 hm2 hrow2
  have hE4:=hE.trans hE2
  have hx2:=hE2.look hx (by simp) fun h=>h
  have hm3:h.length≤m2:=by omega
  simp -implicitDefEqProofs (maxSteps:=1000000) (disch:=omega) only [↓zzP,zzA,reduceIte,Nat.reduceLT,↓reduceIte,↓gd,↓opP,↓qv,slot,putS,putO]
  repeat (refine ⟨by omega,?_⟩)
  exact into_keep [(1,.ptr h.length 0),(2,.v (.slice none 0 0)),(3,.osl m2 0 0 1 D5.length)] (by simp [sameT,slot,lkL]) fun j=>⟨H2,m2,j,(hHB _ _ _).2 ⟨hE4,hx2,hm3,hrow2⟩,rfl⟩
 rintro _ ⟨H,m,j,hhb,rfl⟩
 obtain ⟨hE,hx,hm,hrow⟩:=(hHB _ _ _).1 hhb
 have hhl:=hE.1
 refine codeP_of_vc (pl:=pl62) tabOk follows_mixed (by kernel_rfl) ?_
 simp -implicitDefEqProofs (maxSteps:=1000000) (disch:=omega) only [↓zzP,zzA,zzL,zzB,Nat.reduceSub,reduceIte,reduceCtorEq,Nat.reduceLT,↓reduceIte,Nat.reduceEqDiff,Nat.reduceLeDiff,↓gd,↓opP,↓qv,slot,putS,putO,fldA,rdF,Ent.row,ldS,sz,hx]
 repeat (refine ⟨by omega,?_⟩)
 refine c111 D5 m true q kq wq fq H (hE.look h5 (by simp) fun h=>h) (h6.ext hE) IQ hrow (by rw [← hD6]; omega) _ ?_
 rw [← hD6]
 intro H2 m2 hE2 hm2 hrow2
 have hE4:=hE.trans hE2
 have hl4:=hE4.1
 simp -implicitDefEqProofs (maxSteps:=1000000) (disch:=omega) only [↓zzP,zzA,reduceIte,Nat.reduceLT,↓reduceIte,↓gd,↓opP,↓qv,slot,putS,putO]
 repeat (refine ⟨by omega,?_⟩)
 exact intoR_refl hl4 (hK _ _ hE4 (by omega) hrow2)
set_option maxHeartbeats 4000000 in
theorem c51S (m:Msg) (hB:BodyAt 62 m) (hkey:rng m.key):EncAt 51 m:=by
 intro l h hm hlen K hK
 have hm0:=hm
 obtain ⟨k,f,v,s,d,b,bs,p,q,key,of⟩:=m
 obtain ⟨C,hC⟩:∃ C,C = body (.mk k f v s d b bs p q key of):=⟨_,rfl⟩
 have hEC:enc (.mk k f v s d b bs p q key of) = C++leb (zig key)++d32 of:=by unfold enc; rw [← hC]; rfl
 rw [hEC] at hlen hK
 rw [List.length_append,List.length_append,d32_len] at hlen
 rw [MsgH] at hm
 obtain ⟨sb,sbs,kp,wp,fp,kq,wq,fq,hl,h1,h2,h3,h4,h5,h6⟩:=hm
 obtain ⟨kb,wb,rfl,hkb⟩:=h1
 obtain ⟨kbs,wbs,fb,rfl,hkbs,hfb⟩:=h2
 unfold dig32 at hl
 subst hl
 replace hkey:rng key:=hkey
 refine callP_of_code tabOk Try.func51 (by kernel_rfl) rfl (Nat.le_of_ble_eq_true rfl) (codeP_of_vc (pl:=pl51) tabOk follows_mixed (by kernel_rfl) ?_)
 rw [Try.ntmps51]
 simp -implicitDefEqProofs (maxSteps:=1000000) (disch:=omega) only [↓zzP,zzA,zzL,zzB,Nat.reduceSub,reduceIte,reduceCtorEq,Nat.reduceLT,Int.reduceLE,↓reduceIte,Nat.reduceEqDiff,Nat.reduceLeDiff,Nat.reduceAdd,Int.reduceToNat,Array.reduceGetElem?,↓gd,↓opP,↓qv,↓ef,slot,putS,putO,ofV,fldA,oslN,bnd,slS,rdF,Ent.row,ldS,sz,tupS,stor,qn,ldN,res51,pl51]
 repeat (refine ⟨by omega,?_⟩)
 have hE0:Ext (fun _=>False) h (h++[Chunk.cells true [.int .i64 k,.int .i64 f,.int .i64 v,.int .i64 s,.fam 32 1 fun i=>.int .u8 (nat (d i)),.osl kb 0 0 1 b.length,.osl kbs 0 0 1 bs.length,.osl kp 0 0 73 p.length,.osl kq 0 0 74 q.length,.int .i64 key,.fam 32 1 fun i=>.int .u8 (nat (of i))]]):=(Ext.refl _ _).app _
 refine hB _ _ (hm0.ext hE0) (by rw [← hC]; omega) _ ?_
 rw [← hC]
 intro H m hE hm hrow
 have hx:lookH H h.length = Chunk.cells true [.int .i64 k,.int .i64 f,.int .i64 v,.int .i64 s,.fam 32 1 fun i=>.int .u8 (nat (d i)),.osl kb 0 0 1 b.length,.osl kbs 0 0 1 bs.length,.osl kp 0 0 73 p.length,.osl kq 0 0 74 q.length,.int .i64 key,.fam 32 1 fun i=>.int .u8 (nat (of i))]:=hE.look (lookH_end _ _) (by simp) fun h=>h
 simp -implicitDefEqProofs (maxSteps:=1000000) (disch:=omega) only [↓zzP,zzA,reduceIte,reduceCtorEq,Nat.reduceLT,↓reduceIte,Nat.reduceEqDiff,Array.reduceGetElem?,↓gd,↓opP,slot,putS,putO,hx]
 repeat (refine ⟨by omega,?_⟩)
 refine c101 C m true key hkey H hrow (by omega) _ ?_
 intro H2 m2 hE2 hm2 hrow2
 have hx2:=hE2.look hx (by simp) fun h=>h
 obtain ⟨D,hD⟩:∃ D,D = C++leb (zig key):=⟨_,rfl⟩
 rw [← hD] at hrow2 hK ⊢
 have lD:=congrArg List.length hD
 rw [List.length_append] at lD
 have hE4:=(hE0.trans hE).trans hE2
 have hl4:=hE4.1
 have hm3:h.length≤m2:=by have:=hE2.1; have:=hE.1; rw [List.length_append] at this; omega
 simp -implicitDefEqProofs (maxSteps:=1000000) (disch:=omega) only [↓zzP,zzA,Nat.reduceSub,reduceIte,reduceCtorEq,Nat.reduceLT,↓reduceIte,Nat.reduceEqDiff,Nat.reduceLeDiff,Array.reduceGetElem?,↓gd,↓opP,↓qv,↓ef,↓appS,slot,putS,putO,sz,srcS,notInt,hx2,hrow2]
 repeat (refine ⟨by omega,?_⟩)
 have hxm:h.length ≠ m2:=fun e=>by rw [← e,hx2] at hrow2; cases hrow2
 have hxl:=lookH_lt hx2 (by simp)
 refine ⟨by rw [lookH_at _ (by rw [putH_len]; exact hxl),lookH_put_ne _ hxm]; exact hx2,?_⟩
 have hl:D.length+32 = (D++d32 of).length:=by rw [List.length_append,d32_len]
 refine intoR_sim (row_sim hl fun i hi=>?_) ?_
 ·rw [← app_byte]
  by_cases c:i < D.length
  ·rw [if_pos c,if_pos c]
  ·rw [if_neg c,if_neg c,d32_get _ (by omega)]
 rw [hl]
 exact intoR_refl (by simp [putH_len]; omega) (hK _ _ ((hE4.put _ (.inr hm3)).app _) (by omega) (lookH_last (by simp [putH_len])))
mutual
theorem c51:∀ m:Msg,wfM m→EncAt 51 m
 | .mk k f v s d b bs p q key of,h=>by
  rw [wfM] at h
  exact c51S _ (c62S k f v s d b bs p q key of h.2.1 (c51L p h.2.2.2.2.2.1) (c51Q q h.2.2.2.2.2.2)) h.2.2.2.2.1
theorem c51L:∀ p:List Msg,wfL p→∀ m ∈ p,EncAt 51 m
 | [],h,m,hm=>by cases hm
 | a :: l,h,m,hm=>by
  rw [wfL] at h
  exact (List.mem_cons.1 hm).elim (fun e=>e ▸ c51 a h.1) (c51L l h.2 m)
theorem c51Q:∀ q:List (Msg × List Msg),wfQ q→∀ x ∈ q,EncAt 51 x.1∧∀ m ∈ x.2,EncAt 51 m
 | [],h,x,hx=>by cases hx
 | (a,l) :: r,h,x,hx=>by
  rw [wfQ] at h
  exact (List.mem_cons.1 hx).elim (fun e=>e ▸ ⟨c51 a h.1.1,c51L l h.1.2⟩) (c51Q r h.2 x)
end
theorem c62 (m:Msg) (h:wfM m):BodyAt 62 m:=by
 obtain ⟨k,f,v,s,d,b,bs,p,q,key,of⟩:=m
 rw [wfM] at h
 exact c62S k f v s d b bs p q key of h.2.1 (c51L p h.2.2.2.2.2.1) (c51Q q h.2.2.2.2.2.2)
end Go.Proofs.Ytgocfglmideobaa
set_option linter.all false
set_option maxRecDepth 40000
namespace Go.Proofs.Ytgocfglmideobaa
open Go Go.Sx
end Go.Proofs.Ytgocfglmideobaa
