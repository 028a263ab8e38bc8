/- Texts put together: Contracts of functions that the laws reach, by the symbolic executor of the texts Sxa to Sxt. No condition. -/
import Derived.Test.YtgocfglmideobaaMf
import Derived.Test.YtgocfglmideobaaMc
import Derived.Test.YtgocfglmideobaaMe
set_option linter.all false
set_option maxRecDepth 40000
namespace Go.Proofs.Ytgocfglmideobaa.S
open Go Go.Sx
theorem famEq_refl (m:Nat) (f:Nat→SV):famEq m f f = true:=decide_eq_true fun _ _=>rfl
theorem c20F (m len:Nat) (B:Nat→BitVec 8) (f:Nat→SV) (hf:∀ i,i < m→f i = .int .u8 (nat (B i))) (hm:len≤m) (hl:len≤70368744177664) {h:List Chunk} {nm:Nat} (wr:Bool) (hh:lookH h nm = .row wr m 1 f) (hnm:nm < h.length) (F:Nat→SV) (hF:(fun i=>SV.int .u8 (nat (shaD len B i))) = F) (K:Tok→SV→List Chunk→Prop)
  (hK:K .mk (.fam 32 1 F) h):callP Try.prog 116 [.osl nm 0 0 1 len] h K:=c20' m len B f hf hm hl wr hh hnm K (hF ▸ hK)
end Go.Proofs.Ytgocfglmideobaa.S
set_option linter.all false
set_option maxRecDepth 40000
namespace Go.Proofs.Ytgocfglmideobaa.S
open Go Go.Sx
def keyB (key:Int) (j:Nat):BitVec 8:=((BitVec.ofInt 64 key) >>> (8 * (7 - j))).setWidth 8
def sigH (key:Int) (i:Nat):BitVec 8:=if i = 0 then 4 else keyB key (i - 1)
def sigT (key:Int) (B:Nat→BitVec 8) (i:Nat):BitVec 8:=if i < 9 then sigH key i else B (i - 9)
theorem wrap_key (key:Int):IntKind.u64.wrap key = nat (BitVec.ofInt 64 key):=by
 rw [wrapU rfl]
 simp only [nat,BitVec.toNat_ofInt]
 rw [show (2:Int) ^ IntKind.u64.bits = ((2 ^ 64:Nat):Int) from rfl]
 omega
theorem res25:Try.f99.results.toList = [.cell 4 29]:=rfl
set_option maxHeartbeats 4000000 in
theorem c25l (key:Int) (m len:Nat) (B:Nat→BitVec 8) (hm:len≤m) (hl:len≤70368744177000) (K:Tok→SV→List Chunk→Prop)
  (hK:K .mk (.agg [.int .i64 key,.fam 32 1 fun i=>.int .u8 (nat (shaD (9+len) (sigT key B) i))]) [.row false m 1 fun i=>.int .u8 (nat (B i))]) :
  callP Try.prog 99 [.int .i64 key,.osl 0 0 0 1 len] [.row false m 1 fun i=>.int .u8 (nat (B i))] K:=by
 refine callP_of_code tabOk Try.func99 (by kernel_rfl) rfl (Nat.le_of_ble_eq_true rfl) (codeP_of_vc (pl:=np) tabOk follows_mixed (by kernel_rfl) ?_)
 rw [Try.ntmps99]
 have f0:=wrap_key key
 simp -implicitDefEqProofs (maxSteps:=1000000) (disch:=omega) only [↓zzP,zzA,zzL,reduceIte,reduceCtorEq,Nat.reduceLT,↓reduceIte,Nat.reduceLeDiff,Nat.reduceAdd,↓gd,↓opP,↓qv,↓ef,↓bslS,slot,putS,putO,ofV,parts,asRow,rdF,Ent.row,ldS,sz,tupS,stor,res25]
 refine codeP_loop (pl:=np) tabOk follows_mixed (by kernel_rfl) (fun k' s=>∃ (k:Nat) (j:Nat→Value),k+k' = 8∧s = ⟨⟨27,[(0,.int .i64 key),(1,.osl 0 0 0 1 len),(4,.ptr 1 0),(5,.osl 2 0 0 1 (1+k)),(6,.int .i64 (7 - (k:Nat)))],j⟩,[.row false m 1 fun i=>.int .u8 (nat (B i)),.cells true [.int .i64 0,.fam 32 1 fun _=>.int .u8 0],.row true (1+k) 1 fun i=>.int .u8 (nat (sigH key i))],[]⟩) ?_ ?_
 ·refine into_mk [some 0,some 1,some 2] [(0,.int .i64 key),(1,.osl 0 0 0 1 len),(4,.ptr 1 0),(5,.osl 2 0 0 1 (1+0)),(6,.int .i64 (7 - (0:Nat)))] [.row false m 1 fun i=>.int .u8 (nat (B i)),.cells true [.int .i64 0,.fam 32 1 fun _=>.int .u8 0],.row true (1+0) 1 fun i=>.int .u8 (nat (sigH key i))] ?_ ?_ ?_ ?_ ?_ ?_ ?_ ?_
  ·simp [slot,lkL,fixed,rg,renH,chEq,lookH,eqvL,eqv,eqvF,rnmL,rnm,liveN,Chunk.live,goodH,Chunk.good,okL,ok,sz,szL,storL,stor,renT,okT]
  ·simp [slot,lkL,fixed,rg,renH,chEq,lookH,eqvL,eqv,eqvF,rnmL,rnm,liveN,Chunk.live,goodH,Chunk.good,okL,ok,sz,szL,storL,stor,renT,okT]
  ·simp [slot,lkL,fixed,rg,renH,chEq,lookH,eqvL,eqv,eqvF,rnmL,rnm,liveN,Chunk.live,goodH,Chunk.good,okL,ok,sz,szL,storL,stor,renT,okT,sigH,Sx.look,nat]
  ·simp [slot,lkL,fixed,rg,renH,chEq,lookH,eqvL,eqv,eqvF,rnmL,rnm,liveN,Chunk.live,goodH,Chunk.good,okL,ok,sz,szL,storL,stor,renT,okT]
  ·simp [slot,lkL,fixed,rg,renH,chEq,lookH,eqvL,eqv,eqvF,rnmL,rnm,liveN,Chunk.live,goodH,Chunk.good,okL,ok,sz,szL,storL,stor,renT,okT]
  ·simp [slot,lkL,fixed,rg,renH,chEq,lookH,eqvL,eqv,eqvF,rnmL,rnm,liveN,Chunk.live,goodH,Chunk.good,okL,ok,sz,szL,storL,stor,renT,okT]
  ·simp [slot,lkL,fixed,rg,renH,chEq,lookH,eqvL,eqv,eqvF,rnmL,rnm,liveN,Chunk.live,goodH,Chunk.good,okL,ok,sz,szL,storL,stor,renT,okT]
  ·intro j
   exact ⟨8,0,j,by omega,rfl⟩
 ·rintro k' s ⟨k,j,hk,rfl⟩
  by_cases hk8:k = 8
  ·subst hk8
   have f3:(decide ((7 - ((8:Nat):Int)) ≥ 0)) = false:=by decide
   simp -implicitDefEqProofs (maxSteps:=1000000) (disch:=omega) only [↓zzP,zzA,zzL,reduceIte,reduceCtorEq,Nat.reduceLT,↓reduceIte,Nat.reduceEqDiff,Nat.reduceAdd,↓gd,↓opP,↓qv,↓ef,↓appS,slot,putS,putO,ofV,srcS,binH,binS2,binS,notInt,f3]
   have hrow:∀ i,i < 9+len→(if i < 9 then SV.int IntKind.u8 (nat (sigH key i)) else SV.int IntKind.u8 (nat (B (i - 9)))) = .int .u8 (nat (sigT key B i)):=fun i _=>by
    simp only [sigT]
    split <;> rfl
   obtain ⟨F,hF⟩:∃ F:Nat→SV,(fun i=>SV.int .u8 (nat (shaD (9+len) (sigT key B) i))) = F:=⟨_,rfl⟩
   have hF':∀ i,F i = .int .u8 (nat (shaD (9+len) (sigT key B) i)):=fun i=>by rw [← hF]
   rw [hF] at hK
   refine ⟨⟨hm,by omega,by omega⟩,c20F (9+len) (9+len) (sigT key B) _ hrow (by omega) (by omega) true rfl (by simp) F hF _ ?_⟩
   simp -implicitDefEqProofs (maxSteps:=1000000) (disch:=omega) only [↓zzP,zzA,zzL,Nat.reduceSub,reduceIte,reduceCtorEq,Nat.reduceLT,↓reduceIte,Nat.reduceEqDiff,Nat.reduceLeDiff,Nat.reduceAdd,↓gd,↓opP,↓qv,↓ef,↓stS,slot,putS,putO,parts,sz,wrF,plT,bldS,stor,hF']
   exact intoR_take [.row false m 1 fun i=>.int .u8 (nat (B i))] rfl rfl (by simp [slot,lkL,fixed,rg,renH,chEq,lookH,eqvL,eqv,eqvF,rnmL,rnm,liveN,Chunk.live,goodH,Chunk.good,okL,ok,sz,szL,storL,stor,renT,okT]) (by simp [slot,lkL,fixed,rg,renH,chEq,lookH,eqvL,eqv,eqvF,rnmL,rnm,liveN,Chunk.live,goodH,Chunk.good,okL,ok,sz,szL,storL,stor,renT,okT,hF']) hK
  ·have f1':IntKind.i64.wrap (8 * (7 - (k:Int))) = ((8 * (7 - k):Nat):Int):=by rw [wrap64 (by omega) (by omega)]; omega
   have f2:IntKind.i64.wrap ((7 - (k:Int)) - 1) = 7 - ((k+1:Nat):Int):=by rw [wrap64 (by omega) (by omega)]; omega
   have f3:(decide ((7 - (k:Int)) ≥ 0)) = true:=by simp; omega
   have f5:=shr64 (BitVec.ofInt 64 key) (8 * (7 - k)) (by omega)
   simp -implicitDefEqProofs (maxSteps:=1000000) (disch:=omega) only [↓zzP,zzA,zzL,reduceIte,reduceCtorEq,Nat.reduceLT,↓reduceIte,Nat.reduceEqDiff,Nat.reduceLeDiff,Nat.reduceAdd,↓gd,↓opP,↓qv,↓ef,↓bslS,↓appS,slot,putS,putO,ofV,convS,sz,srcS,binH,binS2,binS,stor,notInt,f0,f1',f2,f3,f5]
   and_intros <;> try omega
   refine into_mk [some 0,some 1,some 4] [(0,.int .i64 key),(1,.osl 0 0 0 1 len),(4,.ptr 1 0),(5,.osl 2 0 0 1 (1+(k+1))),(6,.int .i64 (7 - (k+1:Nat)))] [.row false m 1 fun i=>.int .u8 (nat (B i)),.cells true [.int .i64 0,.fam 32 1 fun _=>.int .u8 0],.row true (1+(k+1)) 1 fun i=>.int .u8 (nat (sigH key i))] ?_ ?_ ?_ ?_ ?_ ?_ ?_ ?_
   ·simp [slot,lkL,fixed,rg,renH,chEq,lookH,eqvL,eqv,eqvF,rnmL,rnm,liveN,Chunk.live,goodH,Chunk.good,okL,ok,sz,szL,storL,stor,renT,okT]
   ·simp [slot,lkL,fixed,rg,renH,chEq,lookH,eqvL,eqv,eqvF,rnmL,rnm,liveN,Chunk.live,goodH,Chunk.good,okL,ok,sz,szL,storL,stor,renT,okT]
   ·simp [slot,lkL,fixed,rg,renH,chEq,lookH,eqvL,eqv,eqvF,rnmL,rnm,liveN,Chunk.live,goodH,Chunk.good,okL,ok,sz,szL,storL,stor,renT,okT]
    refine ⟨by omega,fun i hi=>?_⟩
    by_cases h:i < 1+k
    ·simp [h,eqv]
    ·have h2:i = 1+k:=by omega
     subst h2
     simp [sigH,keyB,eqv,Sx.look]
   ·simp [slot,lkL,fixed,rg,renH,chEq,lookH,eqvL,eqv,eqvF,rnmL,rnm,liveN,Chunk.live,goodH,Chunk.good,okL,ok,sz,szL,storL,stor,renT,okT]
   ·simp [slot,lkL,fixed,rg,renH,chEq,lookH,eqvL,eqv,eqvF,rnmL,rnm,liveN,Chunk.live,goodH,Chunk.good,okL,ok,sz,szL,storL,stor,renT,okT]
   ·simp [slot,lkL,fixed,rg,renH,chEq,lookH,eqvL,eqv,eqvF,rnmL,rnm,liveN,Chunk.live,goodH,Chunk.good,okL,ok,sz,szL,storL,stor,renT,okT]
    try omega
   ·simp [slot,lkL,fixed,rg,renH,chEq,lookH,eqvL,eqv,eqvF,rnmL,rnm,liveN,Chunk.live,goodH,Chunk.good,okL,ok,sz,szL,storL,stor,renT,okT]
   ·intro j
    exact ⟨k' - 1,by omega,k+1,j,by omega,rfl⟩
theorem c25 (key:Int) (m len:Nat) (B:Nat→BitVec 8) (f:Nat→SV) (hf:∀ i,i < m→f i = .int .u8 (nat (B i))) (hm:len≤m) (hl:len≤70368744177000) {h:List Chunk} {nm:Nat} (wr:Bool) (hh:lookH h nm = .row wr m 1 f) (hnm:nm < h.length) (F:Nat→SV) (hF:(fun i=>SV.int .u8 (nat (shaD (9+len) (sigT key B) i))) = F) (K:Tok→SV→List Chunk→Prop)
  (hK:K .mk (.agg [.int .i64 key,.fam 32 1 F]) h):callP Try.prog 99 [.int .i64 key,.osl nm 0 0 1 len] h K:=by
 subst hF
 refine callP_frame (argsL:=[.int .i64 key,.osl 0 0 0 1 len]) (KL:=fun _ v h'=>v = .agg [.int .i64 key,.fam 32 1 fun i=>.int .u8 (nat (shaD (9+len) (sigT key B) i))]∧h' = [.row false m 1 fun i=>.int .u8 (nat (B i))]) [nm] (c25l key m len B hm hl _ ⟨rfl,rfl⟩) ?_ ?_ ?_ ?_ ?_ ?_
 ·simp
 ·simp only [has,hh,chEq,and_true]
  exact ⟨hnm,by simp,trivial,trivial,fun i hi=>by rw [hf i hi]; simp [rnm,eqv]⟩
 ·simp [slot,lkL,fixed,rg,renH,chEq,lookH,eqvL,eqv,eqvF,rnmL,rnm,liveN,Chunk.live,goodH,Chunk.good,okL,ok,sz,szL,storL,stor,renT,okT,has,upG,up,nth,roOk,keepsLive,Chunk.wr,lay,rnmC,putH]
 ·simp [slot,lkL,fixed,rg,renH,chEq,lookH,eqvL,eqv,eqvF,rnmL,rnm,liveN,Chunk.live,goodH,Chunk.good,okL,ok,sz,szL,storL,stor,renT,okT,has,upG,up,nth,roOk,keepsLive,Chunk.wr,lay,rnmC,putH]
 ·simp [slot,lkL,fixed,rg,renH,chEq,lookH,eqvL,eqv,eqvF,rnmL,rnm,liveN,Chunk.live,goodH,Chunk.good,okL,ok,sz,szL,storL,stor,renT,okT,has,upG,up,nth,roOk,keepsLive,Chunk.wr,lay,rnmC,putH]
 ·rintro v h' ⟨rfl,rfl⟩
  refine ⟨by simp [slot,lkL,fixed,rg,renH,chEq,lookH,eqvL,eqv,eqvF,rnmL,rnm,liveN,Chunk.live,goodH,Chunk.good,okL,ok,sz,szL,storL,stor,renT,okT,has,upG,up,nth,roOk,keepsLive,Chunk.wr,lay,rnmC,putH],by simp [slot,lkL,fixed,rg,renH,chEq,lookH,eqvL,eqv,eqvF,rnmL,rnm,liveN,Chunk.live,goodH,Chunk.good,okL,ok,sz,szL,storL,stor,renT,okT,has,upG,up,nth,roOk,keepsLive,Chunk.wr,lay,rnmC,putH],?_⟩
  simpa [rnm,rnmL,lay,Chunk.wr] using hK
end Go.Proofs.Ytgocfglmideobaa.S
set_option linter.all false
set_option maxRecDepth 40000
namespace Go.Proofs.Ytgocfglmideobaa.S
open Go Go.Sx
def pl145:Nat→Plan
 | 1=>(.q 0 (.q 1 (.q 2 (.q 3 (.q 4 (.q 5 (.q 6 (.q 7 (.q 8 (.q 9 (.q 10 (.q 11 (.q 12 (.q 13 (.q 14 (.e1 15 [13] (.q 16 (.q 17 (.q 18 (.q 19 .nil))))))))))))))))))))
 | _=>.nil
def vOk (key n:Int) (E:Bool):Bool:=decide (key ≥ 0) && (decide (key < n) && E)
theorem res27:Try.f145.results.toList = [.tmp 6]:=rfl
set_option maxHeartbeats 4000000 in
theorem c27l (key n:Int) (D:Nat→BitVec 8) (m len:Nat) (B:Nat→BitVec 8) (hm:len≤m) (hl:len≤70368744177000) (K:Tok→SV→List Chunk→Prop)
  (hK:K .mk (.bool (vOk key n (famEq 32 (fun i=>.int .u8 (nat (D i))) (fun i=>.int .u8 (nat (shaD (9+len) (sigT key B) i)))))) [.row false m 1 fun i=>.int .u8 (nat (B i))]) :
  callP Try.prog 145 [.agg [.int .i64 key,.fam 32 1 fun i=>.int .u8 (nat (D i))],.osl 0 0 0 1 len,.int .i64 n] [.row false m 1 fun i=>.int .u8 (nat (B i))] K:=by
 refine callP_of_code tabOk Try.func145 (by kernel_rfl) rfl (Nat.le_of_ble_eq_true rfl) (codeP_of_vc (pl:=pl145) tabOk follows_mixed (by kernel_rfl) ?_)
 rw [Try.ntmps145]
 obtain ⟨F,hF⟩:∃ F:Nat→SV,(fun i=>SV.int .u8 (nat (shaD (9+len) (sigT key B) i))) = F:=⟨_,rfl⟩
 have hF':∀ i,F i = .int .u8 (nat (shaD (9+len) (sigT key B) i)):=fun i=>by rw [← hF]
 rw [hF] at hK
 simp -implicitDefEqProofs (maxSteps:=1000000) (disch:=omega) only [↓zzP,zzA,zzL,reduceIte,reduceCtorEq,Nat.reduceLT,↓reduceIte,Nat.reduceEqDiff,Nat.reduceLeDiff,Nat.reduceAdd,Array.reduceGetElem?,↓gd,↓opP,↓qv,↓ef,slot,putS,putO,ofV,fldA,oslN,parts,asRow,single,rdF,Ent.row,ldS,sz,binH,binS2,binS,tupS,stor,qn,ldN,res27,pl145]
 have leaf:∀ b,b = vOk key n (famEq 32 (fun i=>SV.int IntKind.u8 (nat (D i))) F)→IntoR 1 (SV.bool b)
   [Chunk.row false m 1 fun i=>SV.int IntKind.u8 (nat (B i)),
    Chunk.cells true [SV.int IntKind.i64 key,SV.fam 32 1 fun i=>SV.int IntKind.u8 (nat (D i))]] K:=fun b hb=>by
  subst hb
  exact intoR_take [.row false m 1 fun i=>.int .u8 (nat (B i))] rfl rfl (by simp [slot,lkL,fixed,rg,renH,chEq,lookH,eqvL,eqv,eqvF,rnmL,rnm,liveN,Chunk.live,goodH,Chunk.good,okL,ok,sz,szL,storL,stor,renT,okT]) (by simp [slot,lkL,fixed,rg,renH,chEq,lookH,eqvL,eqv,eqvF,rnmL,rnm,liveN,Chunk.live,goodH,Chunk.good,okL,ok,sz,szL,storL,stor,renT,okT]) hK
 refine ⟨Sx.imp_intro fun hA=>⟨Sx.imp_intro fun hB=>?_,Sx.imp_intro fun hB=>?_⟩,Sx.imp_intro fun hA=>?_⟩
 ·refine c25 key m len B _ (fun i _=>rfl) hm hl false rfl (by simp) F hF _ ?_
  simp -implicitDefEqProofs (maxSteps:=1000000) (disch:=omega) only [↓zzP,zzA,zzL,reduceIte,reduceCtorEq,Nat.reduceLT,↓reduceIte,Nat.reduceEqDiff,Nat.reduceLeDiff,Array.reduceGetElem?,↓gd,↓qv,slot,putS,putO,ofV,fldS,asRow,rdF,Ent.row,sz,binH,binS2,binS,arrS,isI,stor,hF']
  exact leaf _ (by simp only [vOk,hA,hB,Bool.true_and])
 ·exact leaf _ (by simp only [vOk,hA,hB,Bool.true_and,Bool.false_and])
 ·exact leaf _ (by simp only [vOk,hA,Bool.false_and])
theorem c27 (key n:Int) (D:Nat→BitVec 8) (G:Nat→SV) (hG:(fun i=>SV.int .u8 (nat (D i))) = G) (m len:Nat) (B:Nat→BitVec 8) (f:Nat→SV) (hf:∀ i,i < m→f i = .int .u8 (nat (B i))) (hm:len≤m) (hl:len≤70368744177000) {h:List Chunk} {nm:Nat} (wr:Bool) (hh:lookH h nm = .row wr m 1 f) (hnm:nm < h.length) (b:Bool)
  (hb:vOk key n (famEq 32 G (fun i=>.int .u8 (nat (shaD (9+len) (sigT key B) i)))) = b) (K:Tok→SV→List Chunk→Prop) (hK:K .mk (.bool b) h):callP Try.prog 145 [.agg [.int .i64 key,.fam 32 1 G],.osl nm 0 0 1 len,.int .i64 n] h K:=by
 subst hG
 subst hb
 refine callP_frame (argsL:=[.agg [.int .i64 key,.fam 32 1 fun i=>.int .u8 (nat (D i))],.osl 0 0 0 1 len,.int .i64 n]) (KL:=fun _ v h'=>v = .bool (vOk key n (famEq 32 (fun i=>.int .u8 (nat (D i))) (fun i=>.int .u8 (nat (shaD (9+len) (sigT key B) i)))))∧h' = [.row false m 1 fun i=>.int .u8 (nat (B i))]) [nm] (c27l key n D m len B hm hl _ ⟨rfl,rfl⟩) ?_ ?_ ?_ ?_ ?_ ?_
 ·simp
 ·simp only [has,hh,chEq,and_true]
  exact ⟨hnm,by simp,trivial,trivial,fun i hi=>by rw [hf i hi]; simp [rnm,eqv]⟩
 ·simp [slot,lkL,fixed,rg,renH,chEq,lookH,eqvL,eqv,eqvF,rnmL,rnm,liveN,Chunk.live,goodH,Chunk.good,okL,ok,sz,szL,storL,stor,renT,okT,has,upG,up,nth,roOk,keepsLive,Chunk.wr,lay,rnmC,putH]
 ·simp [slot,lkL,fixed,rg,renH,chEq,lookH,eqvL,eqv,eqvF,rnmL,rnm,liveN,Chunk.live,goodH,Chunk.good,okL,ok,sz,szL,storL,stor,renT,okT,has,upG,up,nth,roOk,keepsLive,Chunk.wr,lay,rnmC,putH]
 ·simp [slot,lkL,fixed,rg,renH,chEq,lookH,eqvL,eqv,eqvF,rnmL,rnm,liveN,Chunk.live,goodH,Chunk.good,okL,ok,sz,szL,storL,stor,renT,okT,has,upG,up,nth,roOk,keepsLive,Chunk.wr,lay,rnmC,putH]
 ·rintro v h' ⟨rfl,rfl⟩
  refine ⟨by simp [slot,lkL,fixed,rg,renH,chEq,lookH,eqvL,eqv,eqvF,rnmL,rnm,liveN,Chunk.live,goodH,Chunk.good,okL,ok,sz,szL,storL,stor,renT,okT,has,upG,up,nth,roOk,keepsLive,Chunk.wr,lay,rnmC,putH],by simp [slot,lkL,fixed,rg,renH,chEq,lookH,eqvL,eqv,eqvF,rnmL,rnm,liveN,Chunk.live,goodH,Chunk.good,okL,ok,sz,szL,storL,stor,renT,okT,has,upG,up,nth,roOk,keepsLive,Chunk.wr,lay,rnmC,putH],?_⟩
  simpa [rnm,rnmL,lay,Chunk.wr] using hK
end Go.Proofs.Ytgocfglmideobaa.S
set_option linter.all false
set_option maxRecDepth 40000
namespace Go.Proofs.Ytgocfglmideobaa
open Go Go.Sx
theorem res49:Try.f49.results.toList = [.cell 4 31]:=rfl
theorem callP_n4 {f:FuncId} {a b c e D k O:SV} {rest:List SV} {h:List Chunk} {K:Tok→SV→List Chunk→Prop} (ho:∀ n,okL n [a,b,c,e,D,k,O]∧okL n rest)
  (hc:callP Try.prog f (.agg [a,b,c,e,D,.osl h.length 0 0 1 0,.osl (h.length+1) 0 0 1 0,.osl (h.length+2) 0 0 73 0,.osl (h.length+3) 0 0 74 0,k,O] :: rest) (h++[.row true 0 1 (bt []),.row true 0 1 fun _=>.bool false,.row true 0 73 fun i=>.agg ((fun _=>[]) i),.row true 0 74 fun i=>.agg ((fun _=>[]) i)]) K) :
  callP Try.prog f (.agg [a,b,c,e,D,.v (.slice none 0 0),.v (.slice none 0 0),.v (.slice none 0 0),.v (.slice none 0 0),k,O] :: rest) h K:=by
 have ha:=ho (h.length+1)
 have hb:=ho (h.length+2)
 have hd:=ho (h.length+3)
 have he:=ho (h.length+4)
 simp only [okL,and_true] at ha hb hd he
 refine callP_nil (args':=.agg [a,b,c,e,D,.osl h.length 0 0 1 0,.v (.slice none 0 0),.v (.slice none 0 0),.v (.slice none 0 0),k,O] :: rest) 1 (bt []) (fun ρ hρ=>?_) ?_ ?_
 ·simp [denL,den,denC,hρ]
 ·simp [okL,ok,ha] <;> omega
 refine callP_nil (args':=.agg [a,b,c,e,D,.osl h.length 0 0 1 0,.osl (h.length+1) 0 0 1 0,.v (.slice none 0 0),.v (.slice none 0 0),k,O] :: rest) 1 (fun _=>.bool false) (fun ρ hρ=>?_) ?_ ?_
 ·rw [List.length_append,List.length_singleton] at hρ
  simp [denL,den,denC,hρ]
 ·simp [okL,ok,hb] <;> omega
 refine callP_nil (args':=.agg [a,b,c,e,D,.osl h.length 0 0 1 0,.osl (h.length+1) 0 0 1 0,.osl (h.length+2) 0 0 73 0,.v (.slice none 0 0),k,O] :: rest) 73 (fun i=>.agg ((fun _=>[]) i)) (fun ρ hρ=>?_) ?_ ?_
 ·have hρ':ρ (h.length+2) = ⟨0,0,0,true,none⟩:=by rw [← hρ]; congr 1; simp
  simp [denL,den,denC,hρ']
 ·simp [okL,ok,hd] <;> omega
 refine callP_nil (args':=.agg [a,b,c,e,D,.osl h.length 0 0 1 0,.osl (h.length+1) 0 0 1 0,.osl (h.length+2) 0 0 73 0,.osl (h.length+3) 0 0 74 0,k,O] :: rest) 74 (fun i=>.agg ((fun _=>[]) i)) (fun ρ hρ=>?_) ?_ ?_
 ·have hρ':ρ (h.length+3) = ⟨0,0,0,true,none⟩:=by rw [← hρ]; congr 1; simp
  simp [denL,den,denC,hρ']
 ·simp [okL,ok,he] <;> omega
 simpa using hc
theorem callP_n2 {f:FuncId} {a b c e D k O:SV} {n1 n2:Nat} {rest:List SV} {h:List Chunk} {K:Tok→SV→List Chunk→Prop} (ho:∀ n,okL n [a,b,c,e,D,k,O]∧okL n rest) (h1:n1 < h.length) (h2:n2 < h.length)
  (hc:callP Try.prog f (.agg [a,b,c,e,D,.osl n1 0 0 1 0,.osl h.length 0 0 1 0,.osl n2 0 0 73 0,.osl (h.length+1) 0 0 74 0,k,O] :: rest) (h++[.row true 0 1 fun _=>.bool false,.row true 0 74 fun i=>.agg ((fun _=>[]) i)]) K) :
  callP Try.prog f (.agg [a,b,c,e,D,.osl n1 0 0 1 0,.v (.slice none 0 0),.osl n2 0 0 73 0,.v (.slice none 0 0),k,O] :: rest) h K:=by
 have ha:=ho (h.length+1)
 have hb:=ho (h.length+2)
 simp only [okL,and_true] at ha hb
 refine callP_nil (args':=.agg [a,b,c,e,D,.osl n1 0 0 1 0,.osl h.length 0 0 1 0,.osl n2 0 0 73 0,.v (.slice none 0 0),k,O] :: rest) 1 (fun _=>.bool false) (fun ρ hρ=>?_) ?_ ?_
 ·simp [denL,den,denC,hρ]
 ·simp [okL,ok,ha] <;> omega
 refine callP_nil (args':=.agg [a,b,c,e,D,.osl n1 0 0 1 0,.osl h.length 0 0 1 0,.osl n2 0 0 73 0,.osl (h.length+1) 0 0 74 0,k,O] :: rest) 74 (fun i=>.agg ((fun _=>[]) i)) (fun ρ hρ=>?_) ?_ ?_
 ·rw [List.length_append,List.length_singleton] at hρ
  simp [denL,den,denC,hρ]
 ·simp [okL,ok,hb] <;> omega
 simpa using hc
def z32:Nat→By:=fun _=>0
def mA (key:Int) (of:Nat→By):Msg:=.mk 4 2 0 1 z32 [] [] [] [] key of
theorem mA_H {h:List Chunk} {n1 n2 n3 n4:Nat} {w1 w2 w3 w4:Bool} {F2:Nat→SV} {f3 f4:Nat→List SV} {key:Int} {of:Nat→By} (h1:lookH h n1 = .row w1 0 1 (bt [])) (h2:lookH h n2 = .row w2 0 1 F2) (h3:lookH h n3 = .row w3 0 73 fun i=>.agg (f3 i)) (h4:lookH h n4 = .row w4 0 74 fun i=>.agg (f4 i)) :
  MsgH h (mA key of) [.int .i64 4,.int .i64 2,.int .i64 0,.int .i64 1,.fam 32 1 fun _=>.int .u8 0,.osl n1 0 0 1 0,.osl n2 0 0 1 0,.osl n3 0 0 73 0,.osl n4 0 0 74 0,.int .i64 key,.fam 32 1 fun i=>.int .u8 (nat (of i))]:=by
 rw [mA,MsgH]
 exact ⟨_,_,n3,w3,f3,n4,w4,f4,rfl,⟨n1,w1,rfl,h1⟩,⟨n2,w2,F2,rfl,h2,fun i hi=>absurd hi (Nat.not_lt_zero _)⟩,h3,by rw [MsgsH]; trivial,h4,by rw [PrepsH]; trivial⟩
theorem mA_may (key:Int) (of:Nat→By):may (mA key of) = 0:=by
 rw [mA,may]
 simp [mayHead,mayBuns,mayBs,mayL,mayQ,okFrom,okNum,hView,hSeq,hDig,hBun,hBuns,hProof,hPrep]
theorem mA_wf {key:Int} (hk:rng key) (of:Nat→By):wfM (mA key of):=by
 rw [mA,wfM]
 refine ⟨?_,?_,?_,?_,hk,by rw [wfL]; trivial,by rw [wfQ]; trivial⟩ <;> (unfold rng; omega)
def bA:List By:=body (mA 0 z32)
theorem mA_body (key:Int) (of:Nat→By):body (mA key of) = bA:=by
 rw [bA,mA,mA,body,body]
def sA (i:Nat):By:=S.shaD (9+bA.length) (S.sigT 2 fun i=>bA.getD i 0) i
end Go.Proofs.Ytgocfglmideobaa
set_option linter.all false
set_option maxRecDepth 40000
namespace Go.Proofs.Ytgocfglmideobaa
open Go Go.Sx
theorem z32_nat (i:Nat):nat (z32 i) = 0:=rfl
set_option maxHeartbeats 8000000 in
theorem c49e (h:List Chunk) (K:Tok→SV→List Chunk→Prop) (hK:∀ (H':List Chunk) (n1 n2:Nat) (f2:Nat→List SV),Ext (fun _=>False) h H'→lookH H' n1 = .row true 0 1 (bt [])→lookH H' n2 = .row true 0 73 (fun i=>.agg (f2 i))→K .mk (.agg [.int .i64 4,.int .i64 2,.int .i64 0,.int .i64 1,.fam 32 1 fun _=>.int .u8 0,.osl n1 0 0 1 0,.v (.slice none 0 0),.osl n2 0 0 73 0,.v (.slice none 0 0),.int .i64 2,.fam 32 1 fun i=>.int .u8 (nat (sA i))]) H'):callP Try.prog 49 [.agg [.int .i64 4,.int .i64 0,.int .i64 0,.int .i64 1,.fam 32 1 fun _=>.int .u8 0,.v (.slice none 0 0),.v (.slice none 0 0),.v (.slice none 0 0),.v (.slice none 0 0),.int .i64 0,.fam 32 1 fun _=>.int .u8 0],.int .i64 2] h K:=by
 refine callP_of_code tabOk Try.func49 (by kernel_rfl) rfl (Nat.le_of_ble_eq_true rfl) (codeP_of_vc (pl:=np) tabOk follows_mixed (by kernel_rfl) ?_)
 rw [Try.ntmps49]
 have z1:((4:Int) == 1) = false:=rfl
 simp -implicitDefEqProofs (maxSteps:=1000000) (disch:=omega) only [↓zzP,zzA,zzL,zzB,Nat.reduceSub,reduceIte,reduceCtorEq,Nat.reduceLT,↓reduceIte,Nat.reduceEqDiff,Nat.reduceLeDiff,Nat.reduceAdd,Array.reduceGetElem?,↓gd,↓opP,↓qv,↓ef,↓stS,slot,putS,putO,ofV,fldA,asRow,rdF,Ent.row,ldS,sz,wrF,bldS,binH,binS2,binS,tupS,stor,Value.oneCell',res49,z1]
 repeat (refine ⟨by omega,?_⟩)
 refine callP_n4 (fun n=>by simp [okL,ok,sz]) ?_
 refine c15 (mA 0 z32) _ _ (mA_H (lookH_app _ 0 _) (lookH_app _ 1 _) (lookH_app _ 2 _) (lookH_app _ 3 _)) _ ?_
 rw [mA_may]
 have z2:((0:Int) != 0) = false:=rfl
 simp -implicitDefEqProofs (maxSteps:=1000000) (disch:=omega) only [↓zzP,zzA,zzL,zzB,Nat.reduceSub,reduceIte,reduceCtorEq,Nat.reduceLT,↓reduceIte,Nat.reduceEqDiff,Nat.reduceLeDiff,Array.reduceGetElem?,↓gd,↓opP,↓qv,slot,putS,putO,ofV,rdF,Ent.row,ldS,sz,binH,binS2,binS,z2]
 repeat (refine ⟨by omega,?_⟩)
 obtain ⟨H1,hH1⟩:∃ H1,H1 = h++[.cells true [.int .i64 4,.int .i64 2,.int .i64 0,.int .i64 1,.fam 32 1 fun _=>.int .u8 0,.v (.slice none 0 0),.v (.slice none 0 0),.v (.slice none 0 0),.v (.slice none 0 0),.int .i64 0,.fam 32 1 fun _=>.int .u8 0],Chunk.cells true [.int .i64 0,.int .i64 0,.int .i64 0,.int .i64 0,.fam 32 1 fun _=>.int .u8 0,.v (.slice none 0 0),.v (.slice none 0 0),.v (.slice none 0 0),.v (.slice none 0 0),.int .i64 0,.fam 32 1 fun _=>.int .u8 0],.row true 0 1 (bt []),.row true 0 1 fun _=>.bool false,.row true 0 73 fun i=>.agg [],.row true 0 74 fun i=>.agg []]:=⟨_,rfl⟩
 have hE1:Ext (fun _=>False) h H1:=by rw [hH1]; exact (Ext.refl _ _).app _
 have e0:lookH H1 h.length = .cells true [.int .i64 4,.int .i64 2,.int .i64 0,.int .i64 1,.fam 32 1 fun _=>.int .u8 0,.v (.slice none 0 0),.v (.slice none 0 0),.v (.slice none 0 0),.v (.slice none 0 0),.int .i64 0,.fam 32 1 fun _=>.int .u8 0]:=by rw [hH1]; exact lookH_app0 _ _
 have e1:lookH H1 (h.length+1) = Chunk.cells true [.int .i64 0,.int .i64 0,.int .i64 0,.int .i64 0,.fam 32 1 fun _=>.int .u8 0,.v (.slice none 0 0),.v (.slice none 0 0),.v (.slice none 0 0),.v (.slice none 0 0),.int .i64 0,.fam 32 1 fun _=>.int .u8 0]:=by rw [hH1]; exact lookH_app _ 1 _
 rw [← hH1]
 clear hH1
 refine callP_n4 (fun n=>by simp [okL,ok,sz]) ?_
 refine c98e 4 2 0 1 0 z32 z32 _ _ _ _ _ _ _ _ (bt []) _ _ _ _ (lookH_app _ 0 _) (lookH_app _ 1 _) (lookH_app _ 2 _) (lookH_app _ 3 _) _ ?_
 intro H2 n1 n2 f2 hE2 r1 r2
 have hEa:Ext (fun _=>False) H1 H2:=((Ext.refl _ _).app _).trans hE2
 have g0:=hEa.look e0 (by simp) fun h=>h
 have g1:=hEa.look e1 (by simp) fun h=>h
 have m0:=lookH_lt g0 (by simp)
 have m1:=lookH_lt g1 (by simp)
 have hE3:=hE1.trans hEa
 clear hE2 hEa e0 e1 hE1
 simp -implicitDefEqProofs (maxSteps:=1000000) (disch:=omega) only [↓zzP,zzA,zzL,zzB,Nat.reduceSub,reduceIte,reduceCtorEq,Nat.reduceLT,↓reduceIte,Nat.reduceEqDiff,Nat.reduceLeDiff,Nat.reduceAdd,↓gd,↓opP,↓qv,↓ef,↓stS,slot,putS,putO,rdF,Ent.row,ldS,sz,wrF,stor,Value.oneCell',z32_nat,g0,lookH_put_same]
 repeat (refine ⟨by omega,?_⟩)
 obtain ⟨H4,hH4⟩:∃ H4,H4 = putH H2 h.length (.cells true [.int .i64 4,.int .i64 2,.int .i64 0,.int .i64 1,.fam 32 1 fun _=>.int .u8 0,.osl n1 0 0 1 0,.v (.slice none 0 0),.osl n2 0 0 73 0,.v (.slice none 0 0),.int .i64 0,.fam 32 1 fun _=>.int .u8 0]):=⟨_,rfl⟩
 have hE4:Ext (fun _=>False) h H4:=by rw [hH4]; exact hE3.put _ (.inr (Nat.le_refl _))
 have k0:lookH H4 h.length = .cells true [.int .i64 4,.int .i64 2,.int .i64 0,.int .i64 1,.fam 32 1 fun _=>.int .u8 0,.osl n1 0 0 1 0,.v (.slice none 0 0),.osl n2 0 0 73 0,.v (.slice none 0 0),.int .i64 0,.fam 32 1 fun _=>.int .u8 0]:=by rw [hH4]; exact lookH_put_same _ m0
 have k1:lookH H4 (h.length+1) = Chunk.cells true [.int .i64 0,.int .i64 0,.int .i64 0,.int .i64 0,.fam 32 1 fun _=>.int .u8 0,.v (.slice none 0 0),.v (.slice none 0 0),.v (.slice none 0 0),.v (.slice none 0 0),.int .i64 0,.fam 32 1 fun _=>.int .u8 0]:=by rw [hH4,lookH_put_ne _ (by omega)]; exact g1
 have k2:lookH H4 n1 = .row true 0 1 (bt []):=by rw [hH4,lookH_put_ne _ fun e=>by rw [e,g0] at r1; cases r1]; exact r1
 have k3:lookH H4 n2 = .row true 0 73 fun i=>.agg (f2 i):=by rw [hH4,lookH_put_ne _ fun e=>by rw [e,g0] at r2; cases r2]; exact r2
 rw [← hH4]
 have m2:=lookH_lt k2 (by simp)
 have m3:=lookH_lt k3 (by simp)
 refine callP_n2 (fun n=>by simp [okL,ok,sz]) m2 m3 ?_
 have hmA:=mA_H (h:=H4++[.row true 0 1 fun _=>.bool false,.row true 0 74 fun i=>.agg ((fun _=>[]) i)]) (key:=0) (of:=z32) (lookH_old _ _ _ k2 (by simp)) (lookH_app0 _ _) (lookH_old _ _ _ k3 (by simp)) (lookH_app _ 1 _)
 have hw0:wfM (mA 0 z32):=mA_wf (by unfold rng; omega) z32
 refine c62 (mA 0 z32) hw0 _ _ hmA (Nat.le_trans (body_small hw0 (mA_may 0 z32)) (by decide)) _ ?_
 rw [mA_body]
 intro H5 k5 hE5 hk5 hr5
 simp -implicitDefEqProofs (maxSteps:=1000000) (disch:=omega) only [↓zzP,zzA,reduceIte,Nat.reduceLT,↓reduceIte,Nat.reduceEqDiff,↓gd,↓opP,slot,putS,putO]
 repeat (refine ⟨by omega,?_⟩)
 have hlen:bA.length≤70368744177000:=Nat.le_trans (body_small hw0 (mA_may 0 z32)) (by decide)
 have hlt5:=lookH_lt hr5 (by simp)
 have hE6:Ext (fun _=>False) H4 H5:=((Ext.refl _ _).app _).trans hE5
 have p0:=hE6.look k0 (by simp) fun h=>h
 have p1:=hE6.look k1 (by simp) fun h=>h
 have p2:=hE6.look k2 (by simp) fun h=>h
 have p3:=hE6.look k3 (by simp) fun h=>h
 have hE7:=hE4.trans hE6
 clear hE5 hE6 hmA
 refine S.c25 2 bA.length bA.length (fun i=>bA.getD i 0) _ (fun i _=>rfl) (Nat.le_refl _) hlen true hr5 hlt5 (fun i=>.int .u8 (nat (sA i))) rfl _ ?_
 have q0:=lookH_lt p0 (by simp)
 have q1:=lookH_lt p1 (by simp)
 have n4:¬ h.length+1 = h.length:=by omega
 have k4:lookH (putH H5 h.length (.cells true [.int .i64 4,.int .i64 2,.int .i64 0,.int .i64 1,.fam 32 1 fun _=>.int .u8 0,.osl n1 0 0 1 0,.v (.slice none 0 0),.osl n2 0 0 73 0,.v (.slice none 0 0),.int .i64 2,.fam 32 1 fun i=>.int .u8 (nat (sA i))])) (h.length+1) = Chunk.cells true [.int .i64 0,.int .i64 0,.int .i64 0,.int .i64 0,.fam 32 1 fun _=>.int .u8 0,.v (.slice none 0 0),.v (.slice none 0 0),.v (.slice none 0 0),.v (.slice none 0 0),.int .i64 0,.fam 32 1 fun _=>.int .u8 0]:=by rw [lookH_put_ne _ (by omega)]; exact p1
 have m7:h.length+1 < (putH H5 h.length (.cells true [.int .i64 4,.int .i64 2,.int .i64 0,.int .i64 1,.fam 32 1 fun _=>.int .u8 0,.osl n1 0 0 1 0,.v (.slice none 0 0),.osl n2 0 0 73 0,.v (.slice none 0 0),.int .i64 2,.fam 32 1 fun i=>.int .u8 (nat (sA i))])).length:=by rw [putH_len]; exact q1
 simp -implicitDefEqProofs (maxSteps:=1000000) (disch:=omega) only [↓zzP,zzA,zzL,zzB,Nat.reduceSub,reduceIte,reduceCtorEq,Nat.reduceLT,↓reduceIte,Nat.reduceEqDiff,Nat.reduceLeDiff,Nat.reduceAdd,↓gd,↓opP,↓qv,↓ef,↓stS,slot,putS,putO,fldA,rdF,Ent.row,ldS,sz,wrF,stor,Value.oneCell',p0,k4,lookH_put_same]
 repeat (refine ⟨by omega,?_⟩)
 have t1:n1 ≠ h.length:=fun e=>by rw [e,p0] at p2; cases p2
 have t2:n1 ≠ h.length+1:=fun e=>by rw [e,p1] at p2; cases p2
 have t3:n2 ≠ h.length:=fun e=>by rw [e,p0] at p3; cases p3
 have t4:n2 ≠ h.length+1:=fun e=>by rw [e,p1] at p3; cases p3
 refine intoR_refl ?_ (hK _ n1 n2 f2 ((hE7.put _ (.inr (Nat.le_refl _))).put _ (.inr (Nat.le_succ _))) ?_ ?_)
 ·rw [putH_len,putH_len]
  exact hE7.1
 ·rw [lookH_put_ne _ t2,lookH_put_ne _ t1]
  exact p2
 ·rw [lookH_put_ne _ t4,lookH_put_ne _ t3]
  exact p3
end Go.Proofs.Ytgocfglmideobaa
set_option linter.all false
set_option maxRecDepth 40000
namespace Go.Proofs.Ytgocfglmideobaa
open Go Go.Sx
theorem res164:Try.f164.results.toList = [.tmp 2]:=rfl
theorem res146:Try.f146.results.toList = [.tmp 2]:=rfl
def pl146:Nat→Plan
 | 5=>(.q 0 (.q 1 (.q 2 (.q 5 (.q 6 (.e1 3 [2] (.e1 4 [2] (.e1 7 [4,6] (.q 8 .nil)))))))))
 | _=>.nil
set_option maxHeartbeats 4000000 in
theorem c164e (k:Nat) (w:Bool) (F:Nat→SV) (h:List Chunk) (hk:lookH h k = .row w 0 73 F) (K:Tok→SV→List Chunk→Prop) (hK:∀ (H:List Chunk) (m:Nat) (G:Nat→SV),Ext (fun _=>False) h H→h.length≤m→lookH H m = .row true 0 73 G→K .mk (.osl m 0 0 73 0) H) (hN:K .mk (.v (.slice none 0 0)) h):callP Try.prog 164 [.osl k 0 0 73 0] h K:=by
 refine callP_emp fun a c=>?_
 cases a with
 | none =>
  refine callP_of_code tabOk Try.func164 (by kernel_rfl) rfl (Nat.le_of_ble_eq_true rfl) (codeP_of_vc (pl:=np) tabOk follows_mixed (by kernel_rfl) ?_)
  rw [Try.ntmps164]
  simp -implicitDefEqProofs (maxSteps:=1000000) (disch:=omega) only [↓zzP,zzA,reduceIte,reduceCtorEq,Nat.reduceLT,↓reduceIte,↓gd,↓opP,↓qv,slot,putS,putO,ofV,nilS,nilEq,binH,binS2,binS,tupS,res164,Option.isNone]
  repeat (refine ⟨by omega,?_⟩)
  exact intoR_refl (Nat.le_refl _) hN
 | some a =>
  refine callP_of_code tabOk Try.func164 (by kernel_rfl) rfl (Nat.le_of_ble_eq_true rfl) (codeP_of_vc (pl:=np) tabOk follows_mixed (by kernel_rfl) ?_)
  rw [Try.ntmps164]
  simp -implicitDefEqProofs (maxSteps:=1000000) (disch:=omega) only [↓zzP,zzA,zzB,reduceIte,reduceCtorEq,Nat.reduceLT,Int.reduceLE,↓reduceIte,Nat.reduceEqDiff,↓gd,↓opP,↓qv,↓ef,↓bslS,↓appS,slot,putS,putO,ofV,srcS,nilS,nilEq,binH,binS2,binS,tupS,notInt,res164,Option.isNone]
  repeat (refine ⟨by omega,?_⟩)
  exact ⟨fun x h=>h.elim,intoR_refl (by simp) (hK _ _ _ ((Ext.refl _ _).app _) (Nat.le_succ _) (lookH_app _ 1 _))⟩
set_option maxHeartbeats 4000000 in
theorem c146e (h:List Chunk) (n1 n2 n3 n4:Nat) (w1 w2 w3 w4:Bool) (F3:Nat→SV) (f2 f4:Nat→List SV) (hb:lookH h n1 = .row w1 0 1 (bt [])) (hbs:lookH h n3 = .row w3 0 1 F3) (hp:lookH h n2 = .row w2 0 73 fun i=>.agg (f2 i)) (hq:lookH h n4 = .row w4 0 74 fun i=>.agg (f4 i)) (K:Tok→SV→List Chunk→Prop) (hK:∀ (H:List Chunk),Ext (fun _=>False) h H→(∀ m,K .mk (.osl m 0 0 73 0) H)∧K .mk (.v (.slice none 0 0)) H):callP Try.prog 146 [.agg [.int .i64 4,.int .i64 2,.int .i64 0,.int .i64 1,.fam 32 1 fun _=>.int .u8 0,.osl n1 0 0 1 0,.osl n3 0 0 1 0,.osl n2 0 0 73 0,.osl n4 0 0 74 0,.int .i64 2,.fam 32 1 fun i=>.int .u8 (nat (sA i))]] h K:=by
 have l1:=lookH_lt hb (by simp)
 have l2:=lookH_lt hp (by simp)
 have l3:=lookH_lt hbs (by simp)
 have l4:=lookH_lt hq (by simp)
 refine callP_of_code tabOk Try.func146 (by kernel_rfl) rfl (Nat.le_of_ble_eq_true rfl) (codeP_of_vc (pl:=pl146) tabOk follows_mixed (by kernel_rfl) ?_)
 rw [Try.ntmps146]
 simp -implicitDefEqProofs (maxSteps:=1000000) (disch:=omega) only [↓zzP,zzA,zzL,zzB,Nat.reduceSub,reduceIte,reduceCtorEq,Nat.reduceLT,↓reduceIte,Nat.reduceEqDiff,Nat.reduceLeDiff,↓gd,↓opP,↓qv,↓ef,slot,putS,putO,ofV,fldA,rdF,Ent.row,ldS,sz,tupS,stor,res146]
 repeat (refine ⟨by omega,?_⟩)
 obtain ⟨H1,hH1⟩:∃ H1,H1 = h++[.cells true [.int .i64 4,.int .i64 2,.int .i64 0,.int .i64 1,.fam 32 1 fun _=>.int .u8 0,.osl n1 0 0 1 0,.osl n3 0 0 1 0,.osl n2 0 0 73 0,.osl n4 0 0 74 0,.int .i64 2,.fam 32 1 fun i=>.int .u8 (nat (sA i))]]:=⟨_,rfl⟩
 have hE1:Ext (fun _=>False) h H1:=by rw [hH1]; exact (Ext.refl _ _).app _
 have e0:lookH H1 h.length = .cells true [.int .i64 4,.int .i64 2,.int .i64 0,.int .i64 1,.fam 32 1 fun _=>.int .u8 0,.osl n1 0 0 1 0,.osl n3 0 0 1 0,.osl n2 0 0 73 0,.osl n4 0 0 74 0,.int .i64 2,.fam 32 1 fun i=>.int .u8 (nat (sA i))]:=by rw [hH1]; exact lookH_app0 _ _
 rw [← hH1]
 refine c164e n2 w2 _ _ (hE1.look hp (by simp) fun h=>h) _ ?_ ?_
 ·intro H2 m G hE2 hm hr
  have g0:=hE2.look e0 (by simp) fun h=>h
  have m0:=lookH_lt g0 (by simp)
  have hE3:=hE1.trans hE2
  simp -implicitDefEqProofs (maxSteps:=1000000) (disch:=omega) only [↓zzP,zzA,zzL,zzB,Nat.reduceSub,reduceIte,reduceCtorEq,Nat.reduceLT,↓reduceIte,Nat.reduceEqDiff,Nat.reduceLeDiff,↓gd,↓opP,↓qv,slot,putS,putO,ofV,fldA,lenS,rdF,Ent.row,ldS,sz,g0]
  repeat (refine ⟨by omega,?_⟩)
  refine codeP_loop (pl:=pl146) tabOk follows_mixed (by kernel_rfl) (fun z st=>∃ (j:Nat→Value),st = ⟨⟨26,[(2,.v (.slice none 0 0)),(3,.osl m 0 0 73 0),(10,.osl n4 0 0 74 0),(11,.int .i64 0),(12,.int .i64 0)],j⟩,H2,[]⟩) ?_ ?_
  ·exact into_keep [(2,.v (.slice none 0 0)),(3,.osl m 0 0 73 0),(10,.osl n4 0 0 74 0),(11,.int .i64 0),(12,.int .i64 0)] (by simp [sameT,slot,lkL]) fun j=>⟨0,j,rfl⟩
  rintro z st ⟨j,rfl⟩
  simp -implicitDefEqProofs (maxSteps:=1000000) (disch:=omega) only [↓zzP,zzA,zzL,reduceIte,reduceCtorEq,Nat.reduceLT,↓reduceIte,Nat.reduceEqDiff,Int.reduceLT,↓gd,↓opP,↓qv,slot,putS,putO,binH,binS2,binS]
  repeat (refine ⟨by omega,?_⟩)
  exact intoR_refl hE3.1 ((hK _ hE3).1 m)
 ·simp -implicitDefEqProofs (maxSteps:=1000000) (disch:=omega) only [↓zzP,zzA,zzL,zzB,Nat.reduceSub,reduceIte,reduceCtorEq,Nat.reduceLT,↓reduceIte,Nat.reduceEqDiff,Nat.reduceLeDiff,↓gd,↓opP,↓qv,slot,putS,putO,ofV,fldA,lenS,rdF,Ent.row,ldS,sz,e0]
  repeat (refine ⟨by omega,?_⟩)
  refine codeP_loop (pl:=pl146) tabOk follows_mixed (by kernel_rfl) (fun z st=>∃ (j:Nat→Value),st = ⟨⟨26,[(2,.v (.slice none 0 0)),(3,.v (.slice none 0 0)),(10,.osl n4 0 0 74 0),(11,.int .i64 0),(12,.int .i64 0)],j⟩,H1,[]⟩) ?_ ?_
  ·exact into_keep [(2,.v (.slice none 0 0)),(3,.v (.slice none 0 0)),(10,.osl n4 0 0 74 0),(11,.int .i64 0),(12,.int .i64 0)] (by simp [sameT,slot,lkL]) fun j=>⟨0,j,rfl⟩
  rintro z st ⟨j,rfl⟩
  simp -implicitDefEqProofs (maxSteps:=1000000) (disch:=omega) only [↓zzP,zzA,zzL,reduceIte,reduceCtorEq,Nat.reduceLT,↓reduceIte,Nat.reduceEqDiff,Int.reduceLT,↓gd,↓opP,↓qv,slot,putS,putO,binH,binS2,binS]
  repeat (refine ⟨by omega,?_⟩)
  exact intoR_refl hE1.1 (hK _ hE1).2
end Go.Proofs.Ytgocfglmideobaa
set_option linter.all false
set_option maxRecDepth 40000
namespace Go.Proofs.Ytgocfglmideobaa
open Go Go.Sx
theorem res100:Try.f100.results.toList = [.tmp 4]:=rfl
theorem res50:Try.f50.results.toList = [.tmp 4]:=rfl
def pl100:Nat→Plan
 | 3=>(.q 0 (.q 1 (.q 2 (.q 3 (.q 4 (.q 5 (.q 6 (.q 7 (.q 8 (.q 9 (.q 10 (.q 11 (.q 12 (.q 13 (.q 14 (.q 15 (.q 17 (.e1 16 [15] (.e1 18 [14,15,16] (.q 19 (.q 20 .nil)))))))))))))))))))))
 | _=>.nil
theorem sA_eq:famEq 32 (fun i=>.int .u8 (nat (sA i))) (fun i=>.int .u8 (nat (S.shaD (9+bA.length) (S.sigT 2 fun i=>bA.getD i 0) i))) = true:=S.famEq_refl _ _
set_option maxHeartbeats 4000000 in
theorem c100f (h:List Chunk) (n1 n2 n3 n4:Nat) (w1 w2 w3 w4:Bool) (F3:Nat→SV) (f2 f4:Nat→List SV) (hb:lookH h n1 = .row w1 0 1 (bt [])) (hbs:lookH h n3 = .row w3 0 1 F3) (hp:lookH h n2 = .row w2 0 73 fun i=>.agg (f2 i)) (hq:lookH h n4 = .row w4 0 74 fun i=>.agg (f4 i)) (K:Tok→SV→List Chunk→Prop) (hK:∀ (H:List Chunk),Ext (fun _=>False) h H→K .mk (.bool false) H):callP Try.prog 100 [.agg [.int .i64 4,.int .i64 2,.int .i64 0,.int .i64 1,.fam 32 1 fun _=>.int .u8 0,.osl n1 0 0 1 0,.osl n3 0 0 1 0,.osl n2 0 0 73 0,.osl n4 0 0 74 0,.int .i64 2,.fam 32 1 fun i=>.int .u8 (nat (sA i))],.int .i64 2] h K:=by
 have l1:=lookH_lt hb (by simp)
 have l2:=lookH_lt hp (by simp)
 have l3:=lookH_lt hbs (by simp)
 have l4:=lookH_lt hq (by simp)
 refine callP_of_code tabOk Try.func100 (by kernel_rfl) rfl (Nat.le_of_ble_eq_true rfl) (codeP_of_vc (pl:=pl100) tabOk follows_mixed (by kernel_rfl) ?_)
 rw [Try.ntmps100]
 have z1:((4:Int) == 1) = false:=rfl
 have z2:decide ((2:Int) ≥ 2) = true:=rfl
 simp -implicitDefEqProofs (maxSteps:=1000000) (disch:=omega) only [↓zzP,zzA,zzL,zzB,reduceIte,reduceCtorEq,Nat.reduceLT,↓reduceIte,Nat.reduceEqDiff,Nat.reduceLeDiff,Nat.reduceAdd,Array.reduceGetElem?,↓gd,↓opP,↓qv,↓ef,slot,putS,putO,ofV,fldA,rdF,Ent.row,ldS,sz,binH,binS2,binS,tupS,stor,res100,pl100,z1]
 repeat (refine ⟨by omega,?_⟩)
 exact intoR_refl (by simp) (hK _ ((Ext.refl _ _).app _))
set_option maxHeartbeats 4000000 in
theorem c100t (h:List Chunk) (n1 n2 n3 n4:Nat) (w1 w2 w3 w4:Bool) (F3:Nat→SV) (f2 f4:Nat→List SV) (hb:lookH h n1 = .row w1 0 1 (bt [])) (hbs:lookH h n3 = .row w3 0 1 F3) (hp:lookH h n2 = .row w2 0 73 fun i=>.agg (f2 i)) (hq:lookH h n4 = .row w4 0 74 fun i=>.agg (f4 i)) (K:Tok→SV→List Chunk→Prop) (hK:∀ (H:List Chunk),Ext (fun _=>False) h H→K .mk (.bool true) H):callP Try.prog 100 [.agg [.int .i64 4,.int .i64 2,.int .i64 0,.int .i64 1,.fam 32 1 fun _=>.int .u8 0,.osl n1 0 0 1 0,.osl n3 0 0 1 0,.osl n2 0 0 73 0,.osl n4 0 0 74 0,.int .i64 2,.fam 32 1 fun i=>.int .u8 (nat (sA i))],.int .i64 4] h K:=by
 have l1:=lookH_lt hb (by simp)
 have l2:=lookH_lt hp (by simp)
 have l3:=lookH_lt hbs (by simp)
 have l4:=lookH_lt hq (by simp)
 refine callP_of_code tabOk Try.func100 (by kernel_rfl) rfl (Nat.le_of_ble_eq_true rfl) (codeP_of_vc (pl:=pl100) tabOk follows_mixed (by kernel_rfl) ?_)
 rw [Try.ntmps100]
 have z1:((4:Int) == 1) = false:=rfl
 have z2:decide ((2:Int) ≥ 4) = false:=rfl
 have z3:((2:Int) != 2) = false:=rfl
 simp -implicitDefEqProofs (maxSteps:=1000000) (disch:=omega) only [↓zzP,zzA,zzL,zzB,Nat.reduceSub,reduceIte,reduceCtorEq,Nat.reduceLT,↓reduceIte,Nat.reduceEqDiff,Nat.reduceLeDiff,Nat.reduceAdd,Array.reduceGetElem?,↓gd,↓opP,↓qv,↓ef,slot,putS,putO,ofV,fldA,oslN,rdF,Ent.row,ldS,sz,binH,binS2,binS,tupS,stor,qn,ldN,res100,pl100,z1,z2,z3]
 repeat (refine ⟨by omega,?_⟩)
 obtain ⟨H1,hH1⟩:∃ H1,H1 = h++[.cells true [.int .i64 4,.int .i64 2,.int .i64 0,.int .i64 1,.fam 32 1 fun _=>.int .u8 0,.osl n1 0 0 1 0,.osl n3 0 0 1 0,.osl n2 0 0 73 0,.osl n4 0 0 74 0,.int .i64 2,.fam 32 1 fun i=>.int .u8 (nat (sA i))]]:=⟨_,rfl⟩
 have hE1:Ext (fun _=>False) h H1:=by rw [hH1]; exact (Ext.refl _ _).app _
 have e0:lookH H1 h.length = .cells true [.int .i64 4,.int .i64 2,.int .i64 0,.int .i64 1,.fam 32 1 fun _=>.int .u8 0,.osl n1 0 0 1 0,.osl n3 0 0 1 0,.osl n2 0 0 73 0,.osl n4 0 0 74 0,.int .i64 2,.fam 32 1 fun i=>.int .u8 (nat (sA i))]:=by rw [hH1]; exact lookH_app0 _ _
 rw [← hH1]
 have b1:=hE1.look hb (by simp) fun h=>h
 have b2:=hE1.look hp (by simp) fun h=>h
 have b3:=hE1.look hbs (by simp) fun h=>h
 have b4:=hE1.look hq (by simp) fun h=>h
 have hw0:wfM (mA 2 sA):=mA_wf (by unfold rng; omega) sA
 have hlen:bA.length≤70368744177000:=by
  have:=body_small hw0 (mA_may 2 sA)
  rw [mA_body] at this
  omega
 refine c62 (mA 2 sA) hw0 _ _ (mA_H b1 b3 b2 b4) (Nat.le_trans (body_small hw0 (mA_may 2 sA)) (by decide)) _ ?_
 rw [mA_body]
 intro H2 k2 hE2 hk2 hr2
 have f0:=hE2.look e0 (by simp) fun h=>h
 have hlt2:=lookH_lt hr2 (by simp)
 refine ⟨f0,?_⟩
 simp -implicitDefEqProofs (maxSteps:=1000000) (disch:=omega) only [↓zzP,zzA,reduceIte,Nat.reduceLT,↓reduceIte,Nat.reduceEqDiff,Array.reduceGetElem?,↓gd,↓opP,slot,putS,putO,f0]
 repeat (refine ⟨by omega,?_⟩)
 refine S.c27 2 4 sA (fun i=>.int .u8 (nat (sA i))) rfl bA.length bA.length (fun i=>bA.getD i 0) _ (fun i _=>rfl) (Nat.le_refl _) hlen true hr2 hlt2 true ?_ _ ?_
 ·show S.vOk 2 4 _ = true
  rw [sA_eq]
  rfl
 have hE3:=hE1.trans hE2
 simp -implicitDefEqProofs (maxSteps:=1000000) (disch:=omega) only [↓zzP,zzA,zzL,Nat.reduceSub,reduceIte,reduceCtorEq,Nat.reduceLT,↓reduceIte,Nat.reduceEqDiff,Nat.reduceLeDiff,Array.reduceGetElem?,↓gd,↓opP,↓qv,slot,putS,putO,ofV,unS,rdF,Ent.row,ldS,sz,f0]
 repeat (refine ⟨by omega,?_⟩)
 refine c146e H2 n1 n2 n3 n4 w1 w2 w3 w4 F3 f2 f4 (hE2.look b1 (by simp) fun h=>h) (hE2.look b3 (by simp) fun h=>h) (hE2.look b2 (by simp) fun h=>h) (hE2.look b4 (by simp) fun h=>h) _ ?_
 intro H3 hE4
 have hE5:=hE3.trans hE4
 refine ⟨fun m=>?_,?_⟩
 ·simp -implicitDefEqProofs (maxSteps:=1000000) (disch:=omega) only [↓zzP,zzA,zzB,reduceIte,reduceCtorEq,Nat.reduceLT,↓reduceIte,↓gd,↓opP,↓qv,slot,putS,putO,ofV,lenS]
  repeat (refine ⟨by omega,?_⟩)
  refine codeP_loop (pl:=pl100) tabOk follows_mixed (by kernel_rfl) (fun z st=>∃ (j:Nat→Value),st = ⟨⟨43,[(1,.int .i64 4),(2,.ptr h.length 0),(32,.osl m 0 0 73 0),(33,.int .i64 0),(34,.int .i64 0)],j⟩,H3,[]⟩) ?_ ?_
  ·exact into_keep [(1,.int .i64 4),(2,.ptr h.length 0),(32,.osl m 0 0 73 0),(33,.int .i64 0),(34,.int .i64 0)] (by simp [sameT,slot,lkL]) fun j=>⟨0,j,rfl⟩
  rintro z st ⟨j,rfl⟩
  simp -implicitDefEqProofs (maxSteps:=1000000) (disch:=omega) only [↓zzP,zzA,zzL,reduceIte,reduceCtorEq,Nat.reduceLT,↓reduceIte,Nat.reduceEqDiff,Int.reduceLT,↓gd,↓opP,↓qv,slot,putS,putO,ofV,binH,binS2,binS]
  repeat (refine ⟨by omega,?_⟩)
  exact intoR_refl hE5.1 (hK _ hE5)
 ·simp -implicitDefEqProofs (maxSteps:=1000000) (disch:=omega) only [↓zzP,zzA,zzB,reduceIte,reduceCtorEq,Nat.reduceLT,↓reduceIte,↓gd,↓opP,↓qv,slot,putS,putO,ofV,lenS]
  repeat (refine ⟨by omega,?_⟩)
  refine codeP_loop (pl:=pl100) tabOk follows_mixed (by kernel_rfl) (fun z st=>∃ (j:Nat→Value),st = ⟨⟨43,[(1,.int .i64 4),(2,.ptr h.length 0),(32,.v (.slice none 0 0)),(33,.int .i64 0),(34,.int .i64 0)],j⟩,H3,[]⟩) ?_ ?_
  ·exact into_keep [(1,.int .i64 4),(2,.ptr h.length 0),(32,.v (.slice none 0 0)),(33,.int .i64 0),(34,.int .i64 0)] (by simp [sameT,slot,lkL]) fun j=>⟨0,j,rfl⟩
  rintro z st ⟨j,rfl⟩
  simp -implicitDefEqProofs (maxSteps:=1000000) (disch:=omega) only [↓zzP,zzA,zzL,reduceIte,reduceCtorEq,Nat.reduceLT,↓reduceIte,Nat.reduceEqDiff,Int.reduceLT,↓gd,↓opP,↓qv,slot,putS,putO,ofV,binH,binS2,binS]
  repeat (refine ⟨by omega,?_⟩)
  exact intoR_refl hE5.1 (hK _ hE5)
set_option maxHeartbeats 4000000 in
theorem c50e (n:Int) (r:Bool) (hn:(n = 4∧r = true) ∨ (n = 2∧r = false)) (h:List Chunk) (n1 n2 n3 n4:Nat) (w1 w2 w3 w4:Bool) (F3:Nat→SV) (f2 f4:Nat→List SV) (hb:lookH h n1 = .row w1 0 1 (bt [])) (hbs:lookH h n3 = .row w3 0 1 F3) (hp:lookH h n2 = .row w2 0 73 fun i=>.agg (f2 i)) (hq:lookH h n4 = .row w4 0 74 fun i=>.agg (f4 i)) (K:Tok→SV→List Chunk→Prop) (hK:∀ (H:List Chunk),Ext (fun _=>False) h H→K .mk (.bool r) H):callP Try.prog 50 [.agg [.int .i64 4,.int .i64 2,.int .i64 0,.int .i64 1,.fam 32 1 fun _=>.int .u8 0,.osl n1 0 0 1 0,.osl n3 0 0 1 0,.osl n2 0 0 73 0,.osl n4 0 0 74 0,.int .i64 2,.fam 32 1 fun i=>.int .u8 (nat (sA i))],.int .i64 n] h K:=by
 have l1:=lookH_lt hb (by simp)
 have l2:=lookH_lt hp (by simp)
 have l3:=lookH_lt hbs (by simp)
 have l4:=lookH_lt hq (by simp)
 refine callP_of_code tabOk Try.func50 (by kernel_rfl) rfl (Nat.le_of_ble_eq_true rfl) (codeP_of_vc (pl:=np) tabOk follows_mixed (by kernel_rfl) ?_)
 rw [Try.ntmps50]
 simp -implicitDefEqProofs (maxSteps:=1000000) (disch:=omega) only [↓zzP,zzA,zzL,zzB,Nat.reduceSub,reduceIte,reduceCtorEq,Nat.reduceLT,↓reduceIte,Nat.reduceEqDiff,Nat.reduceLeDiff,Nat.reduceAdd,↓gd,↓opP,↓qv,↓ef,slot,putS,putO,ofV,rdF,Ent.row,ldS,sz,tupS,stor,res50]
 repeat (refine ⟨by omega,?_⟩)
 obtain ⟨H1,hH1⟩:∃ H1,H1 = h++[.cells true [.int .i64 4,.int .i64 2,.int .i64 0,.int .i64 1,.fam 32 1 fun _=>.int .u8 0,.osl n1 0 0 1 0,.osl n3 0 0 1 0,.osl n2 0 0 73 0,.osl n4 0 0 74 0,.int .i64 2,.fam 32 1 fun i=>.int .u8 (nat (sA i))]]:=⟨_,rfl⟩
 have hE1:Ext (fun _=>False) h H1:=by rw [hH1]; exact (Ext.refl _ _).app _
 have e0:lookH H1 h.length = .cells true [.int .i64 4,.int .i64 2,.int .i64 0,.int .i64 1,.fam 32 1 fun _=>.int .u8 0,.osl n1 0 0 1 0,.osl n3 0 0 1 0,.osl n2 0 0 73 0,.osl n4 0 0 74 0,.int .i64 2,.fam 32 1 fun i=>.int .u8 (nat (sA i))]:=by rw [hH1]; exact lookH_app0 _ _
 rw [← hH1]
 have b1:=hE1.look hb (by simp) fun h=>h
 have b2:=hE1.look hp (by simp) fun h=>h
 have b3:=hE1.look hbs (by simp) fun h=>h
 have b4:=hE1.look hq (by simp) fun h=>h
 refine c15 (mA 2 sA) _ _ (mA_H b1 b3 b2 b4) _ ?_
 rw [mA_may]
 have z1:((0:Int) == 0) = true:=rfl
 simp -implicitDefEqProofs (maxSteps:=1000000) (disch:=omega) only [↓zzP,zzA,Nat.reduceSub,reduceIte,reduceCtorEq,Nat.reduceLT,↓reduceIte,Nat.reduceEqDiff,Nat.reduceLeDiff,Array.reduceGetElem?,↓gd,↓opP,↓qv,slot,putS,putO,ofV,rdF,Ent.row,ldS,sz,binH,binS2,binS,z1,e0]
 repeat (refine ⟨by omega,?_⟩)
 rcases hn with ⟨rfl,rfl⟩ | ⟨rfl,rfl⟩
 ·refine c100t H1 n1 n2 n3 n4 w1 w2 w3 w4 F3 f2 f4 b1 b3 b2 b4 _ ?_
  intro H2 hE2
  have hE3:=hE1.trans hE2
  simp -implicitDefEqProofs (maxSteps:=1000000) (disch:=omega) only [↓zzP,zzA,zzL,reduceIte,Nat.reduceLT,↓reduceIte,Nat.reduceEqDiff,↓gd,↓opP,↓qv,slot,putS,putO,ofV]
  repeat (refine ⟨by omega,?_⟩)
  exact intoR_refl hE3.1 (hK _ hE3)
 ·refine c100f H1 n1 n2 n3 n4 w1 w2 w3 w4 F3 f2 f4 b1 b3 b2 b4 _ ?_
  intro H2 hE2
  have hE3:=hE1.trans hE2
  simp -implicitDefEqProofs (maxSteps:=1000000) (disch:=omega) only [↓zzP,zzA,zzL,reduceIte,Nat.reduceLT,↓reduceIte,Nat.reduceEqDiff,↓gd,↓opP,↓qv,slot,putS,putO,ofV]
  repeat (refine ⟨by omega,?_⟩)
  exact intoR_refl hE3.1 (hK _ hE3)
end Go.Proofs.Ytgocfglmideobaa
set_option linter.all false
set_option maxRecDepth 40000
namespace Go.Proofs.Ytgocfglmideobaa
open Go Go.Sx
theorem res12:Try.f12.results.toList = [.tmp 0]:=rfl
set_option maxHeartbeats 4000000 in
theorem c12 (h:List Chunk) (K:Tok→SV→List Chunk→Prop) (hK:∀ (H:List Chunk),Ext (fun _=>False) h H→K .mk (.bool true) H):callP Try.prog 12 [] h K:=by
 refine callP_of_code tabOk Try.func12 (by kernel_rfl) rfl (Nat.le_of_ble_eq_true rfl) (codeP_of_vc (pl:=np) tabOk follows_mixed (by kernel_rfl) ?_)
 rw [Try.ntmps12]
 simp -implicitDefEqProofs (maxSteps:=1000000) (disch:=omega) only [↓zzP,zzA,zzB,Nat.reduceSub,reduceIte,reduceCtorEq,Nat.reduceLT,↓reduceIte,Nat.reduceLeDiff,↓gd,↓opP,↓qv,slot,putS,putO,ofV,sz,wrF,plT,bldS,tupS,res12]
 repeat (refine ⟨by omega,?_⟩)
 refine c49e h _ ?_
 intro H1 n1 n2 f2 hE1 r1 r2
 simp -implicitDefEqProofs (maxSteps:=1000000) (disch:=omega) only [↓zzP,zzA,zzL,zzB,Nat.reduceSub,reduceIte,reduceCtorEq,Nat.reduceLT,↓reduceIte,Nat.reduceEqDiff,Nat.reduceLeDiff,Nat.reduceAdd,↓gd,↓opP,↓qv,↓ef,↓stS,slot,putS,putO,ofV,rdF,Ent.row,ldS,sz,wrF,stor,Value.oneCell']
 repeat (refine ⟨by omega,?_⟩)
 obtain ⟨H2,hH2⟩:∃ H2,H2 = H1++[.cells true [.int .i64 4,.int .i64 2,.int .i64 0,.int .i64 1,.fam 32 1 fun _=>.int .u8 0,.osl n1 0 0 1 0,.v (.slice none 0 0),.osl n2 0 0 73 0,.v (.slice none 0 0),.int .i64 2,.fam 32 1 fun i=>.int .u8 (nat (sA i))]]:=⟨_,rfl⟩
 have hE2:Ext (fun _=>False) H1 H2:=by rw [hH2]; exact (Ext.refl _ _).app _
 have e0:lookH H2 H1.length = .cells true [.int .i64 4,.int .i64 2,.int .i64 0,.int .i64 1,.fam 32 1 fun _=>.int .u8 0,.osl n1 0 0 1 0,.v (.slice none 0 0),.osl n2 0 0 73 0,.v (.slice none 0 0),.int .i64 2,.fam 32 1 fun i=>.int .u8 (nat (sA i))]:=by rw [hH2]; exact lookH_app0 _ _
 have b1:=hE2.look r1 (by simp) fun h=>h
 have b2:=hE2.look r2 (by simp) fun h=>h
 rw [← hH2]
 have hE3:=hE1.trans hE2
 refine callP_n2 (fun n=>by simp [okL,ok,sz]) (lookH_lt b1 (by simp)) (lookH_lt b2 (by simp)) ?_
 refine c50e 4 true (.inl ⟨rfl,rfl⟩) _ n1 n2 _ _ true true true true _ f2 _ (lookH_old _ _ _ b1 (by simp)) (lookH_app0 _ _) (lookH_old _ _ _ b2 (by simp)) (lookH_app _ 1 _) _ ?_
 intro H3 hE4
 have hE5:Ext (fun _=>False) H2 H3:=((Ext.refl _ _).app _).trans hE4
 have f0:=hE5.look e0 (by simp) fun h=>h
 have b3:=hE5.look b1 (by simp) fun h=>h
 have b4:=hE5.look b2 (by simp) fun h=>h
 simp -implicitDefEqProofs (maxSteps:=1000000) (disch:=omega) only [↓zzP,zzA,zzB,Nat.reduceSub,reduceIte,reduceCtorEq,Nat.reduceLT,↓reduceIte,Nat.reduceEqDiff,Nat.reduceLeDiff,Array.reduceGetElem?,↓gd,↓opP,↓qv,slot,putS,putO,ofV,rdF,Ent.row,ldS,sz,f0]
 repeat (refine ⟨by omega,?_⟩)
 refine callP_n2 (fun n=>by simp [okL,ok,sz]) (lookH_lt b3 (by simp)) (lookH_lt b4 (by simp)) ?_
 refine c50e 2 false (.inr ⟨rfl,rfl⟩) _ n1 n2 _ _ true true true true _ f2 _ (lookH_old _ _ _ b3 (by simp)) (lookH_app0 _ _) (lookH_old _ _ _ b4 (by simp)) (lookH_app _ 1 _) _ ?_
 intro H4 hE6
 have hE7:Ext (fun _=>False) H3 H4:=((Ext.refl _ _).app _).trans hE6
 have g0:=hE7.look f0 (by simp) fun h=>h
 simp -implicitDefEqProofs (maxSteps:=1000000) (disch:=omega) only [↓zzP,zzA,zzL,zzB,reduceIte,reduceCtorEq,Nat.reduceLT,↓reduceIte,Nat.reduceEqDiff,Nat.reduceLeDiff,Array.reduceGetElem?,↓gd,↓opP,↓qv,slot,putS,putO,ofV,fldA,unS,rdF,Ent.row,ldS,sz,binH,binS2,binS,g0]
 repeat (refine ⟨by omega,?_⟩)
 have hE8:=hE3.trans (hE5.trans hE7)
 exact intoR_refl (v:=.bool true) hE8.1 (hK _ hE8)
end Go.Proofs.Ytgocfglmideobaa
set_option linter.all false
set_option maxRecDepth 40000
namespace Go.Proofs.Ytgocfglmideobaa
open Go Go.Sx
theorem res134:Try.f134.results.toList = [.cell 4 31,.tmp 5,.tmp 6]:=rfl
theorem res136:Try.f136.results.toList = [.cell 4 45,.tmp 5,.tmp 6]:=rfl
abbrev ReadAt (D:Nat):Prop:=∀ (bs:List By) (h:List Chunk) (k d e:Nat) (w:Bool) (N:Nat) (F:Nat→SV),lookH h k = .row w N 1 F→e+bs.length≤N→(∀ i,i < bs.length→F (e+i) = .int .u8 (nat (bs.getD i 0)))→bs.length≤1048576→∀ (K:Tok→SV→List Chunk→Prop),
 (∀ er,rdMsg (qM D) bs = .error er→∀ H x,Ext (fun _=>False) h H→ErrM x→K .mk (.tup [x,.int .i64 er]) H) →
 (∀ m,rdMsg (qM D) bs = .ok m→∀ H sv,Ext (fun _=>False) h H→RelM (fresh h.length H) m sv→K .mk (.tup [sv,.int .i64 0]) H) →
 callP Try.prog 85 [.osl k d e 1 bs.length,.int .i64 (3 - (D:Int))] h K
theorem tb_most {bs:List By} {most v:Nat} {c:List By} (h:tb bs most = .ok (c,v)):c.length≤most:=by
 unfold tb at h
 split at h
 ·cases h
 ·split at h
  ·cases h
  ·split at h
   ·cases h
   ·cases h
    rw [List.length_take]
    omega
theorem extR_f6 {n a m:Nat} {H1:List Chunk} (hn:n≤a) (hm:m < a) (c:Chunk) (x:List Chunk):ExtR (fresh a H1) (fresh n (putH H1 m c++x)):=fun k w b s f hk=>by
 rw [fresh_look] at hk ⊢
 split at hk
 ·cases hk
 ·rename_i c2
  rw [if_neg (by omega),lookH_at _ (by rw [putH_len]; exact lookH_lt hk (by simp)),lookH_put_ne _ (by omega)]
  exact hk
theorem extR_f7 {n a m:Nat} {H1:List Chunk} (hn:n≤a) (hm:m < a) (c:Chunk):ExtR (fresh a H1) (fresh n (putH H1 m c)):=by
 have:=extR_f6 (H1:=H1) hn hm c []
 rwa [List.append_nil] at this
set_option maxHeartbeats 4000000 in
theorem c134z (h:List Chunk) (kr kx dx ex nx:Nat) (ee:Int) (hk:lookH h kr = .cells true [.osl kx dx ex 1 nx,.int .i64 3,.int .i64 ee]):QAt 134 kr h RelM ErrM (qM 0):=by
 intro b2 H k d e w N F hEx hr hN hF hl K hE hO
 have hkH:=hEx.look hk (by simp) fun h=>h
 have hlt:=lookH_lt hkH (by simp)
 have z1:((3:Int) == 3) = true:=rfl
 refine callP_of_code tabOk Try.func134 (by kernel_rfl) rfl (Nat.le_of_ble_eq_true rfl) (codeP_of_vc (pl:=np) tabOk follows_mixed (by kernel_rfl) ?_)
 rw [Try.ntmps134]
 simp -implicitDefEqProofs (maxSteps:=1000000) (disch:=omega) only [↓zzP,zzA,zzL,zzB,Nat.reduceSub,reduceIte,reduceCtorEq,Nat.reduceLT,↓reduceIte,Nat.reduceEqDiff,Nat.reduceLeDiff,Nat.reduceAdd,↓gd,↓opP,↓qv,↓ef,↓stS,slot,putS,putO,ofV,fldA,asRow,rdF,Ent.row,ldS,sz,wrF,bldS,binH,binS2,binS,tupS,stor,Value.oneCell',res134,z1,hkH,lookH_at]
 repeat (refine ⟨by omega,?_⟩)
 exact intoR_refl (by simp) (hE 4 (by rw [qM]) (by decide) _ _ _ ((Ext.refl _ _).app _) ⟨_,rfl,0,0,0,0,z32,.nil,.nil,.nil,.nil,0,z32,rfl⟩)
set_option maxHeartbeats 8000000 in
theorem c134s (D:Nat) (hR:ReadAt D) (h:List Chunk) (kr kx dx ex nx:Nat) (ee:Int) (hD:D≤5) (hk:lookH h kr = .cells true [.osl kx dx ex 1 nx,.int .i64 (3 - ((D+1:Nat):Int)),.int .i64 ee]):QAt 134 kr h RelM ErrM (qM (D+1)):=by
 intro b2 H k d e w N F hEx hr hN hF hl K hE hO
 have hkH:=hEx.look hk (by simp) fun h=>h
 have hlt:=lookH_lt hkH (by simp)
 obtain ⟨dp,hdp⟩:∃ dp:Int,dp = 3 - ((D+1:Nat):Int):=⟨_,rfl⟩
 rw [← hdp] at hkH
 have z1:(dp == 3) = false:=by rw [beq_eq_false_iff_ne]; omega
 have z2:IntKind.i64.wrap (dp+1) = 3 - (D:Int):=by rw [wrap64 (by omega) (by omega)]; omega
 refine callP_of_code tabOk Try.func134 (by kernel_rfl) rfl (Nat.le_of_ble_eq_true rfl) (codeP_of_vc (pl:=np) tabOk follows_mixed (by kernel_rfl) ?_)
 rw [Try.ntmps134]
 simp -implicitDefEqProofs (maxSteps:=1000000) (disch:=omega) only [↓zzP,zzA,zzL,zzB,reduceIte,reduceCtorEq,Nat.reduceLT,↓reduceIte,Nat.reduceEqDiff,Nat.reduceLeDiff,Nat.reduceAdd,↓gd,↓opP,↓qv,↓ef,slot,putS,putO,ofV,fldA,asRow,rdF,Ent.row,ldS,sz,binH,binS2,binS,tupS,res134,z1,hkH,lookH_at]
 repeat (refine ⟨by omega,?_⟩)
 obtain ⟨H0,hH0⟩:∃ H0,H0 = H++[Chunk.cells true [.int .i64 0,.int .i64 0,.int .i64 0,.int .i64 0,.fam 32 1 fun _=>.int .u8 0,.v (.slice none 0 0),.v (.slice none 0 0),.v (.slice none 0 0),.v (.slice none 0 0),.int .i64 0,.fam 32 1 fun _=>.int .u8 0]]:=⟨_,rfl⟩
 have hE0:Ext (fun _=>False) H H0:=by rw [hH0]; exact (Ext.refl _ _).app _
 have e0:lookH H0 H.length = Chunk.cells true [.int .i64 0,.int .i64 0,.int .i64 0,.int .i64 0,.fam 32 1 fun _=>.int .u8 0,.v (.slice none 0 0),.v (.slice none 0 0),.v (.slice none 0 0),.v (.slice none 0 0),.int .i64 0,.fam 32 1 fun _=>.int .u8 0]:=by rw [hH0]; exact lookH_app0 _ _
 have hr0:=hE0.look hr (by simp) fun h=>h
 have hk0:=hE0.look hkH (by simp) fun h=>h
 rw [← hH0]
 refine c156 b2 H0 k d e w N F hr0 hN hF hl 1048576 (by omega) _ (fun er he=>?_) (fun s u he H1 k1 hE1 hk1 hr1=>?_)
 ·have hne:=tb_err he
  have z3:(er != 0) = true:=bne_iff_ne.2 hne
  have l0:=lookH_lt e0 (by simp)
  simp -implicitDefEqProofs (maxSteps:=1000000) (disch:=omega) only [↓zzP,zzA,zzL,zzB,Nat.reduceSub,reduceIte,reduceCtorEq,Nat.reduceLT,↓reduceIte,Nat.reduceEqDiff,Nat.reduceLeDiff,Nat.reduceAdd,↓gd,↓opP,↓qv,↓ef,↓stS,slot,putS,putO,ofV,asRow,sz,wrF,bldS,binH,binS2,binS,stor,Value.oneCell',z3,e0,lookH_put_same]
  repeat (refine ⟨by omega,?_⟩)
  refine intoR_refl (by rw [putH_len]; exact hE0.1) (hE er (by rw [qM,he]) hne _ _ _ (hE0.put _ (.inr (Nat.le_refl _))) ⟨_,rfl,0,0,0,0,z32,.nil,.nil,.nil,.nil,0,z32,rfl⟩)
 ·have hu:=tb_ok he
  have hs:=tb_most he
  have z3:((0:Int) != 0) = false:=rfl
  have f0:=hE1.look e0 (by simp) fun h=>h
  have hk2:=hE1.look hk0 (by simp) fun h=>h
  simp -implicitDefEqProofs (maxSteps:=1000000) (disch:=omega) only [↓zzP,zzA,zzL,zzB,reduceIte,reduceCtorEq,Nat.reduceLT,↓reduceIte,Nat.reduceEqDiff,Nat.reduceLeDiff,Nat.reduceAdd,↓gd,↓opP,↓qv,slot,putS,putO,ofV,fldA,rdF,Ent.row,ldS,sz,binH,binS2,binS,z3,hk2,z2]
  repeat (refine ⟨by omega,?_⟩)
  refine hR s H1 k1 0 0 true s.length _ hr1 (by omega) (fun i hi=>by rw [Nat.zero_add]) hs _ (fun er he2 H2 x hE2 hx=>?_) (fun m he2 H2 sv hE2 hrel=>?_)
  ·obtain ⟨lx,rfl,yk,yf,yv,ys,yd,s5,s6,s7,s8,ykey,yof,rfl⟩:=hx
   have g0:=hE2.look f0 (by simp) fun h=>h
   have l0:=lookH_lt g0 (by simp)
   have hE3:=hE0.trans (hE1.trans hE2)
   simp -implicitDefEqProofs (maxSteps:=1000000) (disch:=omega) only [↓zzP,zzA,zzL,zzB,Nat.reduceSub,reduceIte,reduceCtorEq,Nat.reduceLT,↓reduceIte,Nat.reduceEqDiff,Nat.reduceLeDiff,Nat.reduceAdd,↓gd,↓opP,↓qv,↓ef,↓stS,slot,putS,putO,rdF,Ent.row,ldS,sz,wrF,stor,g0,lookH_at,putH_at,lookH_pB,lookH_put_same,Sl.sz,Sl.stor]
   repeat (refine ⟨by omega,?_⟩)
   refine intoR_refl (by rw [List.length_append,putH_len]; exact Nat.le_trans hE3.1 (Nat.le_add_right _ _)) (hE er (by rw [qM,he]; simp only [he2]) (rdMsg_ne (qM_ne D) _ _ he2) _ _ _ ((hE3.put (p:=H.length) _ (.inr (Nat.le_refl _))).app _) ⟨_,rfl,yk,yf,yv,ys,yd,s5,s6,s7,s8,ykey,yof,rfl⟩)
  ·obtain ⟨lx,rfl,hmx,hwx⟩:=id hrel
   obtain ⟨xk,xf,xv,xs,xd,xkb,xnb,xkbs,xnbs,xkp,xnp,xkq,xnq,xkey,xof,rfl⟩:=hmx.open
   have g0:=hE2.look f0 (by simp) fun h=>h
   have l0:=lookH_lt g0 (by simp)
   have hE3:=hE0.trans (hE1.trans hE2)
   simp -implicitDefEqProofs (maxSteps:=1000000) (disch:=omega) only [↓zzP,zzA,zzL,zzB,Nat.reduceSub,reduceIte,reduceCtorEq,Nat.reduceLT,↓reduceIte,Nat.reduceEqDiff,Nat.reduceLeDiff,Nat.reduceAdd,↓gd,↓opP,↓qv,↓ef,↓stS,slot,putS,putO,rdF,Ent.row,ldS,sz,wrF,stor,g0,lookH_at,putH_at,lookH_pB,lookH_put_same]
   repeat (refine ⟨by omega,?_⟩)
   refine intoR_refl (by rw [List.length_append,putH_len]; exact Nat.le_trans hE3.1 (Nat.le_add_right _ _)) (hO m u (by rw [qM,he]; simp only [he2]) ⟨hu.1,hu.2.1⟩ _ _ ((hE3.put (p:=H.length) _ (.inr (Nat.le_refl _))).app _) (RelM.mono _ _ _ _ (extR_f6 (by have:=lookH_lt f0 (by simp); omega) (lookH_lt f0 (by simp)) _ _) hrel))
set_option maxHeartbeats 8000000 in
theorem c136 (D:Nat) (h:List Chunk) (kr:Nat) (hkr:kr < h.length) (hq:∀ H,Ext (fun _=>False) h H→QAt 134 kr H RelM ErrM (qM D)):QAt 136 kr h RelP ErrP (qPf (qM D)):=by
 intro b2 H k d e w N F hEx hr hN hF hl K hE hO
 have hlt:kr < H.length:=Nat.lt_of_lt_of_le hkr hEx.1
 refine callP_of_code tabOk Try.func136 (by kernel_rfl) rfl (Nat.le_of_ble_eq_true rfl) (codeP_of_vc (pl:=np) tabOk follows_mixed (by kernel_rfl) ?_)
 rw [Try.ntmps136]
 simp -implicitDefEqProofs (maxSteps:=1000000) (disch:=omega) only [↓zzP,zzA,zzB,reduceIte,reduceCtorEq,Nat.reduceLT,↓reduceIte,Nat.reduceEqDiff,Nat.reduceAdd,↓gd,↓opP,↓qv,↓ef,slot,putS,putO,ofV,asRow,rdF,Ent.row,ldS,tupS,res136]
 repeat (refine ⟨by omega,?_⟩)
 obtain ⟨H0,hH0⟩:∃ H0,H0 = H++[Chunk.cells true [.int .i64 0,.int .i64 0,.int .i64 0,.int .i64 0,.fam 32 1 fun _=>.int .u8 0,.v (.slice none 0 0),.v (.slice none 0 0),.v (.slice none 0 0),.v (.slice none 0 0),.int .i64 0,.fam 32 1 fun _=>.int .u8 0,.v (.slice none 0 0)]]:=⟨_,rfl⟩
 have hE0:Ext (fun _=>False) H H0:=by rw [hH0]; exact (Ext.refl _ _).app _
 have e0:lookH H0 H.length = Chunk.cells true [.int .i64 0,.int .i64 0,.int .i64 0,.int .i64 0,.fam 32 1 fun _=>.int .u8 0,.v (.slice none 0 0),.v (.slice none 0 0),.v (.slice none 0 0),.v (.slice none 0 0),.int .i64 0,.fam 32 1 fun _=>.int .u8 0,.v (.slice none 0 0)]:=by rw [hH0]; exact lookH_app0 _ _
 have hr0:=hE0.look hr (by simp) fun h=>h
 rw [← hH0]
 refine hq H0 (hEx.trans hE0) b2 H0 k d e w N F (Ext.refl _ _) hr0 hN hF hl _ (fun er he hne H1 x v hE1 hx=>?_) (fun m u he hu H1 sv hE1 hrel=>?_)
 ·obtain ⟨lx,rfl,yk,yf,yv,ys,yd,s5,s6,s7,s8,ykey,yof,rfl⟩:=hx
  have z1:(er != 0) = true:=bne_iff_ne.2 hne
  have g0:=hE1.look e0 (by simp) fun h=>h
  have l0:=lookH_lt g0 (by simp)
  simp -implicitDefEqProofs (maxSteps:=1000000) (disch:=omega) only [↓zzP,zzA,zzL,zzB,Nat.reduceSub,reduceIte,reduceCtorEq,Nat.reduceLT,↓reduceIte,Nat.reduceEqDiff,Nat.reduceLeDiff,Nat.reduceAdd,↓gd,↓opP,↓qv,↓ef,↓stS,slot,putS,putO,ofV,asRow,sz,wrF,bldS,binH,binS2,binS,stor,Value.oneCell',z1,g0,lookH_at,putH_at,lookH_pB,lookH_put_same,Sl.sz,Sl.stor]
  repeat (refine ⟨by omega,?_⟩)
  have hE2:=hE0.trans hE1
  exact intoR_refl (by rw [List.length_append,putH_len]; exact Nat.le_trans hE2.1 (Nat.le_add_right _ _)) (hE er (by unfold qPf; rw [he]) hne _ _ _ ((hE2.put (p:=H.length) _ (.inr (Nat.le_refl _))).app _) ⟨_,.nil,rfl,0,0,0,0,z32,.nil,.nil,.nil,.nil,0,z32,rfl⟩)
 ·obtain ⟨lx,rfl,hmx,hwx⟩:=id hrel
  obtain ⟨xk,xf,xv,xs,xd,xkb,xnb,xkbs,xnbs,xkp,xnp,xkq,xnq,xkey,xof,rfl⟩:=hmx.open
  have z1:((0:Int) != 0) = false:=rfl
  have g0:=hE1.look e0 (by simp) fun h=>h
  have l0:=lookH_lt g0 (by simp)
  have hr1:=hE1.look hr0 (by simp) fun h=>h
  have hkl1:=lookH_lt hr1 (by simp)
  have hdl:(b2.drop u).length = b2.length - u:=List.length_drop ..
  obtain ⟨b3,hb3⟩:∃ b,b = b2.drop u:=⟨_,rfl⟩
  rw [← hb3] at hdl
  have hF2:∀ i,i < b3.length→F (e+u+i) = .int .u8 (nat (b3.getD i 0)):=fun i hi=>by
   rw [Nat.add_assoc,hF _ (by omega),hb3]
   congr 2
   simp [List.getD,List.getElem?_drop]
  simp -implicitDefEqProofs (maxSteps:=1000000) (disch:=omega) only [↓zzP,zzA,zzL,zzB,Nat.reduceSub,reduceIte,reduceCtorEq,Nat.reduceLT,↓reduceIte,Nat.reduceEqDiff,Nat.reduceLeDiff,Nat.reduceAdd,↓gd,↓opP,↓qv,↓ef,↓stS,slot,putS,putO,ofV,bnd,slS,sz,wrF,binH,binS2,binS,stor,z1,hr1,lookH_at]
  repeat (refine ⟨by omega,?_⟩)
  rw [← hdl]
  obtain ⟨H2,hH2⟩:∃ H2,H2 = H1++[Chunk.cells true [.int .i64 xk,.int .i64 xf,.int .i64 xv,.int .i64 xs,.fam 32 1 fun i=>.int .u8 (nat (xd i)),.osl xkb 0 0 1 xnb,.osl xkbs 0 0 1 xnbs,.osl xkp 0 0 73 xnp,.osl xkq 0 0 74 xnq,.int .i64 xkey,.fam 32 1 fun i=>.int .u8 (nat (xof i))]]:=⟨_,rfl⟩
  have hE2:Ext (fun _=>False) H1 H2:=by rw [hH2]; exact (Ext.refl _ _).app _
  have g1:lookH H2 H.length = Chunk.cells true [.int .i64 0,.int .i64 0,.int .i64 0,.int .i64 0,.fam 32 1 fun _=>.int .u8 0,.v (.slice none 0 0),.v (.slice none 0 0),.v (.slice none 0 0),.v (.slice none 0 0),.int .i64 0,.fam 32 1 fun _=>.int .u8 0,.v (.slice none 0 0)]:=hE2.look g0 (by simp) fun h=>h
  have g2:lookH H2 H1.length = Chunk.cells true [.int .i64 xk,.int .i64 xf,.int .i64 xv,.int .i64 xs,.fam 32 1 fun i=>.int .u8 (nat (xd i)),.osl xkb 0 0 1 xnb,.osl xkbs 0 0 1 xnbs,.osl xkp 0 0 73 xnp,.osl xkq 0 0 74 xnq,.int .i64 xkey,.fam 32 1 fun i=>.int .u8 (nat (xof i))]:=by rw [hH2]; exact lookH_app0 _ _
  have hr2:=hE2.look hr1 (by simp) fun h=>h
  have hE3:=(hE0.trans hE1).trans hE2
  have hl3:=hE3.1
  rw [← hH2]
  refine c158 b3 H2 k _ (e+u) w N F hr2 (by omega) hF2 (by omega) kr (by omega) (qM D) (hq H2 (hEx.trans hE3)) 64 (by omega) _ (fun er he2 H3 v hE4=>?_) (fun X v hv he2 H3 m2 F2 hE4 hm2 hrow hX=>?_)
  ·have f1:=hE4.look g1 (by simp) fun h=>h
   have f2:=hE4.look g2 (by simp) fun h=>h
   have l1:=lookH_lt f1 (by simp)
   have hE5:=hE3.trans hE4
   simp -implicitDefEqProofs (maxSteps:=1000000) (disch:=omega) only [↓zzP,zzA,zzL,zzB,Nat.reduceSub,reduceIte,reduceCtorEq,Nat.reduceLT,↓reduceIte,Nat.reduceEqDiff,Nat.reduceLeDiff,Nat.reduceAdd,↓gd,↓opP,↓qv,↓ef,↓stS,slot,putS,putO,rdF,Ent.row,ldS,sz,wrF,plT,bldS,binH,binS2,binS,stor,Value.oneCell',f1,f2,lookH_put_same]
   repeat (refine ⟨by omega,?_⟩)
   exact intoR_refl (by rw [putH_len]; exact hE5.1) (hE er (by unfold qPf; rw [he]; simp only [← hb3,he2]) (tl_err (qM_ne D) he2) _ _ _ (hE5.put (p:=H.length) _ (.inr (Nat.le_refl _))) ⟨_,.nil,rfl,xk,xf,xv,xs,xd,.at xkb xnb,.at xkbs xnbs,.at xkp xnp,.at xkq xnq,xkey,xof,rfl⟩)
  ·have f1:=hE4.look g1 (by simp) fun h=>h
   have f2:=hE4.look g2 (by simp) fun h=>h
   have l1:=lookH_lt f1 (by simp)
   have hE5:=hE3.trans hE4
   have hv2:u+v = b2.length - (b3.drop v).length:=by rw [List.length_drop]; omega
   have z2:IntKind.i64.wrap ((u:Int)+(v:Int)) = ((u+v:Nat):Int):=by rw [wrap64 (by omega) (by omega)]; omega
   simp -implicitDefEqProofs (maxSteps:=1000000) (disch:=omega) only [↓zzP,zzA,zzL,zzB,Nat.reduceSub,reduceIte,reduceCtorEq,Nat.reduceLT,↓reduceIte,Nat.reduceEqDiff,Nat.reduceLeDiff,Nat.reduceAdd,↓gd,↓opP,↓qv,↓ef,↓stS,slot,putS,putO,rdF,Ent.row,ldS,sz,wrF,plT,bldS,binH,binS2,binS,stor,f1,f2,lookH_put_same,z2]
   repeat (refine ⟨by omega,?_⟩)
   have hn0:=lookH_lt f1 (by simp)
   have hlh:H.length < H2.length:=lookH_lt g1 (by simp)
   have hll:=lookH_lt e0 (by simp)
   have hXm:MsgsH (fresh H2.length H3) X F2:=MsgsH.mk fun i hi=>by
    obtain ⟨l,e1,hm1,_⟩:=hX i hi
    cases e1
    exact hm1
   have hXw:wfL X:=wfL.mk fun i hi=>by
    obtain ⟨l,e1,_,hw1⟩:=hX i hi
    exact hw1
   refine intoR_refl (by rw [putH_len]; exact hE5.1) (hO (m,X) (u+v) (by unfold qPf; rw [he]; simp only [← hb3,he2]; rw [hv2]) (by omega) _ _ (hE5.put (p:=H.length) _ (.inr (Nat.le_refl _))) ⟨_,rfl,⟨[.int .i64 xk,.int .i64 xf,.int .i64 xv,.int .i64 xs,.fam 32 1 fun i=>.int .u8 (nat (xd i)),.osl xkb 0 0 1 xnb,.osl xkbs 0 0 1 xnbs,.osl xkp 0 0 73 xnp,.osl xkq 0 0 74 xnq,.int .i64 xkey,.fam 32 1 fun i=>.int .u8 (nat (xof i))],m2,true,F2,rfl,?_,?_,?_⟩,hwx,hXw⟩)
   ·refine (hmx.extR (extR_f4 (hE2.trans hE4))).extR ?_
    exact extR_f7 (by omega) (by omega) _
   ·rw [fresh_look,if_neg (by omega),lookH_put_ne _ (by omega)]
    exact hrow
   ·exact MsgsH.extR (extR_f7 (by omega) (by omega) _) hXm
end Go.Proofs.Ytgocfglmideobaa
set_option linter.all false
set_option maxRecDepth 40000
namespace Go.Proofs.Ytgocfglmideobaa
open Go Go.Sx
theorem res85:Try.f85.results.toList = [.cell 4 31,.tmp 5]:=rfl
def pl85:Nat→Plan
 | 14=>(.q 0 (.q 1 (.q 2 (.q 3 (.q 4 (.e1 5 [0] (.q 6 .nil)))))))
 | _=>.nil
theorem unz_rng (u:BitVec 64):rng (unz u):=by
 have:=u.isLt
 unfold rng unz
 split <;> omega
theorem ext_new {h H H2:List Chunk} {kr:Nat} (hE:Ext (fun _=>False) h H) (hE2:Ext (fun j=>j = kr) H H2) (hk:h.length≤kr):Ext (fun _=>False) h H2:=⟨Nat.le_trans hE.1 hE2.1,fun k hk1 _=>by
 rw [hE2.2 k (Nat.lt_of_lt_of_le hk1 hE.1) (by omega),hE.2 k hk1 fun h=>h]⟩
theorem extT {a b c:List Chunk} (h1:ExtR a b) (h2:ExtR b c):ExtR a c:=fun k w n s f e=>h2 _ _ _ _ _ (h1 _ _ _ _ _ e)
theorem extR_fk {n kr:Nat} {H H2:List Chunk} {wr:Bool} {fs:List SV} (hE:Ext (fun j=>j = kr) H H2) (hk:lookH H kr = .cells wr fs):ExtR (fresh n H) (fresh n H2):=fun k w a s f hh=>by
 rw [fresh_look] at hh ⊢
 split at hh
 ·cases hh
 ·rw [if_neg (by assumption)]
  exact ext_rd hE hk _ _ _ _ _ hh
set_option maxHeartbeats 4000000 in
theorem c130b (bs:List By) (h:List Chunk) (k d e:Nat) (w:Bool) (N:Nat) (F:Nat→SV) (hr:lookH h k = .row w N 1 F) (hN:e+bs.length≤N) (hF:∀ i,i < bs.length→F (e+i) = .int .u8 (nat (bs.getD i 0))) (hl:bs.length≤35184372088832) (K:Tok→SV→List Chunk→Prop) (hE:∀ er,tb bs 8192 = .error er→K .mk (.tup [.v (.slice none 0 0),.int .i64 0,.int .i64 er]) h) (hO:∀ c v,tb bs 8192 = .ok (c,v)→∀ H k',Ext (fun _=>False) h H→h.length≤k'→lookH H k' = .row true c.length 1 (bt c)→K .mk (.tup [.osl k' 0 0 1 c.length,.int .i64 (v:Nat),.int .i64 0]) H):callP Try.prog 130 [.osl k d e 1 bs.length] h K:=by
 refine callP_of_code tabOk Try.func130 (by kernel_rfl) rfl (Nat.le_of_ble_eq_true rfl) (codeP_of_vc (pl:=np) tabOk follows_mixed (by kernel_rfl) ?_)
 rw [Try.ntmps130]
 simp -implicitDefEqProofs (maxSteps:=1000000) (disch:=omega) only [↓zzP,zzA,reduceIte,reduceCtorEq,Nat.reduceLT,↓reduceIte,↓gd,↓opP,↓qv,slot,putS,putO,ofV,tupS]
 repeat (refine ⟨by omega,?_⟩)
 refine c156 bs h k d e w N F hr hN hF hl 8192 (by omega) _ (fun er he=>?_) (fun c v he H k' hE1 hk' hr1=>?_)
 ·simp -implicitDefEqProofs (maxSteps:=1000000) (disch:=omega) only [↓zzP,zzA,reduceIte,Nat.reduceLT,↓reduceIte,Nat.reduceEqDiff,Nat.reduceAdd,↓gd,↓opP,↓qv,slot,putS,putO]
  repeat (refine ⟨by omega,?_⟩)
  exact intoR_refl (Nat.le_refl _) (hE er he)
 ·simp -implicitDefEqProofs (maxSteps:=1000000) (disch:=omega) only [↓zzP,zzA,reduceIte,Nat.reduceLT,↓reduceIte,Nat.reduceEqDiff,Nat.reduceAdd,↓gd,↓opP,↓qv,slot,putS,putO]
  repeat (refine ⟨by omega,?_⟩)
  exact intoR_refl hE1.1 (hO c v he _ _ hE1 hk' hr1)
theorem pKind_ok {bs r:List By} {k:Int} (h:pKind bs = .ok (k,r)):rng k∧r.length≤bs.length:=by
 unfold pKind at h
 split at h
 ·cases h
 ·rename_i b l
  cases h
  have:=b.isLt
  unfold rng
  rw [List.length_cons]
  omega
theorem pInt_ok {bs r:List By} {k:Int} (h:pInt bs = .ok (k,r)):rng k∧r.length≤bs.length:=by
 unfold pInt at h
 split at h
 ·cases h
 ·cases h
  rw [List.length_drop]
  exact ⟨unz_rng _,by omega⟩
theorem pNum_ok {bs r:List By} {k:Int} (h:pNum bs = .ok (k,r)):rng k∧r.length≤bs.length:=by
 unfold pNum at h
 split at h
 ·cases h
 ·split at h
  ·cases h
  ·cases h
   rw [List.length_drop]
   unfold rng
   omega
theorem pDig_ok {bs r:List By} {d:Nat→By} (h:pDig bs = .ok (d,r)):r.length≤bs.length:=by
 unfold pDig at h
 split at h
 ·cases h
 ·cases h
  rw [List.length_drop]
  omega
set_option maxHeartbeats 16000000 in
theorem c85 (D:Nat) (hD:D≤5) (hq134:∀ (h:List Chunk) (kr kx dx ex nx:Nat) (ee:Int),lookH h kr = .cells true [.osl kx dx ex 1 nx,.int .i64 (3 - (D:Int)),.int .i64 ee]→QAt 134 kr h RelM ErrM (qM D)):ReadAt D:=by
 intro bs h k0 d0 e0 w0 N0 F0 hr0 hN0 hF0 hl0 K hE hO
 obtain ⟨dp,hdp⟩:∃ dp:Int,dp = 3 - (D:Int):=⟨_,rfl⟩
 rw [← hdp]
 obtain ⟨R,hRdef⟩:∃ R,R = rdMsg (qM D) bs:=⟨_,rfl⟩
 rw [← hRdef] at hE hO
 have hEE:=hE
 have hOO:=hO
 clear hE hO
 refine callP_of_code tabOk Try.func85 (by kernel_rfl) rfl (Nat.le_of_ble_eq_true rfl) ?_
 rw [Try.ntmps85]
 refine codeP_seq (pl:=pl85) tabOk follows_mixed (by kernel_rfl) _ ?_ (fun s h=>h)
 simp -implicitDefEqProofs (maxSteps:=1000000) (disch:=omega) only [↓zzP,zzA,zzB,reduceIte,Nat.reduceLT,↓reduceIte,Nat.reduceAdd,↓gd,↓opP,↓qv,↓ef,slot,putS,putO,ofV,asRow,rdF,Ent.row,ldS,tupS,res85]
 repeat (refine ⟨by omega,?_⟩)
 refine into_refl ?_
 refine codeP_seq (pl:=pl85) tabOk follows_mixed (by kernel_rfl) _ ?_ (fun s h=>h)
 simp -implicitDefEqProofs (maxSteps:=1000000) (disch:=omega) only [↓zzP,zzA,zzB,reduceIte,reduceCtorEq,Nat.reduceLT,↓reduceIte,Nat.reduceEqDiff,Nat.reduceLeDiff,↓gd,↓opP,↓qv,↓ef,slot,putS,putO,sz,wrF,plT,bldS,stor]
 repeat (refine ⟨by omega,?_⟩)
 refine into_refl ?_
 obtain ⟨J5,hJ5⟩:∃ J:St→Prop,∀ st,J st ↔ (∃ (H:List Chunk) (km:Nat) (k f v s:Int) (d:Nat→By) (s5 s6 s7 s8:Sl) (key:Int) (of:Nat→By) (sv:SV) (r:List By) (er:Int) (j:Nat→Value),Ext (fun _=>False) h H∧lookH H h.length = Chunk.cells true [.int .i64 0,.int .i64 0,.int .i64 0,.int .i64 0,.fam 32 1 fun _=>.int .u8 0,.v (.slice none 0 0),.v (.slice none 0 0),.v (.slice none 0 0),.v (.slice none 0 0),.int .i64 0,.fam 32 1 fun _=>.int .u8 0]∧lookH H (h.length+1) = .cells true [sv,.int .i64 dp,.int .i64 er]∧RdB H sv r∧h.length+1 < km∧lookH H km = .cells true [.int .i64 k,.int .i64 f,.int .i64 v,.int .i64 s,.fam 32 1 fun i=>.int .u8 (nat (d i)),Sl.sv 1 s5,Sl.sv 1 s6,Sl.sv 73 s7,Sl.sv 74 s8,.int .i64 key,.fam 32 1 fun i=>.int .u8 (nat (of i))]∧((er ≠ 0∧R = .error er) ∨ (er = 0∧r.length≤1048576∧rng k∧rng f∧rng v∧rng s∧R = r5 (qM D) k f v s d r))∧st = ⟨⟨88,[(4,.ptr h.length 0),(6,.ptr (h.length+1) 0),(7,.ptr km 0)],j⟩,H,[]⟩):=⟨_,fun _=>Iff.rfl⟩
 refine codeP_seq (pl:=pl85) tabOk follows_mixed (by kernel_rfl) J5 ?_ ?_
 ·simp -implicitDefEqProofs (maxSteps:=1000000) (disch:=omega) only [↓zzP,zzA,reduceIte,Nat.reduceLT,↓reduceIte,↓gd,↓opP,↓qv,slot,putS,putO]
  repeat (refine ⟨by omega,?_⟩)
  obtain ⟨H0,hH0⟩:∃ H0,H0 = h++[Chunk.cells true [.int .i64 0,.int .i64 0,.int .i64 0,.int .i64 0,.fam 32 1 fun _=>.int .u8 0,.v (.slice none 0 0),.v (.slice none 0 0),.v (.slice none 0 0),.v (.slice none 0 0),.int .i64 0,.fam 32 1 fun _=>.int .u8 0],.cells true [.osl k0 d0 e0 1 bs.length,.int .i64 dp,.int .i64 0]]:=⟨_,rfl⟩
  have hEh0:Ext (fun _=>False) h H0:=by rw [hH0]; exact (Ext.refl _ _).app _
  have hz0:lookH H0 h.length = Chunk.cells true [.int .i64 0,.int .i64 0,.int .i64 0,.int .i64 0,.fam 32 1 fun _=>.int .u8 0,.v (.slice none 0 0),.v (.slice none 0 0),.v (.slice none 0 0),.v (.slice none 0 0),.int .i64 0,.fam 32 1 fun _=>.int .u8 0]:=by rw [hH0]; exact lookH_app0 _ _
  have hk0:lookH H0 (h.length+1) = .cells true [.osl k0 d0 e0 1 bs.length,.int .i64 dp,.int .i64 0]:=by rw [hH0]; exact lookH_app _ 1 _
  have hB0:RdB H0 (.osl k0 d0 e0 1 bs.length) bs:=⟨k0,d0,e0,w0,N0,F0,rfl,hEh0.look hr0 (by simp) fun h=>h,hN0,hF0⟩
  rw [← hH0]
  clear hH0
  have hR:R = rdMsg (qM D) bs:=hRdef
  refine c126 bs H0 _ _ dp hk0 hB0 (by omega) _ (fun e2 he v0 H1 sv1 ra1 hE1 hk1 hB1=>?_) (fun x0 ra1 he H1 sv1 hE1 hk1 hB1=>?_)
  ·have hne:=pKind_ne he
   have hR2:R = .error e2:=by rw [hR]; simp only [rdMsg,he]
   have hEn:=ext_new hEh0 hE1 (Nat.le_succ _)
   have hzn:=hE1.look hz0 (by simp) fun h=>absurd h (by omega)
   obtain ⟨k1,d1,x1,w1,N1,F1,rfl,hr1,hN1,hF1⟩:=id hB1
   have hkx:=hk1
   simp -implicitDefEqProofs (maxSteps:=1000000) (disch:=omega) only [↓zzP,zzA,reduceIte,Nat.reduceLT,↓reduceIte,Nat.reduceEqDiff,↓gd,↓opP,↓qv,slot,putS,putO]
   repeat (refine ⟨by omega,?_⟩)
   refine c127x H1 _ k1 d1 x1 _ dp e2 hkx hne _ ?_
   simp -implicitDefEqProofs (maxSteps:=1000000) (disch:=omega) only [↓zzP,zzA,reduceIte,Nat.reduceLT,↓reduceIte,Nat.reduceEqDiff,↓gd,↓opP,↓qv,slot,putS,putO]
   repeat (refine ⟨by omega,?_⟩)
   refine c128x H1 _ k1 d1 x1 _ dp e2 hkx hne _ ?_
   simp -implicitDefEqProofs (maxSteps:=1000000) (disch:=omega) only [↓zzP,zzA,reduceIte,Nat.reduceLT,↓reduceIte,Nat.reduceEqDiff,↓gd,↓opP,↓qv,slot,putS,putO]
   repeat (refine ⟨by omega,?_⟩)
   refine c128x H1 _ k1 d1 x1 _ dp e2 hkx hne _ ?_
   simp -implicitDefEqProofs (maxSteps:=1000000) (disch:=omega) only [↓zzP,zzA,reduceIte,Nat.reduceLT,↓reduceIte,Nat.reduceEqDiff,↓gd,↓opP,↓qv,slot,putS,putO]
   repeat (refine ⟨by omega,?_⟩)
   refine c129x H1 _ k1 d1 x1 _ dp e2 hkx hne _ (fun H6 hE6=>?_)
   simp -implicitDefEqProofs (maxSteps:=1000000) (disch:=omega) only [↓zzP,zzA,zzL,zzB,Nat.reduceSub,reduceIte,reduceCtorEq,Nat.reduceLT,↓reduceIte,Nat.reduceEqDiff,Nat.reduceLeDiff,Nat.reduceAdd,↓gd,↓opP,↓qv,↓ef,↓stS,slot,putS,putO,sz,wrF,plT,bldS,stor,Value.oneCell']
   repeat (refine ⟨by omega,?_⟩)
   have hE7:=hEn.trans hE6
   have hz7:=hE6.look hzn (by simp) fun h=>h
   have hk7:=hE6.look hkx (by simp) fun h=>h
   have hB7:=RdB.ext hB1 (ext_rows hE6 fun _ h=>h.elim)
   exact into_keep [(4,.ptr h.length 0),(6,.ptr (h.length+1) 0),(7,.ptr (H6).length 0)] (by simp [sameT,slot,lkL]) fun j=>(hJ5 _).2 ⟨_,(H6).length,v0,0,0,0,fun _=>0,.nil,.nil,.nil,.nil,0,fun _=>0,_,_,_,j,(hE7).app _,by rw [lookH_at _ (lookH_lt hz7 (by simp))]; exact hz7,by rw [lookH_at _ (lookH_lt hk7 (by simp))]; exact hk7,RdB.ext hB7 (extR_app _ _),lookH_lt hk7 (by simp),lookH_app0 _ _,.inl ⟨hne,hR2⟩,rfl⟩
  ·have hpo:=pKind_ok he
   simp only [rdMsg,he] at hR
   have hEh1:=ext_new hEh0 hE1 (Nat.le_succ _)
   have hz1:=hE1.look hz0 (by simp) fun h=>absurd h (by omega)
   have hrg0:=hpo.1
   have hln1:ra1.length≤1048576:=by have:=hpo.2; omega
   clear hpo he
   simp -implicitDefEqProofs (maxSteps:=1000000) (disch:=omega) only [↓zzP,zzA,reduceIte,Nat.reduceLT,↓reduceIte,Nat.reduceEqDiff,↓gd,↓opP,↓qv,slot,putS,putO]
   repeat (refine ⟨by omega,?_⟩)
   refine c127 ra1 H1 _ _ dp hk1 hB1 (by omega) _ (fun e2 he v0 H2 sv2 ra2 hE2 hk2 hB2=>?_) (fun x1v ra2 he H2 sv2 hE2 hk2 hB2=>?_)
   ·have hne:=pInt_ne he
    have hR2:R = .error e2:=by rw [hR]; simp only [r1,he]
    have hEn:=ext_new hEh1 hE2 (Nat.le_succ _)
    have hzn:=hE2.look hz1 (by simp) fun h=>absurd h (by omega)
    obtain ⟨k1,d1,x1,w1,N1,F1,rfl,hr1,hN1,hF1⟩:=id hB2
    have hkx:=hk2
    simp -implicitDefEqProofs (maxSteps:=1000000) (disch:=omega) only [↓zzP,zzA,reduceIte,Nat.reduceLT,↓reduceIte,Nat.reduceEqDiff,↓gd,↓opP,↓qv,slot,putS,putO]
    repeat (refine ⟨by omega,?_⟩)
    refine c128x H2 _ k1 d1 x1 _ dp e2 hkx hne _ ?_
    simp -implicitDefEqProofs (maxSteps:=1000000) (disch:=omega) only [↓zzP,zzA,reduceIte,Nat.reduceLT,↓reduceIte,Nat.reduceEqDiff,↓gd,↓opP,↓qv,slot,putS,putO]
    repeat (refine ⟨by omega,?_⟩)
    refine c128x H2 _ k1 d1 x1 _ dp e2 hkx hne _ ?_
    simp -implicitDefEqProofs (maxSteps:=1000000) (disch:=omega) only [↓zzP,zzA,reduceIte,Nat.reduceLT,↓reduceIte,Nat.reduceEqDiff,↓gd,↓opP,↓qv,slot,putS,putO]
    repeat (refine ⟨by omega,?_⟩)
    refine c129x H2 _ k1 d1 x1 _ dp e2 hkx hne _ (fun H6 hE6=>?_)
    simp -implicitDefEqProofs (maxSteps:=1000000) (disch:=omega) only [↓zzP,zzA,zzL,zzB,Nat.reduceSub,reduceIte,reduceCtorEq,Nat.reduceLT,↓reduceIte,Nat.reduceEqDiff,Nat.reduceLeDiff,Nat.reduceAdd,↓gd,↓opP,↓qv,↓ef,↓stS,slot,putS,putO,sz,wrF,plT,bldS,stor,Value.oneCell']
    repeat (refine ⟨by omega,?_⟩)
    have hE7:=hEn.trans hE6
    have hz7:=hE6.look hzn (by simp) fun h=>h
    have hk7:=hE6.look hkx (by simp) fun h=>h
    have hB7:=RdB.ext hB2 (ext_rows hE6 fun _ h=>h.elim)
    exact into_keep [(4,.ptr h.length 0),(6,.ptr (h.length+1) 0),(7,.ptr (H6).length 0)] (by simp [sameT,slot,lkL]) fun j=>(hJ5 _).2 ⟨_,(H6).length,x0,v0,0,0,fun _=>0,.nil,.nil,.nil,.nil,0,fun _=>0,_,_,_,j,(hE7).app _,by rw [lookH_at _ (lookH_lt hz7 (by simp))]; exact hz7,by rw [lookH_at _ (lookH_lt hk7 (by simp))]; exact hk7,RdB.ext hB7 (extR_app _ _),lookH_lt hk7 (by simp),lookH_app0 _ _,.inl ⟨hne,hR2⟩,rfl⟩
   ·have hpo:=pInt_ok he
    simp only [r1,he] at hR
    have hEh2:=ext_new hEh1 hE2 (Nat.le_succ _)
    have hz2:=hE2.look hz1 (by simp) fun h=>absurd h (by omega)
    have hrg1:=hpo.1
    have hln2:ra2.length≤1048576:=by have:=hpo.2; omega
    clear hpo he
    simp -implicitDefEqProofs (maxSteps:=1000000) (disch:=omega) only [↓zzP,zzA,reduceIte,Nat.reduceLT,↓reduceIte,Nat.reduceEqDiff,↓gd,↓opP,↓qv,slot,putS,putO]
    repeat (refine ⟨by omega,?_⟩)
    refine c128 ra2 H2 _ _ dp hk2 hB2 (by omega) _ (fun e2 he v0 H3 sv3 ra3 hE3 hk3 hB3=>?_) (fun x2 ra3 he H3 sv3 hE3 hk3 hB3=>?_)
    ·have hne:=pNum_ne he
     have hR2:R = .error e2:=by rw [hR]; simp only [r2,he]
     have hEn:=ext_new hEh2 hE3 (Nat.le_succ _)
     have hzn:=hE3.look hz2 (by simp) fun h=>absurd h (by omega)
     obtain ⟨k1,d1,x1,w1,N1,F1,rfl,hr1,hN1,hF1⟩:=id hB3
     have hkx:=hk3
     simp -implicitDefEqProofs (maxSteps:=1000000) (disch:=omega) only [↓zzP,zzA,reduceIte,Nat.reduceLT,↓reduceIte,Nat.reduceEqDiff,↓gd,↓opP,↓qv,slot,putS,putO]
     repeat (refine ⟨by omega,?_⟩)
     refine c128x H3 _ k1 d1 x1 _ dp e2 hkx hne _ ?_
     simp -implicitDefEqProofs (maxSteps:=1000000) (disch:=omega) only [↓zzP,zzA,reduceIte,Nat.reduceLT,↓reduceIte,Nat.reduceEqDiff,↓gd,↓opP,↓qv,slot,putS,putO]
     repeat (refine ⟨by omega,?_⟩)
     refine c129x H3 _ k1 d1 x1 _ dp e2 hkx hne _ (fun H6 hE6=>?_)
     simp -implicitDefEqProofs (maxSteps:=1000000) (disch:=omega) only [↓zzP,zzA,zzL,zzB,Nat.reduceSub,reduceIte,reduceCtorEq,Nat.reduceLT,↓reduceIte,Nat.reduceEqDiff,Nat.reduceLeDiff,Nat.reduceAdd,↓gd,↓opP,↓qv,↓ef,↓stS,slot,putS,putO,sz,wrF,plT,bldS,stor,Value.oneCell']
     repeat (refine ⟨by omega,?_⟩)
     have hE7:=hEn.trans hE6
     have hz7:=hE6.look hzn (by simp) fun h=>h
     have hk7:=hE6.look hkx (by simp) fun h=>h
     have hB7:=RdB.ext hB3 (ext_rows hE6 fun _ h=>h.elim)
     exact into_keep [(4,.ptr h.length 0),(6,.ptr (h.length+1) 0),(7,.ptr (H6).length 0)] (by simp [sameT,slot,lkL]) fun j=>(hJ5 _).2 ⟨_,(H6).length,x0,x1v,v0,0,fun _=>0,.nil,.nil,.nil,.nil,0,fun _=>0,_,_,_,j,(hE7).app _,by rw [lookH_at _ (lookH_lt hz7 (by simp))]; exact hz7,by rw [lookH_at _ (lookH_lt hk7 (by simp))]; exact hk7,RdB.ext hB7 (extR_app _ _),lookH_lt hk7 (by simp),lookH_app0 _ _,.inl ⟨hne,hR2⟩,rfl⟩
    ·have hpo:=pNum_ok he
     simp only [r2,he] at hR
     have hEh3:=ext_new hEh2 hE3 (Nat.le_succ _)
     have hz3:=hE3.look hz2 (by simp) fun h=>absurd h (by omega)
     have hrg2:=hpo.1
     have hln3:ra3.length≤1048576:=by have:=hpo.2; omega
     clear hpo he
     simp -implicitDefEqProofs (maxSteps:=1000000) (disch:=omega) only [↓zzP,zzA,reduceIte,Nat.reduceLT,↓reduceIte,Nat.reduceEqDiff,↓gd,↓opP,↓qv,slot,putS,putO]
     repeat (refine ⟨by omega,?_⟩)
     refine c128 ra3 H3 _ _ dp hk3 hB3 (by omega) _ (fun e2 he v0 H4 sv4 ra4 hE4 hk4 hB4=>?_) (fun x3 ra4 he H4 sv4 hE4 hk4 hB4=>?_)
     ·have hne:=pNum_ne he
      have hR2:R = .error e2:=by rw [hR]; simp only [r3,he]
      have hEn:=ext_new hEh3 hE4 (Nat.le_succ _)
      have hzn:=hE4.look hz3 (by simp) fun h=>absurd h (by omega)
      obtain ⟨k1,d1,x1,w1,N1,F1,rfl,hr1,hN1,hF1⟩:=id hB4
      have hkx:=hk4
      simp -implicitDefEqProofs (maxSteps:=1000000) (disch:=omega) only [↓zzP,zzA,reduceIte,Nat.reduceLT,↓reduceIte,Nat.reduceEqDiff,↓gd,↓opP,↓qv,slot,putS,putO]
      repeat (refine ⟨by omega,?_⟩)
      refine c129x H4 _ k1 d1 x1 _ dp e2 hkx hne _ (fun H6 hE6=>?_)
      simp -implicitDefEqProofs (maxSteps:=1000000) (disch:=omega) only [↓zzP,zzA,zzL,zzB,Nat.reduceSub,reduceIte,reduceCtorEq,Nat.reduceLT,↓reduceIte,Nat.reduceEqDiff,Nat.reduceLeDiff,Nat.reduceAdd,↓gd,↓opP,↓qv,↓ef,↓stS,slot,putS,putO,sz,wrF,plT,bldS,stor,Value.oneCell']
      repeat (refine ⟨by omega,?_⟩)
      have hE7:=hEn.trans hE6
      have hz7:=hE6.look hzn (by simp) fun h=>h
      have hk7:=hE6.look hkx (by simp) fun h=>h
      have hB7:=RdB.ext hB4 (ext_rows hE6 fun _ h=>h.elim)
      exact into_keep [(4,.ptr h.length 0),(6,.ptr (h.length+1) 0),(7,.ptr (H6).length 0)] (by simp [sameT,slot,lkL]) fun j=>(hJ5 _).2 ⟨_,(H6).length,x0,x1v,x2,v0,fun _=>0,.nil,.nil,.nil,.nil,0,fun _=>0,_,_,_,j,(hE7).app _,by rw [lookH_at _ (lookH_lt hz7 (by simp))]; exact hz7,by rw [lookH_at _ (lookH_lt hk7 (by simp))]; exact hk7,RdB.ext hB7 (extR_app _ _),lookH_lt hk7 (by simp),lookH_app0 _ _,.inl ⟨hne,hR2⟩,rfl⟩
     ·have hpo:=pNum_ok he
      simp only [r3,he] at hR
      have hEh4:=ext_new hEh3 hE4 (Nat.le_succ _)
      have hz4:=hE4.look hz3 (by simp) fun h=>absurd h (by omega)
      have hrg3:=hpo.1
      have hln4:ra4.length≤1048576:=by have:=hpo.2; omega
      clear hpo he
      simp -implicitDefEqProofs (maxSteps:=1000000) (disch:=omega) only [↓zzP,zzA,reduceIte,Nat.reduceLT,↓reduceIte,Nat.reduceEqDiff,↓gd,↓opP,↓qv,slot,putS,putO]
      repeat (refine ⟨by omega,?_⟩)
      refine c129 ra4 H4 _ _ dp hk4 hB4 (by omega) _ (fun e2 he H5 sv5 ra5 hE5 hk5 hB5=>?_) (fun x4 ra5 he H5 sv5 hE5 hk5 hB5=>?_)
      ·have hne:=pDig_ne he
       have hR2:R = .error e2:=by rw [hR]; simp only [r4,he]
       have hEn:=ext_new hEh4 hE5 (Nat.le_succ _)
       have hzn:=hE5.look hz4 (by simp) fun h=>absurd h (by omega)
       simp -implicitDefEqProofs (maxSteps:=1000000) (disch:=omega) only [↓zzP,zzA,zzL,zzB,Nat.reduceSub,reduceIte,reduceCtorEq,Nat.reduceLT,↓reduceIte,Nat.reduceEqDiff,Nat.reduceLeDiff,Nat.reduceAdd,↓gd,↓opP,↓qv,↓ef,↓stS,slot,putS,putO,sz,wrF,plT,bldS,stor,Value.oneCell']
       repeat (refine ⟨by omega,?_⟩)
       exact into_keep [(4,.ptr h.length 0),(6,.ptr (h.length+1) 0),(7,.ptr (H5).length 0)] (by simp [sameT,slot,lkL]) fun j=>(hJ5 _).2 ⟨_,(H5).length,x0,x1v,x2,x3,fun _=>0,.nil,.nil,.nil,.nil,0,fun _=>0,_,_,_,j,(hEn).app _,by rw [lookH_at _ (lookH_lt hzn (by simp))]; exact hzn,by rw [lookH_at _ (lookH_lt hk5 (by simp))]; exact hk5,RdB.ext hB5 (extR_app _ _),lookH_lt hk5 (by simp),lookH_app0 _ _,.inl ⟨hne,hR2⟩,rfl⟩
      ·have hpo:=pDig_ok he
       simp only [r4,he] at hR
       have hEh5:=ext_new hEh4 hE5 (Nat.le_succ _)
       have hz5:=hE5.look hz4 (by simp) fun h=>absurd h (by omega)
       have hln5:ra5.length≤1048576:=by omega
       clear hpo he
       unfold dig32
       simp -implicitDefEqProofs (maxSteps:=1000000) (disch:=omega) only [↓zzP,zzA,zzL,zzB,Nat.reduceSub,reduceIte,reduceCtorEq,Nat.reduceLT,↓reduceIte,Nat.reduceEqDiff,Nat.reduceLeDiff,Nat.reduceAdd,↓gd,↓opP,↓qv,↓ef,↓stS,slot,putS,putO,sz,wrF,plT,bldS,stor,Value.oneCell']
       repeat (refine ⟨by omega,?_⟩)
       exact into_keep [(4,.ptr h.length 0),(6,.ptr (h.length+1) 0),(7,.ptr (H5).length 0)] (by simp [sameT,slot,lkL]) fun j=>(hJ5 _).2 ⟨_,(H5).length,x0,x1v,x2,x3,x4,.nil,.nil,.nil,.nil,0,fun _=>0,_,_,_,j,(hEh5).app _,by rw [lookH_at _ (lookH_lt hz5 (by simp))]; exact hz5,by rw [lookH_at _ (lookH_lt hk5 (by simp))]; exact hk5,RdB.ext hB5 (extR_app _ _),lookH_lt hk5 (by simp),lookH_app0 _ _,.inr ⟨rfl,hln5,hrg0,hrg1,hrg2,hrg3,hR⟩,rfl⟩
 intro st hst
 obtain ⟨H,km,k,f,v,s,d,s5,s6,s7,s8,key,of,sv,r,er,j,hE,hz,hk,hB,hkm,hm,hcase,rfl⟩:=(hJ5 st).1 hst
 clear hst
 have hzl:=lookH_lt hz (by simp)
 have hkl:=lookH_lt hk (by simp)
 have hml:=lookH_lt hm (by simp)
 obtain ⟨J6,hJ6⟩:∃ J:St→Prop,∀ st,J st ↔ (∃ (H:List Chunk) (km:Nat) (k f v s:Int) (d:Nat→By) (s5 s6 s7 s8:Sl) (key:Int) (of:Nat→By) (sv:SV) (r:List By) (er:Int) (j:Nat→Value),Ext (fun _=>False) h H∧lookH H h.length = Chunk.cells true [.int .i64 0,.int .i64 0,.int .i64 0,.int .i64 0,.fam 32 1 fun _=>.int .u8 0,.v (.slice none 0 0),.v (.slice none 0 0),.v (.slice none 0 0),.v (.slice none 0 0),.int .i64 0,.fam 32 1 fun _=>.int .u8 0]∧lookH H (h.length+1) = .cells true [sv,.int .i64 dp,.int .i64 er]∧RdB H sv r∧h.length+1 < km∧lookH H km = .cells true [.int .i64 k,.int .i64 f,.int .i64 v,.int .i64 s,.fam 32 1 fun i=>.int .u8 (nat (d i)),Sl.sv 1 s5,Sl.sv 1 s6,Sl.sv 73 s7,Sl.sv 74 s8,.int .i64 key,.fam 32 1 fun i=>.int .u8 (nat (of i))]∧((er ≠ 0∧R = .error er) ∨ (er = 0∧r.length≤1048576∧rng k∧rng f∧rng v∧rng s∧∃ b,rowB (fresh h.length H) (Sl.sv 1 s5) b∧R = r6 (qM D) k f v s d b r))∧st = ⟨⟨88,[(4,.ptr h.length 0),(6,.ptr (h.length+1) 0),(7,.ptr km 0)],j⟩,H,[]⟩):=⟨_,fun _=>Iff.rfl⟩
 refine codeP_seq (pl:=pl85) tabOk follows_mixed (by kernel_rfl) J6 ?_ ?_
 ·rcases hcase with ⟨hne,hR⟩ | ⟨rfl,hln,hg1,hg2,hg3,hg4,hR⟩
  ·obtain ⟨k1,d1,x1,w1,N1,F1,rfl,hr1,hN1,hF1⟩:=id hB
   have zz:(er == 0) = false:=beq_eq_false_iff_ne.2 hne
   simp -implicitDefEqProofs (maxSteps:=1000000) (disch:=omega) only [↓zzP,zzA,zzL,zzB,Nat.reduceSub,reduceIte,reduceCtorEq,Nat.reduceLT,↓reduceIte,Nat.reduceEqDiff,Nat.reduceLeDiff,↓gd,↓opP,↓qv,slot,putS,putO,ofV,fldA,rdF,Ent.row,ldS,sz,binH,binS2,binS,zz,hk]
   repeat (refine ⟨by omega,?_⟩)
   exact into_keep [(4,.ptr h.length 0),(6,.ptr (h.length+1) 0),(7,.ptr km 0)] (by simp [sameT,slot,lkL]) fun j=>(hJ6 _).2 ⟨_,km,k,f,v,s,d,s5,s6,s7,s8,key,of,_,_,_,j,hE,hz,hk,hB,hkm,hm,.inl ⟨hne,hR⟩,rfl⟩
  ·obtain ⟨k1,d1,x1,w1,N1,F1,rfl,hr1,hN1,hF1⟩:=id hB
   have zz:((0:Int) == 0) = true:=rfl
   simp -implicitDefEqProofs (maxSteps:=1000000) (disch:=omega) only [↓zzP,zzA,zzL,zzB,Nat.reduceSub,reduceIte,reduceCtorEq,Nat.reduceLT,↓reduceIte,Nat.reduceEqDiff,Nat.reduceLeDiff,↓gd,↓opP,↓qv,slot,putS,putO,ofV,fldA,rdF,Ent.row,ldS,sz,binH,binS2,binS,zz,hk]
   repeat (refine ⟨by omega,?_⟩)
   refine c130b r H k1 d1 x1 w1 N1 F1 hr1 hN1 hF1 (by omega) _ (fun e2 he=>?_) (fun c u he H1 k' hE1 hk' hrow=>?_)
   ·have hne:=tb_err he
    have hR2:R = .error e2:=by rw [hR]; simp only [r5,he]
    simp -implicitDefEqProofs (maxSteps:=1000000) (disch:=omega) only [↓zzP,zzA,reduceIte,Nat.reduceLT,↓reduceIte,Nat.reduceEqDiff,Nat.reduceAdd,↓gd,↓opP,↓qv,slot,putS,putO]
    repeat (refine ⟨by omega,?_⟩)
    refine callP_skipE r H _ k1 d1 x1 w1 N1 F1 dp 0 hk 0 e2 hne _ ?_
    obtain ⟨H2,hH2⟩:∃ H2,H2 = putH H (h.length+1) (.cells true [.osl k1 d1 x1 1 r.length,.int .i64 dp,.int .i64 e2]):=⟨_,rfl⟩
    have hE2:Ext (fun _=>False) h H2:=by rw [hH2]; exact hE.put (p:=h.length+1) _ (.inr (Nat.le_succ _))
    have hz2:lookH H2 h.length = Chunk.cells true [.int .i64 0,.int .i64 0,.int .i64 0,.int .i64 0,.fam 32 1 fun _=>.int .u8 0,.v (.slice none 0 0),.v (.slice none 0 0),.v (.slice none 0 0),.v (.slice none 0 0),.int .i64 0,.fam 32 1 fun _=>.int .u8 0]:=by rw [hH2,lookH_put_ne _ (by omega)]; exact hz
    have hk2:lookH H2 (h.length+1) = .cells true [.osl k1 d1 x1 1 r.length,.int .i64 dp,.int .i64 e2]:=by rw [hH2]; exact lookH_put_same _ hkl
    have hB2:RdB H2 (.osl k1 d1 x1 1 r.length) r:=by rw [hH2]; exact RdB.put hB hk _
    have hm2:=hm
    replace hm2:lookH H2 km = .cells true [.int .i64 k,.int .i64 f,.int .i64 v,.int .i64 s,.fam 32 1 fun i=>.int .u8 (nat (d i)),Sl.sv 1 s5,Sl.sv 1 s6,Sl.sv 73 s7,Sl.sv 74 s8,.int .i64 key,.fam 32 1 fun i=>.int .u8 (nat (of i))]:=by rw [hH2,lookH_put_ne _ (by omega)]; exact hm
    rw [← hH2]
    simp -implicitDefEqProofs (maxSteps:=1000000) (disch:=omega) only [↓zzP,zzA,zzL,zzB,Nat.reduceSub,reduceIte,reduceCtorEq,Nat.reduceLT,↓reduceIte,Nat.reduceEqDiff,Nat.reduceLeDiff,↓gd,↓opP,↓qv,↓ef,↓stS,slot,putS,putO,fldA,sz,wrF,stor,Value.oneCell',hm2,Sl.sz]
    repeat (refine ⟨by omega,?_⟩)
    exact into_keep [(4,.ptr h.length 0),(6,.ptr (h.length+1) 0),(7,.ptr km 0)] (by simp [sameT,slot,lkL]) fun j=>(hJ6 _).2 ⟨_,km,k,f,v,s,d,.nil,s6,s7,s8,key,of,_,_,_,j,hE2.put (p:=km) _ (.inr (by omega)),by rw [lookH_put_ne _ (by omega)]; exact hz2,by rw [lookH_put_ne _ (by omega)]; exact hk2,RdB.put hB2 hm2 _,hkm,lookH_put_same _ (lookH_lt hm2 (by simp)),.inl ⟨hne,hR2⟩,rfl⟩
   ·have hu:=tb_ok he
    simp only [r5,he] at hR
    have hz1:=hE1.look hz (by simp) fun h=>h
    have hk1:=hE1.look hk (by simp) fun h=>h
    have hm1:=hE1.look hm (by simp) fun h=>h
    have hr2:=hE1.look hr1 (by simp) fun h=>h
    have hkl1:=lookH_lt hk1 (by simp)
    simp -implicitDefEqProofs (maxSteps:=1000000) (disch:=omega) only [↓zzP,zzA,reduceIte,Nat.reduceLT,↓reduceIte,Nat.reduceEqDiff,Nat.reduceAdd,↓gd,↓opP,↓qv,slot,putS,putO]
    repeat (refine ⟨by omega,?_⟩)
    refine c131 r H1 _ k1 d1 x1 w1 N1 F1 dp 0 hk1 hr2 hN1 hF1 (by omega) u hu.2.1 _ fun d'=>?_
    obtain ⟨H2,hH2⟩:∃ H2,H2 = putH H1 (h.length+1) (.cells true [(.osl k1 d' (x1+u) 1 (r.length - u)),.int .i64 dp,.int .i64 0]):=⟨_,rfl⟩
    have hE2:Ext (fun _=>False) h H2:=by rw [hH2]; exact (hE.trans hE1).put (p:=h.length+1) _ (.inr (Nat.le_succ _))
    have hz2:lookH H2 h.length = Chunk.cells true [.int .i64 0,.int .i64 0,.int .i64 0,.int .i64 0,.fam 32 1 fun _=>.int .u8 0,.v (.slice none 0 0),.v (.slice none 0 0),.v (.slice none 0 0),.v (.slice none 0 0),.int .i64 0,.fam 32 1 fun _=>.int .u8 0]:=by rw [hH2,lookH_put_ne _ (by omega)]; exact hz1
    have hk2:lookH H2 (h.length+1) = .cells true [(.osl k1 d' (x1+u) 1 (r.length - u)),.int .i64 dp,.int .i64 0]:=by rw [hH2]; exact lookH_put_same _ hkl1
    have hB2:RdB H2 (.osl k1 d' (x1+u) 1 (r.length - u)) (r.drop u):=by rw [hH2]; exact RdB.put (RdB.drop hr2 hN1 hF1 u d' hu.2.1) hk1 _
    have hm2:lookH H2 km = .cells true [.int .i64 k,.int .i64 f,.int .i64 v,.int .i64 s,.fam 32 1 fun i=>.int .u8 (nat (d i)),Sl.sv 1 s5,Sl.sv 1 s6,Sl.sv 73 s7,Sl.sv 74 s8,.int .i64 key,.fam 32 1 fun i=>.int .u8 (nat (of i))]:=by rw [hH2,lookH_put_ne _ (by omega)]; exact hm1
    have hrow2:lookH H2 k' = .row true c.length 1 (bt c):=by rw [hH2,lookH_put_ne _ (by omega)]; exact hrow
    have hle:=hE.1
    rw [← hH2]
    simp -implicitDefEqProofs (maxSteps:=1000000) (disch:=omega) only [↓zzP,zzA,zzL,zzB,Nat.reduceSub,reduceIte,reduceCtorEq,Nat.reduceLT,↓reduceIte,Nat.reduceEqDiff,Nat.reduceLeDiff,↓gd,↓opP,↓qv,↓ef,↓stS,slot,putS,putO,fldA,sz,wrF,stor,hm2,Sl.sz]
    repeat (refine ⟨by omega,?_⟩)
    exact into_keep [(4,.ptr h.length 0),(6,.ptr (h.length+1) 0),(7,.ptr km 0)] (by simp [sameT,slot,lkL]) fun j=>(hJ6 _).2 ⟨_,km,k,f,v,s,d,(.at k' c.length),s6,s7,s8,key,of,_,_,_,j,hE2.put (p:=km) _ (.inr (by omega)),by rw [lookH_put_ne _ (by omega)]; exact hz2,by rw [lookH_put_ne _ (by omega)]; exact hk2,RdB.put hB2 hm2 _,hkm,lookH_put_same _ (lookH_lt hm2 (by simp)),.inr ⟨rfl,by rw [List.length_drop]; omega,hg1,hg2,hg3,hg4,c,⟨k',true,rfl,by rw [fresh_look,if_neg (by omega),lookH_put_ne _ (by omega)]; exact hrow2⟩,hR⟩,rfl⟩
 intro st hst
 obtain ⟨H,km,k,f,v,s,d,s5,s6,s7,s8,key,of,sv,r,er,j,hE,hz,hk,hB,hkm,hm,hcase,rfl⟩:=(hJ6 st).1 hst
 clear hst
 have hzl:=lookH_lt hz (by simp)
 have hkl:=lookH_lt hk (by simp)
 have hml:=lookH_lt hm (by simp)
 obtain ⟨J7,hJ7⟩:∃ J:St→Prop,∀ st,J st ↔ (∃ (H:List Chunk) (km:Nat) (k f v s:Int) (d:Nat→By) (s5 s6 s7 s8:Sl) (key:Int) (of:Nat→By) (sv:SV) (r:List By) (er:Int) (j:Nat→Value),Ext (fun _=>False) h H∧lookH H h.length = Chunk.cells true [.int .i64 0,.int .i64 0,.int .i64 0,.int .i64 0,.fam 32 1 fun _=>.int .u8 0,.v (.slice none 0 0),.v (.slice none 0 0),.v (.slice none 0 0),.v (.slice none 0 0),.int .i64 0,.fam 32 1 fun _=>.int .u8 0]∧lookH H (h.length+1) = .cells true [sv,.int .i64 dp,.int .i64 er]∧RdB H sv r∧h.length+1 < km∧lookH H km = .cells true [.int .i64 k,.int .i64 f,.int .i64 v,.int .i64 s,.fam 32 1 fun i=>.int .u8 (nat (d i)),Sl.sv 1 s5,Sl.sv 1 s6,Sl.sv 73 s7,Sl.sv 74 s8,.int .i64 key,.fam 32 1 fun i=>.int .u8 (nat (of i))]∧((er ≠ 0∧R = .error er) ∨ (er = 0∧r.length≤1048576∧rng k∧rng f∧rng v∧rng s∧∃ b bs2,rowB (fresh h.length H) (Sl.sv 1 s5) b∧rowBs (fresh h.length H) (Sl.sv 1 s6) bs2∧R = r7 (qM D) k f v s d b bs2 r))∧st = ⟨⟨88,[(4,.ptr h.length 0),(6,.ptr (h.length+1) 0),(7,.ptr km 0)],j⟩,H,[]⟩):=⟨_,fun _=>Iff.rfl⟩
 refine codeP_seq (pl:=pl85) tabOk follows_mixed (by kernel_rfl) J7 ?_ ?_
 ·rcases hcase with ⟨hne,hR⟩ | ⟨rfl,hln,hg1,hg2,hg3,hg4,b,hb,hR⟩
  ·obtain ⟨k1,d1,x1,w1,N1,F1,rfl,hr1,hN1,hF1⟩:=id hB
   simp -implicitDefEqProofs (maxSteps:=1000000) (disch:=omega) only [↓zzP,zzA,reduceIte,Nat.reduceLT,↓reduceIte,Nat.reduceEqDiff,↓gd,↓opP,↓qv,slot,putS,putO,ofV]
   repeat (refine ⟨by omega,?_⟩)
   refine c132x H _ k1 d1 x1 _ dp er hk hne _ _ _ ?_
   simp -implicitDefEqProofs (maxSteps:=1000000) (disch:=omega) only [↓zzP,zzA,zzL,zzB,Nat.reduceSub,reduceIte,reduceCtorEq,Nat.reduceLT,↓reduceIte,Nat.reduceEqDiff,Nat.reduceLeDiff,↓gd,↓opP,↓qv,↓ef,↓stS,slot,putS,putO,fldA,sz,wrF,stor,Value.oneCell',hm,Sl.sz]
   repeat (refine ⟨by omega,?_⟩)
   exact into_keep [(4,.ptr h.length 0),(6,.ptr (h.length+1) 0),(7,.ptr km 0)] (by simp [sameT,slot,lkL]) fun j=>(hJ7 _).2 ⟨_,km,k,f,v,s,d,s5,.nil,s7,s8,key,of,_,_,_,j,hE.put (p:=km) _ (.inr (by omega)),by rw [lookH_put_ne _ (by omega)]; exact hz,by rw [lookH_put_ne _ (by omega)]; exact hk,RdB.put hB hm _,hkm,lookH_put_same _ (lookH_lt hm (by simp)),.inl ⟨hne,hR⟩,rfl⟩
  ·obtain ⟨k1,d1,x1,w1,N1,F1,rfl,hr1,hN1,hF1⟩:=id hB
   simp -implicitDefEqProofs (maxSteps:=1000000) (disch:=omega) only [↓zzP,zzA,reduceIte,Nat.reduceLT,↓reduceIte,Nat.reduceEqDiff,↓gd,↓opP,↓qv,slot,putS,putO,ofV]
   repeat (refine ⟨by omega,?_⟩)
   refine c132 r H _ _ dp hk hB (by omega) 512 (by omega) _ (fun e2 he H1 sv1 ra hE1 hk1 hB1=>?_) (fun X ra he hle H1 sv1 m F2 hE1 hk1 hB1 hmm hrow hrel=>?_)
   ·have hne:=tl_err (fun b er h=>tb_err h) he
    have hR2:R = .error e2:=by rw [hR]; simp only [r6,he]
    have hEn:=ext_new hE hE1 (Nat.le_succ _)
    have hz2:=hE1.look hz (by simp) fun h=>absurd h (by omega)
    have hm2:=hE1.look hm (by simp) fun h=>absurd h (by omega)
    have hX:ExtR (fresh h.length H) (fresh h.length H1):=extR_fk hE1 hk
    have hle1:=hE.1
    simp -implicitDefEqProofs (maxSteps:=1000000) (disch:=omega) only [↓zzP,zzA,zzL,zzB,Nat.reduceSub,reduceIte,reduceCtorEq,Nat.reduceLT,↓reduceIte,Nat.reduceEqDiff,Nat.reduceLeDiff,↓gd,↓opP,↓qv,↓ef,↓stS,slot,putS,putO,fldA,sz,wrF,stor,Value.oneCell',hm2,Sl.sz]
    repeat (refine ⟨by omega,?_⟩)
    exact into_keep [(4,.ptr h.length 0),(6,.ptr (h.length+1) 0),(7,.ptr km 0)] (by simp [sameT,slot,lkL]) fun j=>(hJ7 _).2 ⟨_,km,k,f,v,s,d,s5,.nil,s7,s8,key,of,_,_,_,j,hEn.put (p:=km) _ (.inr (by omega)),by rw [lookH_put_ne _ (by omega)]; exact hz2,by rw [lookH_put_ne _ (by omega)]; exact hk1,RdB.put hB1 hm2 _,hkm,lookH_put_same _ (lookH_lt hm2 (by simp)),.inl ⟨hne,hR2⟩,rfl⟩
   ·simp only [r6,he] at hR
    have hEn:=ext_new hE hE1 (Nat.le_succ _)
    have hz2:=hE1.look hz (by simp) fun h=>absurd h (by omega)
    have hm2:=hE1.look hm (by simp) fun h=>absurd h (by omega)
    have hX:ExtR (fresh h.length H) (fresh h.length H1):=extR_fk hE1 hk
    have hle1:=hE.1
    simp -implicitDefEqProofs (maxSteps:=1000000) (disch:=omega) only [↓zzP,zzA,zzL,zzB,Nat.reduceSub,reduceIte,reduceCtorEq,Nat.reduceLT,↓reduceIte,Nat.reduceEqDiff,Nat.reduceLeDiff,↓gd,↓opP,↓qv,↓ef,↓stS,slot,putS,putO,fldA,sz,wrF,stor,hm2,Sl.sz]
    repeat (refine ⟨by omega,?_⟩)
    exact into_keep [(4,.ptr h.length 0),(6,.ptr (h.length+1) 0),(7,.ptr km 0)] (by simp [sameT,slot,lkL]) fun j=>(hJ7 _).2 ⟨_,km,k,f,v,s,d,s5,(.at m X.length),s7,s8,key,of,_,_,_,j,hEn.put (p:=km) _ (.inr (by omega)),by rw [lookH_put_ne _ (by omega)]; exact hz2,by rw [lookH_put_ne _ (by omega)]; exact hk1,RdB.put hB1 hm2 _,hkm,lookH_put_same _ (lookH_lt hm2 (by simp)),.inr ⟨rfl,by omega,hg1,hg2,hg3,hg4,b,X,hb.extR (extT hX (extR_cells _ hm2)),⟨m,true,F2,rfl,(by rw [fresh_look,if_neg (by omega),lookH_put_ne _ (by omega)]; exact hrow),fun i hi=>by rw [show X.getD i [] = X[i] from by simp [hi]]; exact RelBs.mono _ _ _ _ (extT (extR_f5 hle1) (extR_cells _ hm2)) (hrel i hi)⟩,hR⟩,rfl⟩
 intro st hst
 obtain ⟨H,km,k,f,v,s,d,s5,s6,s7,s8,key,of,sv,r,er,j,hE,hz,hk,hB,hkm,hm,hcase,rfl⟩:=(hJ7 st).1 hst
 clear hst
 have hzl:=lookH_lt hz (by simp)
 have hkl:=lookH_lt hk (by simp)
 have hml:=lookH_lt hm (by simp)
 obtain ⟨J8,hJ8⟩:∃ J:St→Prop,∀ st,J st ↔ (∃ (H:List Chunk) (km:Nat) (k f v s:Int) (d:Nat→By) (s5 s6 s7 s8:Sl) (key:Int) (of:Nat→By) (sv:SV) (r:List By) (er:Int) (j:Nat→Value),Ext (fun _=>False) h H∧lookH H h.length = Chunk.cells true [.int .i64 0,.int .i64 0,.int .i64 0,.int .i64 0,.fam 32 1 fun _=>.int .u8 0,.v (.slice none 0 0),.v (.slice none 0 0),.v (.slice none 0 0),.v (.slice none 0 0),.int .i64 0,.fam 32 1 fun _=>.int .u8 0]∧lookH H (h.length+1) = .cells true [sv,.int .i64 dp,.int .i64 er]∧RdB H sv r∧h.length+1 < km∧lookH H km = .cells true [.int .i64 k,.int .i64 f,.int .i64 v,.int .i64 s,.fam 32 1 fun i=>.int .u8 (nat (d i)),Sl.sv 1 s5,Sl.sv 1 s6,Sl.sv 73 s7,Sl.sv 74 s8,.int .i64 key,.fam 32 1 fun i=>.int .u8 (nat (of i))]∧((er ≠ 0∧R = .error er) ∨ (er = 0∧r.length≤1048576∧rng k∧rng f∧rng v∧rng s∧∃ b bs2,rowB (fresh h.length H) (Sl.sv 1 s5) b∧rowBs (fresh h.length H) (Sl.sv 1 s6) bs2∧∃ p m7 f7,s7 = .at m7 p.length∧lookH (fresh h.length H) m7 = .row true p.length 73 (fun i=>.agg (f7 i))∧MsgsH (fresh h.length H) p f7∧wfL p∧R = r8 (qM D) k f v s d b bs2 p r))∧st = ⟨⟨88,[(4,.ptr h.length 0),(6,.ptr (h.length+1) 0),(7,.ptr km 0)],j⟩,H,[]⟩):=⟨_,fun _=>Iff.rfl⟩
 refine codeP_seq (pl:=pl85) tabOk follows_mixed (by kernel_rfl) J8 ?_ ?_
 ·rcases hcase with ⟨hne,hR⟩ | ⟨rfl,hln,hg1,hg2,hg3,hg4,b,bs2,hb,hbs,hR⟩
  ·obtain ⟨k1,d1,x1,w1,N1,F1,rfl,hr1,hN1,hF1⟩:=id hB
   simp -implicitDefEqProofs (maxSteps:=1000000) (disch:=omega) only [↓zzP,zzA,reduceIte,Nat.reduceLT,↓reduceIte,Nat.reduceEqDiff,↓gd,↓opP,↓qv,slot,putS,putO,ofV]
   repeat (refine ⟨by omega,?_⟩)
   refine c133x H _ k1 d1 x1 _ dp er hk hne _ _ _ ?_
   simp -implicitDefEqProofs (maxSteps:=1000000) (disch:=omega) only [↓zzP,zzA,zzL,zzB,Nat.reduceSub,reduceIte,reduceCtorEq,Nat.reduceLT,↓reduceIte,Nat.reduceEqDiff,Nat.reduceLeDiff,↓gd,↓opP,↓qv,↓ef,↓stS,slot,putS,putO,fldA,sz,wrF,stor,Value.oneCell',hm,Sl.sz]
   repeat (refine ⟨by omega,?_⟩)
   exact into_keep [(4,.ptr h.length 0),(6,.ptr (h.length+1) 0),(7,.ptr km 0)] (by simp [sameT,slot,lkL]) fun j=>(hJ8 _).2 ⟨_,km,k,f,v,s,d,s5,s6,.nil,s8,key,of,_,_,_,j,hE.put (p:=km) _ (.inr (by omega)),by rw [lookH_put_ne _ (by omega)]; exact hz,by rw [lookH_put_ne _ (by omega)]; exact hk,RdB.put hB hm _,hkm,lookH_put_same _ (lookH_lt hm (by simp)),.inl ⟨hne,hR⟩,rfl⟩
  ·obtain ⟨k1,d1,x1,w1,N1,F1,rfl,hr1,hN1,hF1⟩:=id hB
   simp -implicitDefEqProofs (maxSteps:=1000000) (disch:=omega) only [↓zzP,zzA,reduceIte,Nat.reduceLT,↓reduceIte,Nat.reduceEqDiff,↓gd,↓opP,↓qv,slot,putS,putO,ofV]
   repeat (refine ⟨by omega,?_⟩)
   have hqx:QAt 134 (h.length+1) H RelM ErrM (qM D):=hq134 H _ k1 d1 x1 _ 0 (by rw [← hdp]; exact hk)
   refine c133 r H _ _ dp hk hB (by omega) (qM D) hqx (qM_ne D) 64 (by omega) _ (fun e2 he H1 sv1 ra hE1 hk1 hB1=>?_) (fun X ra he hle H1 sv1 m F2 hE1 hk1 hB1 hmm hrow hrel=>?_)
   ·have hne:=tl_err (qM_ne D) he
    have hR2:R = .error e2:=by rw [hR]; simp only [r7,he]
    have hEn:=ext_new hE hE1 (Nat.le_succ _)
    have hz2:=hE1.look hz (by simp) fun h=>absurd h (by omega)
    have hm2:=hE1.look hm (by simp) fun h=>absurd h (by omega)
    have hX:ExtR (fresh h.length H) (fresh h.length H1):=extR_fk hE1 hk
    have hle1:=hE.1
    simp -implicitDefEqProofs (maxSteps:=1000000) (disch:=omega) only [↓zzP,zzA,zzL,zzB,Nat.reduceSub,reduceIte,reduceCtorEq,Nat.reduceLT,↓reduceIte,Nat.reduceEqDiff,Nat.reduceLeDiff,↓gd,↓opP,↓qv,↓ef,↓stS,slot,putS,putO,fldA,sz,wrF,stor,Value.oneCell',hm2,Sl.sz]
    repeat (refine ⟨by omega,?_⟩)
    exact into_keep [(4,.ptr h.length 0),(6,.ptr (h.length+1) 0),(7,.ptr km 0)] (by simp [sameT,slot,lkL]) fun j=>(hJ8 _).2 ⟨_,km,k,f,v,s,d,s5,s6,.nil,s8,key,of,_,_,_,j,hEn.put (p:=km) _ (.inr (by omega)),by rw [lookH_put_ne _ (by omega)]; exact hz2,by rw [lookH_put_ne _ (by omega)]; exact hk1,RdB.put hB1 hm2 _,hkm,lookH_put_same _ (lookH_lt hm2 (by simp)),.inl ⟨hne,hR2⟩,rfl⟩
   ·simp only [r7,he] at hR
    have hEn:=ext_new hE hE1 (Nat.le_succ _)
    have hz2:=hE1.look hz (by simp) fun h=>absurd h (by omega)
    have hm2:=hE1.look hm (by simp) fun h=>absurd h (by omega)
    have hX:ExtR (fresh h.length H) (fresh h.length H1):=extR_fk hE1 hk
    have hle1:=hE.1
    simp -implicitDefEqProofs (maxSteps:=1000000) (disch:=omega) only [↓zzP,zzA,zzL,zzB,Nat.reduceSub,reduceIte,reduceCtorEq,Nat.reduceLT,↓reduceIte,Nat.reduceEqDiff,Nat.reduceLeDiff,↓gd,↓opP,↓qv,↓ef,↓stS,slot,putS,putO,fldA,sz,wrF,stor,hm2,Sl.sz]
    repeat (refine ⟨by omega,?_⟩)
    have hXm:MsgsH (fresh H.length H1) X F2:=MsgsH.mk fun i hi=>by
     obtain ⟨l,e1,hm3,_⟩:=hrel i hi
     cases e1
     exact hm3
    have hXw:wfL X:=wfL.mk fun i hi=>by
     obtain ⟨l,e1,_,hw1⟩:=hrel i hi
     exact hw1
    exact into_keep [(4,.ptr h.length 0),(6,.ptr (h.length+1) 0),(7,.ptr km 0)] (by simp [sameT,slot,lkL]) fun j=>(hJ8 _).2 ⟨_,km,k,f,v,s,d,s5,s6,(.at m X.length),s8,key,of,_,_,_,j,hEn.put (p:=km) _ (.inr (by omega)),by rw [lookH_put_ne _ (by omega)]; exact hz2,by rw [lookH_put_ne _ (by omega)]; exact hk1,RdB.put hB1 hm2 _,hkm,lookH_put_same _ (lookH_lt hm2 (by simp)),.inr ⟨rfl,by omega,hg1,hg2,hg3,hg4,b,bs2,hb.extR (extT hX (extR_cells _ hm2)),hbs.extR (extT hX (extR_cells _ hm2)),X,m,F2,rfl,(by rw [fresh_look,if_neg (by omega),lookH_put_ne _ (by omega)]; exact hrow),MsgsH.extR (extT (extR_f5 hle1) (extR_cells _ hm2)) hXm,hXw,hR⟩,rfl⟩
 intro st hst
 obtain ⟨H,km,k,f,v,s,d,s5,s6,s7,s8,key,of,sv,r,er,j,hE,hz,hk,hB,hkm,hm,hcase,rfl⟩:=(hJ8 st).1 hst
 clear hst
 have hzl:=lookH_lt hz (by simp)
 have hkl:=lookH_lt hk (by simp)
 have hml:=lookH_lt hm (by simp)
 obtain ⟨J9,hJ9⟩:∃ J:St→Prop,∀ st,J st ↔ (∃ (H:List Chunk) (km:Nat) (k f v s:Int) (d:Nat→By) (s5 s6 s7 s8:Sl) (key:Int) (of:Nat→By) (sv:SV) (r:List By) (er:Int) (j:Nat→Value),Ext (fun _=>False) h H∧lookH H h.length = Chunk.cells true [.int .i64 0,.int .i64 0,.int .i64 0,.int .i64 0,.fam 32 1 fun _=>.int .u8 0,.v (.slice none 0 0),.v (.slice none 0 0),.v (.slice none 0 0),.v (.slice none 0 0),.int .i64 0,.fam 32 1 fun _=>.int .u8 0]∧lookH H (h.length+1) = .cells true [sv,.int .i64 dp,.int .i64 er]∧RdB H sv r∧h.length+1 < km∧lookH H km = .cells true [.int .i64 k,.int .i64 f,.int .i64 v,.int .i64 s,.fam 32 1 fun i=>.int .u8 (nat (d i)),Sl.sv 1 s5,Sl.sv 1 s6,Sl.sv 73 s7,Sl.sv 74 s8,.int .i64 key,.fam 32 1 fun i=>.int .u8 (nat (of i))]∧((er ≠ 0∧R = .error er) ∨ (er = 0∧r.length≤1048576∧rng k∧rng f∧rng v∧rng s∧∃ b bs2,rowB (fresh h.length H) (Sl.sv 1 s5) b∧rowBs (fresh h.length H) (Sl.sv 1 s6) bs2∧∃ p m7 f7,s7 = .at m7 p.length∧lookH (fresh h.length H) m7 = .row true p.length 73 (fun i=>.agg (f7 i))∧MsgsH (fresh h.length H) p f7∧wfL p∧∃ q m8 f8,s8 = .at m8 q.length∧lookH (fresh h.length H) m8 = .row true q.length 74 (fun i=>.agg (f8 i))∧PrepsH (fresh h.length H) q f8∧wfQ q∧R = r9 k f v s d b bs2 p q r))∧st = ⟨⟨88,[(4,.ptr h.length 0),(6,.ptr (h.length+1) 0),(7,.ptr km 0)],j⟩,H,[]⟩):=⟨_,fun _=>Iff.rfl⟩
 refine codeP_seq (pl:=pl85) tabOk follows_mixed (by kernel_rfl) J9 ?_ ?_
 ·rcases hcase with ⟨hne,hR⟩ | ⟨rfl,hln,hg1,hg2,hg3,hg4,b,bs2,hb,hbs,p,m7,f7,hp1,hp2,hp3,hp4,hR⟩
  ·obtain ⟨k1,d1,x1,w1,N1,F1,rfl,hr1,hN1,hF1⟩:=id hB
   simp -implicitDefEqProofs (maxSteps:=1000000) (disch:=omega) only [↓zzP,zzA,reduceIte,Nat.reduceLT,↓reduceIte,Nat.reduceEqDiff,↓gd,↓opP,↓qv,slot,putS,putO,ofV]
   repeat (refine ⟨by omega,?_⟩)
   refine c135x H _ k1 d1 x1 _ dp er hk hne _ _ _ ?_
   simp -implicitDefEqProofs (maxSteps:=1000000) (disch:=omega) only [↓zzP,zzA,zzL,zzB,Nat.reduceSub,reduceIte,reduceCtorEq,Nat.reduceLT,↓reduceIte,Nat.reduceEqDiff,Nat.reduceLeDiff,↓gd,↓opP,↓qv,↓ef,↓stS,slot,putS,putO,fldA,sz,wrF,stor,Value.oneCell',hm,Sl.sz]
   repeat (refine ⟨by omega,?_⟩)
   exact into_keep [(4,.ptr h.length 0),(6,.ptr (h.length+1) 0),(7,.ptr km 0)] (by simp [sameT,slot,lkL]) fun j=>(hJ9 _).2 ⟨_,km,k,f,v,s,d,s5,s6,s7,.nil,key,of,_,_,_,j,hE.put (p:=km) _ (.inr (by omega)),by rw [lookH_put_ne _ (by omega)]; exact hz,by rw [lookH_put_ne _ (by omega)]; exact hk,RdB.put hB hm _,hkm,lookH_put_same _ (lookH_lt hm (by simp)),.inl ⟨hne,hR⟩,rfl⟩
  ·obtain ⟨k1,d1,x1,w1,N1,F1,rfl,hr1,hN1,hF1⟩:=id hB
   simp -implicitDefEqProofs (maxSteps:=1000000) (disch:=omega) only [↓zzP,zzA,reduceIte,Nat.reduceLT,↓reduceIte,Nat.reduceEqDiff,↓gd,↓opP,↓qv,slot,putS,putO,ofV]
   repeat (refine ⟨by omega,?_⟩)
   have hqx:QAt 136 (h.length+1) H RelP ErrP (qPf (qM D)):=c136 D H _ hkl fun H' hE'=>hq134 H' _ k1 d1 x1 _ 0 (by rw [← hdp]; exact hE'.look hk (by simp) fun h=>h)
   refine c135 r H _ _ dp hk hB (by omega) (qPf (qM D)) hqx (qPf_ne (qM_ne D)) 64 (by omega) _ (fun e2 he H1 sv1 ra hE1 hk1 hB1=>?_) (fun X ra he hle H1 sv1 m F2 hE1 hk1 hB1 hmm hrow hrel=>?_)
   ·have hne:=tl_err (qPf_ne (qM_ne D)) he
    have hR2:R = .error e2:=by rw [hR]; simp only [r8,he]
    have hEn:=ext_new hE hE1 (Nat.le_succ _)
    have hz2:=hE1.look hz (by simp) fun h=>absurd h (by omega)
    have hm2:=hE1.look hm (by simp) fun h=>absurd h (by omega)
    have hX:ExtR (fresh h.length H) (fresh h.length H1):=extR_fk hE1 hk
    have hle1:=hE.1
    simp -implicitDefEqProofs (maxSteps:=1000000) (disch:=omega) only [↓zzP,zzA,zzL,zzB,Nat.reduceSub,reduceIte,reduceCtorEq,Nat.reduceLT,↓reduceIte,Nat.reduceEqDiff,Nat.reduceLeDiff,↓gd,↓opP,↓qv,↓ef,↓stS,slot,putS,putO,fldA,sz,wrF,stor,Value.oneCell',hm2,Sl.sz]
    repeat (refine ⟨by omega,?_⟩)
    exact into_keep [(4,.ptr h.length 0),(6,.ptr (h.length+1) 0),(7,.ptr km 0)] (by simp [sameT,slot,lkL]) fun j=>(hJ9 _).2 ⟨_,km,k,f,v,s,d,s5,s6,s7,.nil,key,of,_,_,_,j,hEn.put (p:=km) _ (.inr (by omega)),by rw [lookH_put_ne _ (by omega)]; exact hz2,by rw [lookH_put_ne _ (by omega)]; exact hk1,RdB.put hB1 hm2 _,hkm,lookH_put_same _ (lookH_lt hm2 (by simp)),.inl ⟨hne,hR2⟩,rfl⟩
   ·simp only [r8,he] at hR
    have hEn:=ext_new hE hE1 (Nat.le_succ _)
    have hz2:=hE1.look hz (by simp) fun h=>absurd h (by omega)
    have hm2:=hE1.look hm (by simp) fun h=>absurd h (by omega)
    have hX:ExtR (fresh h.length H) (fresh h.length H1):=extR_fk hE1 hk
    have hle1:=hE.1
    simp -implicitDefEqProofs (maxSteps:=1000000) (disch:=omega) only [↓zzP,zzA,zzL,zzB,Nat.reduceSub,reduceIte,reduceCtorEq,Nat.reduceLT,↓reduceIte,Nat.reduceEqDiff,Nat.reduceLeDiff,↓gd,↓opP,↓qv,↓ef,↓stS,slot,putS,putO,fldA,sz,wrF,stor,hm2,Sl.sz]
    repeat (refine ⟨by omega,?_⟩)
    have hXm:PrepsH (fresh H.length H1) X F2:=PrepsH.mk fun i hi=>by
     obtain ⟨l,e1,hm3,_⟩:=hrel i hi
     cases e1
     exact hm3
    have hXw:wfQ X:=wfQ.mk fun i hi=>by
     obtain ⟨l,e1,_,hw1⟩:=hrel i hi
     exact hw1
    exact into_keep [(4,.ptr h.length 0),(6,.ptr (h.length+1) 0),(7,.ptr km 0)] (by simp [sameT,slot,lkL]) fun j=>(hJ9 _).2 ⟨_,km,k,f,v,s,d,s5,s6,s7,(.at m X.length),key,of,_,_,_,j,hEn.put (p:=km) _ (.inr (by omega)),by rw [lookH_put_ne _ (by omega)]; exact hz2,by rw [lookH_put_ne _ (by omega)]; exact hk1,RdB.put hB1 hm2 _,hkm,lookH_put_same _ (lookH_lt hm2 (by simp)),.inr ⟨rfl,by omega,hg1,hg2,hg3,hg4,b,bs2,hb.extR (extT hX (extR_cells _ hm2)),hbs.extR (extT hX (extR_cells _ hm2)),p,m7,f7,hp1,(extT hX (extR_cells _ hm2)) _ _ _ _ _ hp2,MsgsH.extR (extT hX (extR_cells _ hm2)) hp3,hp4,X,m,F2,rfl,(by rw [fresh_look,if_neg (by omega),lookH_put_ne _ (by omega)]; exact hrow),PrepsH.extR (extT (extR_f5 hle1) (extR_cells _ hm2)) hXm,hXw,hR⟩,rfl⟩
 intro st hst
 obtain ⟨H,km,k,f,v,s,d,s5,s6,s7,s8,key,of,sv,r,er,j,hE,hz,hk,hB,hkm,hm,hcase,rfl⟩:=(hJ9 st).1 hst
 clear hst
 have hzl:=lookH_lt hz (by simp)
 have hkl:=lookH_lt hk (by simp)
 have hml:=lookH_lt hm (by simp)
 obtain ⟨J10,hJ10⟩:∃ J:St→Prop,∀ st,J st ↔ (∃ (H:List Chunk) (km:Nat) (k f v s:Int) (d:Nat→By) (s5 s6 s7 s8:Sl) (key:Int) (of:Nat→By) (sv:SV) (r:List By) (er:Int) (j:Nat→Value),Ext (fun _=>False) h H∧lookH H h.length = Chunk.cells true [.int .i64 0,.int .i64 0,.int .i64 0,.int .i64 0,.fam 32 1 fun _=>.int .u8 0,.v (.slice none 0 0),.v (.slice none 0 0),.v (.slice none 0 0),.v (.slice none 0 0),.int .i64 0,.fam 32 1 fun _=>.int .u8 0]∧lookH H (h.length+1) = .cells true [sv,.int .i64 dp,.int .i64 er]∧RdB H sv r∧h.length+1 < km∧lookH H km = .cells true [.int .i64 k,.int .i64 f,.int .i64 v,.int .i64 s,.fam 32 1 fun i=>.int .u8 (nat (d i)),Sl.sv 1 s5,Sl.sv 1 s6,Sl.sv 73 s7,Sl.sv 74 s8,.int .i64 key,.fam 32 1 fun i=>.int .u8 (nat (of i))]∧((er ≠ 0∧R = .error er) ∨ (er = 0∧r.length≤1048576∧rng k∧rng f∧rng v∧rng s∧rng key∧∃ b bs2,rowB (fresh h.length H) (Sl.sv 1 s5) b∧rowBs (fresh h.length H) (Sl.sv 1 s6) bs2∧∃ p m7 f7,s7 = .at m7 p.length∧lookH (fresh h.length H) m7 = .row true p.length 73 (fun i=>.agg (f7 i))∧MsgsH (fresh h.length H) p f7∧wfL p∧∃ q m8 f8,s8 = .at m8 q.length∧lookH (fresh h.length H) m8 = .row true q.length 74 (fun i=>.agg (f8 i))∧PrepsH (fresh h.length H) q f8∧wfQ q∧R = r10 k f v s d b bs2 p q key r))∧st = ⟨⟨88,[(4,.ptr h.length 0),(6,.ptr (h.length+1) 0),(7,.ptr km 0)],j⟩,H,[]⟩):=⟨_,fun _=>Iff.rfl⟩
 refine codeP_seq (pl:=pl85) tabOk follows_mixed (by kernel_rfl) J10 ?_ ?_
 ·rcases hcase with ⟨hne,hR⟩ | ⟨rfl,hln,hg1,hg2,hg3,hg4,b,bs2,hb,hbs,p,m7,f7,hp1,hp2,hp3,hp4,q,m8,f8,hq1,hq2,hq3,hq4,hR⟩
  ·obtain ⟨k1,d1,x1,w1,N1,F1,rfl,hr1,hN1,hF1⟩:=id hB
   simp -implicitDefEqProofs (maxSteps:=1000000) (disch:=omega) only [↓zzP,zzA,reduceIte,Nat.reduceLT,↓reduceIte,Nat.reduceEqDiff,↓gd,↓opP,↓qv,slot,putS,putO]
   repeat (refine ⟨by omega,?_⟩)
   refine c127x H _ k1 d1 x1 _ dp er hk hne _ ?_
   simp -implicitDefEqProofs (maxSteps:=1000000) (disch:=omega) only [↓zzP,zzA,zzL,zzB,Nat.reduceSub,reduceIte,reduceCtorEq,Nat.reduceLT,↓reduceIte,Nat.reduceEqDiff,Nat.reduceLeDiff,↓gd,↓opP,↓qv,↓ef,↓stS,slot,putS,putO,fldA,sz,wrF,stor,hm,Sl.sz]
   repeat (refine ⟨by omega,?_⟩)
   exact into_keep [(4,.ptr h.length 0),(6,.ptr (h.length+1) 0),(7,.ptr km 0)] (by simp [sameT,slot,lkL]) fun j=>(hJ10 _).2 ⟨_,km,k,f,v,s,d,s5,s6,s7,s8,0,of,_,_,_,j,hE.put (p:=km) _ (.inr (by omega)),by rw [lookH_put_ne _ (by omega)]; exact hz,by rw [lookH_put_ne _ (by omega)]; exact hk,RdB.put hB hm _,hkm,lookH_put_same _ (lookH_lt hm (by simp)),.inl ⟨hne,hR⟩,rfl⟩
  ·simp -implicitDefEqProofs (maxSteps:=1000000) (disch:=omega) only [↓zzP,zzA,reduceIte,Nat.reduceLT,↓reduceIte,Nat.reduceEqDiff,↓gd,↓opP,↓qv,slot,putS,putO]
   repeat (refine ⟨by omega,?_⟩)
   refine c127 r H _ _ dp hk hB (by omega) _ (fun e2 he v0 H1 sv1 ra hE1 hk1 hB1=>?_) (fun x0 ra he H1 sv1 hE1 hk1 hB1=>?_)
   ·have hne:=pInt_ne he
    have hR2:R = .error e2:=by rw [hR]; simp only [r9,he]
    have hEn:=ext_new hE hE1 (Nat.le_succ _)
    have hz2:=hE1.look hz (by simp) fun h=>absurd h (by omega)
    have hm2:=hE1.look hm (by simp) fun h=>absurd h (by omega)
    have hX:ExtR (fresh h.length H) (fresh h.length H1):=extR_fk hE1 hk
    have hle1:=hE.1
    simp -implicitDefEqProofs (maxSteps:=1000000) (disch:=omega) only [↓zzP,zzA,zzL,zzB,Nat.reduceSub,reduceIte,reduceCtorEq,Nat.reduceLT,↓reduceIte,Nat.reduceEqDiff,Nat.reduceLeDiff,↓gd,↓opP,↓qv,↓ef,↓stS,slot,putS,putO,fldA,sz,wrF,stor,hm2,Sl.sz]
    repeat (refine ⟨by omega,?_⟩)
    exact into_keep [(4,.ptr h.length 0),(6,.ptr (h.length+1) 0),(7,.ptr km 0)] (by simp [sameT,slot,lkL]) fun j=>(hJ10 _).2 ⟨_,km,k,f,v,s,d,s5,s6,s7,s8,v0,of,_,_,_,j,hEn.put (p:=km) _ (.inr (by omega)),by rw [lookH_put_ne _ (by omega)]; exact hz2,by rw [lookH_put_ne _ (by omega)]; exact hk1,RdB.put hB1 hm2 _,hkm,lookH_put_same _ (lookH_lt hm2 (by simp)),.inl ⟨hne,hR2⟩,rfl⟩
   ·simp only [r9,he] at hR
    have hpo:=pInt_ok he
    have hEn:=ext_new hE hE1 (Nat.le_succ _)
    have hz2:=hE1.look hz (by simp) fun h=>absurd h (by omega)
    have hm2:=hE1.look hm (by simp) fun h=>absurd h (by omega)
    have hX:ExtR (fresh h.length H) (fresh h.length H1):=extR_fk hE1 hk
    have hle1:=hE.1
    simp -implicitDefEqProofs (maxSteps:=1000000) (disch:=omega) only [↓zzP,zzA,zzL,zzB,Nat.reduceSub,reduceIte,reduceCtorEq,Nat.reduceLT,↓reduceIte,Nat.reduceEqDiff,Nat.reduceLeDiff,↓gd,↓opP,↓qv,↓ef,↓stS,slot,putS,putO,fldA,sz,wrF,stor,hm2,Sl.sz]
    repeat (refine ⟨by omega,?_⟩)
    exact into_keep [(4,.ptr h.length 0),(6,.ptr (h.length+1) 0),(7,.ptr km 0)] (by simp [sameT,slot,lkL]) fun j=>(hJ10 _).2 ⟨_,km,k,f,v,s,d,s5,s6,s7,s8,x0,of,_,_,_,j,hEn.put (p:=km) _ (.inr (by omega)),by rw [lookH_put_ne _ (by omega)]; exact hz2,by rw [lookH_put_ne _ (by omega)]; exact hk1,RdB.put hB1 hm2 _,hkm,lookH_put_same _ (lookH_lt hm2 (by simp)),.inr ⟨rfl,by have:=hpo.2; omega,hg1,hg2,hg3,hg4,hpo.1,b,bs2,hb.extR (extT hX (extR_cells _ hm2)),hbs.extR (extT hX (extR_cells _ hm2)),p,m7,f7,hp1,(extT hX (extR_cells _ hm2)) _ _ _ _ _ hp2,MsgsH.extR (extT hX (extR_cells _ hm2)) hp3,hp4,q,m8,f8,hq1,(extT hX (extR_cells _ hm2)) _ _ _ _ _ hq2,PrepsH.extR (extT hX (extR_cells _ hm2)) hq3,hq4,hR⟩,rfl⟩
 intro st hst
 obtain ⟨H,km,k,f,v,s,d,s5,s6,s7,s8,key,of,sv,r,er,j,hE,hz,hk,hB,hkm,hm,hcase,rfl⟩:=(hJ10 st).1 hst
 clear hst
 have hzl:=lookH_lt hz (by simp)
 have hkl:=lookH_lt hk (by simp)
 have hml:=lookH_lt hm (by simp)
 obtain ⟨J11,hJ11⟩:∃ J:St→Prop,∀ st,J st ↔ (∃ (H:List Chunk) (km:Nat) (k f v s:Int) (d:Nat→By) (s5 s6 s7 s8:Sl) (key:Int) (of:Nat→By) (sv:SV) (r:List By) (er:Int) (j:Nat→Value),Ext (fun _=>False) h H∧lookH H h.length = Chunk.cells true [.int .i64 0,.int .i64 0,.int .i64 0,.int .i64 0,.fam 32 1 fun _=>.int .u8 0,.v (.slice none 0 0),.v (.slice none 0 0),.v (.slice none 0 0),.v (.slice none 0 0),.int .i64 0,.fam 32 1 fun _=>.int .u8 0]∧lookH H (h.length+1) = .cells true [sv,.int .i64 dp,.int .i64 er]∧RdB H sv r∧h.length+1 < km∧lookH H km = .cells true [.int .i64 k,.int .i64 f,.int .i64 v,.int .i64 s,.fam 32 1 fun i=>.int .u8 (nat (d i)),Sl.sv 1 s5,Sl.sv 1 s6,Sl.sv 73 s7,Sl.sv 74 s8,.int .i64 key,.fam 32 1 fun i=>.int .u8 (nat (of i))]∧((er ≠ 0∧R = .error er) ∨ (er = 0∧r.length≤1048576∧rng k∧rng f∧rng v∧rng s∧rng key∧∃ b bs2,rowB (fresh h.length H) (Sl.sv 1 s5) b∧rowBs (fresh h.length H) (Sl.sv 1 s6) bs2∧∃ p m7 f7,s7 = .at m7 p.length∧lookH (fresh h.length H) m7 = .row true p.length 73 (fun i=>.agg (f7 i))∧MsgsH (fresh h.length H) p f7∧wfL p∧∃ q m8 f8,s8 = .at m8 q.length∧lookH (fresh h.length H) m8 = .row true q.length 74 (fun i=>.agg (f8 i))∧PrepsH (fresh h.length H) q f8∧wfQ q∧R = r11 k f v s d b bs2 p q key of r))∧st = ⟨⟨88,[(4,.ptr h.length 0),(6,.ptr (h.length+1) 0),(7,.ptr km 0)],j⟩,H,[]⟩):=⟨_,fun _=>Iff.rfl⟩
 refine codeP_seq (pl:=pl85) tabOk follows_mixed (by kernel_rfl) J11 ?_ ?_
 ·rcases hcase with ⟨hne,hR⟩ | ⟨rfl,hln,hg1,hg2,hg3,hg4,hg5,b,bs2,hb,hbs,p,m7,f7,hp1,hp2,hp3,hp4,q,m8,f8,hq1,hq2,hq3,hq4,hR⟩
  ·obtain ⟨k1,d1,x1,w1,N1,F1,rfl,hr1,hN1,hF1⟩:=id hB
   simp -implicitDefEqProofs (maxSteps:=1000000) (disch:=omega) only [↓zzP,zzA,reduceIte,Nat.reduceLT,↓reduceIte,Nat.reduceEqDiff,↓gd,↓opP,↓qv,slot,putS,putO]
   repeat (refine ⟨by omega,?_⟩)
   refine c129x H _ k1 d1 x1 _ dp er hk hne _ (fun H1 hE1=>?_)
   have hEn:=hE.trans hE1
   have hz2:=hE1.look hz (by simp) fun h=>h
   have hk1:=hE1.look hk (by simp) fun h=>h
   have hm2:=hE1.look hm (by simp) fun h=>h
   have hB1:=RdB.ext hB (ext_rows hE1 fun _ h=>h.elim)
   simp -implicitDefEqProofs (maxSteps:=1000000) (disch:=omega) only [↓zzP,zzA,zzL,zzB,Nat.reduceSub,reduceIte,reduceCtorEq,Nat.reduceLT,↓reduceIte,Nat.reduceEqDiff,Nat.reduceLeDiff,Nat.reduceAdd,↓gd,↓opP,↓qv,↓ef,↓stS,slot,putS,putO,fldA,sz,wrF,stor,hm2,Sl.sz]
   repeat (refine ⟨by omega,?_⟩)
   exact into_keep [(4,.ptr h.length 0),(6,.ptr (h.length+1) 0),(7,.ptr km 0)] (by simp [sameT,slot,lkL]) fun j=>(hJ11 _).2 ⟨_,km,k,f,v,s,d,s5,s6,s7,s8,key,fun _=>0,_,_,_,j,hEn.put (p:=km) _ (.inr (by omega)),by rw [lookH_put_ne _ (by omega)]; exact hz2,by rw [lookH_put_ne _ (by omega)]; exact hk1,RdB.put hB1 hm2 _,hkm,lookH_put_same _ (lookH_lt hm2 (by simp)),.inl ⟨hne,hR⟩,rfl⟩
  ·simp -implicitDefEqProofs (maxSteps:=1000000) (disch:=omega) only [↓zzP,zzA,reduceIte,Nat.reduceLT,↓reduceIte,Nat.reduceEqDiff,↓gd,↓opP,↓qv,slot,putS,putO]
   repeat (refine ⟨by omega,?_⟩)
   refine c129 r H _ _ dp hk hB (by omega) _ (fun e2 he H1 sv1 ra hE1 hk1 hB1=>?_) (fun x0 ra he H1 sv1 hE1 hk1 hB1=>?_)
   ·have hne:=pDig_ne he
    have hR2:R = .error e2:=by rw [hR]; simp only [r10,he]
    have hEn:=ext_new hE hE1 (Nat.le_succ _)
    have hz2:=hE1.look hz (by simp) fun h=>absurd h (by omega)
    have hm2:=hE1.look hm (by simp) fun h=>absurd h (by omega)
    have hX:ExtR (fresh h.length H) (fresh h.length H1):=extR_fk hE1 hk
    have hle1:=hE.1
    simp -implicitDefEqProofs (maxSteps:=1000000) (disch:=omega) only [↓zzP,zzA,zzL,zzB,Nat.reduceSub,reduceIte,reduceCtorEq,Nat.reduceLT,↓reduceIte,Nat.reduceEqDiff,Nat.reduceLeDiff,Nat.reduceAdd,↓gd,↓opP,↓qv,↓ef,↓stS,slot,putS,putO,fldA,sz,wrF,stor,hm2,Sl.sz]
    repeat (refine ⟨by omega,?_⟩)
    exact into_keep [(4,.ptr h.length 0),(6,.ptr (h.length+1) 0),(7,.ptr km 0)] (by simp [sameT,slot,lkL]) fun j=>(hJ11 _).2 ⟨_,km,k,f,v,s,d,s5,s6,s7,s8,key,fun _=>0,_,_,_,j,hEn.put (p:=km) _ (.inr (by omega)),by rw [lookH_put_ne _ (by omega)]; exact hz2,by rw [lookH_put_ne _ (by omega)]; exact hk1,RdB.put hB1 hm2 _,hkm,lookH_put_same _ (lookH_lt hm2 (by simp)),.inl ⟨hne,hR2⟩,rfl⟩
   ·simp only [r10,he] at hR
    have hpo:=pDig_ok he
    have hEn:=ext_new hE hE1 (Nat.le_succ _)
    have hz2:=hE1.look hz (by simp) fun h=>absurd h (by omega)
    have hm2:=hE1.look hm (by simp) fun h=>absurd h (by omega)
    have hX:ExtR (fresh h.length H) (fresh h.length H1):=extR_fk hE1 hk
    have hle1:=hE.1
    unfold dig32
    simp -implicitDefEqProofs (maxSteps:=1000000) (disch:=omega) only [↓zzP,zzA,zzL,zzB,Nat.reduceSub,reduceIte,reduceCtorEq,Nat.reduceLT,↓reduceIte,Nat.reduceEqDiff,Nat.reduceLeDiff,Nat.reduceAdd,↓gd,↓opP,↓qv,↓ef,↓stS,slot,putS,putO,fldA,sz,wrF,stor,hm2,Sl.sz]
    repeat (refine ⟨by omega,?_⟩)
    exact into_keep [(4,.ptr h.length 0),(6,.ptr (h.length+1) 0),(7,.ptr km 0)] (by simp [sameT,slot,lkL]) fun j=>(hJ11 _).2 ⟨_,km,k,f,v,s,d,s5,s6,s7,s8,key,x0,_,_,_,j,hEn.put (p:=km) _ (.inr (by omega)),by rw [lookH_put_ne _ (by omega)]; exact hz2,by rw [lookH_put_ne _ (by omega)]; exact hk1,RdB.put hB1 hm2 _,hkm,lookH_put_same _ (lookH_lt hm2 (by simp)),.inr ⟨rfl,by omega,hg1,hg2,hg3,hg4,hg5,b,bs2,hb.extR (extT hX (extR_cells _ hm2)),hbs.extR (extT hX (extR_cells _ hm2)),p,m7,f7,hp1,(extT hX (extR_cells _ hm2)) _ _ _ _ _ hp2,MsgsH.extR (extT hX (extR_cells _ hm2)) hp3,hp4,q,m8,f8,hq1,(extT hX (extR_cells _ hm2)) _ _ _ _ _ hq2,PrepsH.extR (extT hX (extR_cells _ hm2)) hq3,hq4,hR⟩,rfl⟩
 intro st hst
 obtain ⟨H,km,k,f,v,s,d,s5,s6,s7,s8,key,of,sv,r,er,j,hE,hz,hk,hB,hkm,hm,hcase,rfl⟩:=(hJ11 st).1 hst
 clear hst
 have hzl:=lookH_lt hz (by simp)
 have hkl:=lookH_lt hk (by simp)
 have hml:=lookH_lt hm (by simp)
 obtain ⟨J12,hJ12⟩:∃ J:St→Prop,∀ st,J st ↔ (∃ (H:List Chunk) (km:Nat) (k f v s:Int) (d:Nat→By) (s5 s6 s7 s8:Sl) (key:Int) (of:Nat→By) (sv:SV) (r:List By) (er:Int) (j:Nat→Value),Ext (fun _=>False) h H∧lookH H h.length = Chunk.cells true [.int .i64 0,.int .i64 0,.int .i64 0,.int .i64 0,.fam 32 1 fun _=>.int .u8 0,.v (.slice none 0 0),.v (.slice none 0 0),.v (.slice none 0 0),.v (.slice none 0 0),.int .i64 0,.fam 32 1 fun _=>.int .u8 0]∧lookH H (h.length+1) = .cells true [sv,.int .i64 dp,.int .i64 er]∧RdB H sv r∧h.length+1 < km∧lookH H km = .cells true [.int .i64 k,.int .i64 f,.int .i64 v,.int .i64 s,.fam 32 1 fun i=>.int .u8 (nat (d i)),Sl.sv 1 s5,Sl.sv 1 s6,Sl.sv 73 s7,Sl.sv 74 s8,.int .i64 key,.fam 32 1 fun i=>.int .u8 (nat (of i))]∧((er ≠ 0∧R = .error er) ∨ (er = 0∧r.length≤1048576∧rng k∧rng f∧rng v∧rng s∧rng key∧∃ b bs2,rowB (fresh h.length H) (Sl.sv 1 s5) b∧rowBs (fresh h.length H) (Sl.sv 1 s6) bs2∧∃ p m7 f7,s7 = .at m7 p.length∧lookH (fresh h.length H) m7 = .row true p.length 73 (fun i=>.agg (f7 i))∧MsgsH (fresh h.length H) p f7∧wfL p∧∃ q m8 f8,s8 = .at m8 q.length∧lookH (fresh h.length H) m8 = .row true q.length 74 (fun i=>.agg (f8 i))∧PrepsH (fresh h.length H) q f8∧wfQ q∧R = .ok (.mk k f v s d b bs2 p q key of)))∧st = ⟨⟨88,[(4,.ptr h.length 0),(6,.ptr (h.length+1) 0),(7,.ptr km 0)],j⟩,H,[]⟩):=⟨_,fun _=>Iff.rfl⟩
 refine codeP_seq (pl:=pl85) tabOk follows_mixed (by kernel_rfl) J12 ?_ ?_
 ·rcases hcase with ⟨hne,hR⟩ | ⟨rfl,hln,hg1,hg2,hg3,hg4,hg5,b,bs2,hb,hbs,p,m7,f7,hp1,hp2,hp3,hp4,q,m8,f8,hq1,hq2,hq3,hq4,hR⟩
  ·obtain ⟨k1,d1,x1,w1,N1,F1,rfl,hr1,hN1,hF1⟩:=id hB
   have zz:(er == 0) = false:=beq_eq_false_iff_ne.2 hne
   simp -implicitDefEqProofs (maxSteps:=1000000) (disch:=omega) only [↓zzP,zzA,zzL,zzB,Nat.reduceSub,reduceIte,reduceCtorEq,Nat.reduceLT,↓reduceIte,Nat.reduceEqDiff,Nat.reduceLeDiff,Array.reduceGetElem?,↓gd,↓opP,↓qv,slot,putS,putO,ofV,fldA,rdF,Ent.row,ldS,sz,binH,binS2,binS,zz,hk]
   repeat (refine ⟨by omega,?_⟩)
   exact into_keep [(4,.ptr h.length 0),(6,.ptr (h.length+1) 0),(7,.ptr km 0)] (by simp [sameT,slot,lkL]) fun j=>(hJ12 _).2 ⟨_,km,k,f,v,s,d,s5,s6,s7,s8,key,of,_,_,_,j,hE,hz,hk,hB,hkm,hm,.inl ⟨hne,hR⟩,rfl⟩
  ·obtain ⟨k1,d1,x1,w1,N1,F1,rfl,hr1,hN1,hF1⟩:=id hB
   have zz:((0:Int) == 0) = true:=rfl
   by_cases c:0 < r.length
   ·have z2:decide ((r.length:Int) > 0) = true:=decide_eq_true (by omega)
    have hR2:R = .error 4:=by rw [hR,r11,if_pos c]
    simp -implicitDefEqProofs (maxSteps:=1000000) (disch:=omega) only [↓zzP,zzA,zzL,zzB,Nat.reduceSub,reduceIte,reduceCtorEq,Nat.reduceLT,↓reduceIte,Nat.reduceEqDiff,Nat.reduceLeDiff,Array.reduceGetElem?,↓gd,↓opP,↓qv,↓ef,↓stS,slot,putS,putO,ofV,fldA,lenS,rdF,Ent.row,ldS,sz,wrF,binH,binS2,binS,stor,zz,hk,z2]
    repeat (refine ⟨by omega,?_⟩)
    exact into_keep [(4,.ptr h.length 0),(6,.ptr (h.length+1) 0),(7,.ptr km 0)] (by simp [sameT,slot,lkL]) fun j=>(hJ12 _).2 ⟨_,km,k,f,v,s,d,s5,s6,s7,s8,key,of,_,_,_,j,hE.put (p:=h.length+1) _ (.inr (by omega)),by rw [lookH_put_ne _ (by omega)]; exact hz,lookH_put_same _ hkl,RdB.put hB hk _,hkm,by rw [lookH_put_ne _ (by omega)]; exact hm,.inl ⟨by decide,hR2⟩,rfl⟩
   ·have z2:decide ((r.length:Int) > 0) = false:=decide_eq_false (by omega)
    have hR2:R = .ok (.mk k f v s d b bs2 p q key of):=by rw [hR,r11,if_neg c]
    simp -implicitDefEqProofs (maxSteps:=1000000) (disch:=omega) only [↓zzP,zzA,zzL,zzB,Nat.reduceSub,reduceIte,reduceCtorEq,Nat.reduceLT,↓reduceIte,Nat.reduceEqDiff,Nat.reduceLeDiff,Array.reduceGetElem?,↓gd,↓opP,↓qv,slot,putS,putO,ofV,fldA,lenS,rdF,Ent.row,ldS,sz,binH,binS2,binS,zz,hk,z2]
    repeat (refine ⟨by omega,?_⟩)
    exact into_keep [(4,.ptr h.length 0),(6,.ptr (h.length+1) 0),(7,.ptr km 0)] (by simp [sameT,slot,lkL]) fun j=>(hJ12 _).2 ⟨_,km,k,f,v,s,d,s5,s6,s7,s8,key,of,_,_,_,j,hE,hz,hk,hB,hkm,hm,.inr ⟨rfl,hln,hg1,hg2,hg3,hg4,hg5,b,bs2,hb,hbs,p,m7,f7,hp1,hp2,hp3,hp4,q,m8,f8,hq1,hq2,hq3,hq4,hR2⟩,rfl⟩
 intro st hst
 obtain ⟨H,km,k,f,v,s,d,s5,s6,s7,s8,key,of,sv,r,er,j,hE,hz,hk,hB,hkm,hm,hcase,rfl⟩:=(hJ12 st).1 hst
 clear hst
 have hzl:=lookH_lt hz (by simp)
 have hkl:=lookH_lt hk (by simp)
 have hml:=lookH_lt hm (by simp)
 obtain ⟨k1,d1,x1,w1,N1,F1,rfl,hr1,hN1,hF1⟩:=id hB
 refine codeP_of_vc (pl:=pl85) tabOk follows_mixed (by kernel_rfl) ?_
 simp -implicitDefEqProofs (maxSteps:=1000000) (disch:=omega) only [↓zzP,zzA,zzL,zzB,Nat.reduceSub,reduceIte,reduceCtorEq,Nat.reduceLT,↓reduceIte,Nat.reduceEqDiff,Nat.reduceLeDiff,Nat.reduceAdd,Array.reduceGetElem?,↓gd,↓opP,↓qv,↓ef,↓stS,slot,putS,putO,fldA,rdF,Ent.row,ldS,sz,wrF,stor,qn,ldN,pl85,hm,hk,hz,lookH_put_same,Sl.sz,Sl.stor]
 repeat (refine ⟨by omega,?_⟩)
 refine ⟨by rw [lookH_put_ne _ (by omega)]; exact hk,intoR_refl (by rw [putH_len]; exact hE.1) ?_⟩
 have hEf:=hE.put (p:=h.length) (.cells true [.int .i64 k,.int .i64 f,.int .i64 v,.int .i64 s,.fam 32 1 fun i=>.int .u8 (nat (d i)),Sl.sv 1 s5,Sl.sv 1 s6,Sl.sv 73 s7,Sl.sv 74 s8,.int .i64 key,.fam 32 1 fun i=>.int .u8 (nat (of i))]) (.inr (Nat.le_refl _))
 rcases hcase with ⟨hne,hR⟩ | ⟨rfl,hln,hg1,hg2,hg3,hg4,hg5,b,bs2,hb,hbs,p,m7,f7,hp1,hp2,hp3,hp4,q,m8,f8,hq1,hq2,hq3,hq4,hR⟩
 ·exact hEE er hR _ _ hEf ⟨_,rfl,k,f,v,s,d,s5,s6,s7,s8,key,of,rfl⟩
 ·subst hp1 hq1
  have hT:ExtR (fresh h.length H) (fresh h.length (putH H h.length (.cells true [.int .i64 k,.int .i64 f,.int .i64 v,.int .i64 s,.fam 32 1 fun i=>.int .u8 (nat (d i)),Sl.sv 1 s5,Sl.sv 1 s6,Sl.sv 73 (.at m7 p.length),Sl.sv 74 (.at m8 q.length),.int .i64 key,.fam 32 1 fun i=>.int .u8 (nat (of i))]))):=extR_cells _ hz
  refine hOO _ hR _ _ hEf ⟨_,rfl,?_,?_⟩
  ·rw [MsgH]
   exact ⟨_,_,m7,true,f7,m8,true,f8,rfl,hb.extR hT,hbs.extR hT,hT _ _ _ _ _ hp2,MsgsH.extR hT hp3,hT _ _ _ _ _ hq2,PrepsH.extR hT hq3⟩
  ·rw [wfM]
   exact ⟨hg1,hg2,hg3,hg4,hg5,hp4,hq4⟩
end Go.Proofs.Ytgocfglmideobaa
set_option linter.all false
set_option maxRecDepth 40000
namespace Go.Proofs.Ytgocfglmideobaa
open Go Go.Sx
theorem res38:Try.f38.results.toList = [.cell 2 31,.tmp 3]:=rfl
theorem readAt:∀ D,D≤5→ReadAt D
 | 0,h=>c85 0 h fun h kr kx dx ex nx ee hk=>c134z h kr kx dx ex nx ee hk
 | D+1,h=>c85 (D+1) h fun h kr kx dx ex nx ee hk=>c134s D (readAt D (by omega)) h kr kx dx ex nx ee (by omega) hk
def decS (bs:List By):Except Int Msg:=if 1048576 < bs.length then .error 2 else
 match rdMsg (qM 2) bs with
 | .error e=>.error e
 | .ok m=>if may m = 0 then .ok m else .error (may m)
theorem decS_e {bs:List By} {e:Int} (hl:¬ 1048576 < bs.length) (h:rdMsg (qM 2) bs = .error e):decS bs = .error e:=by unfold decS; rw [if_neg hl,h]
theorem decS_o {bs:List By} {m:Msg} (hl:¬ 1048576 < bs.length) (h:rdMsg (qM 2) bs = .ok m):decS bs = if may m = 0 then .ok m else .error (may m):=by unfold decS; rw [if_neg hl,h]
set_option maxHeartbeats 4000000 in
theorem c38 (bs:List By) (h:List Chunk) (k d e:Nat) (w:Bool) (N:Nat) (F:Nat→SV) (hr:lookH h k = .row w N 1 F) (hN:e+bs.length≤N) (hF:∀ i,i < bs.length→F (e+i) = .int .u8 (nat (bs.getD i 0))) (K:Tok→SV→List Chunk→Prop) (hE:∀ er,decS bs = .error er→∀ H,Ext (fun _=>False) h H→K .mk (.tup [.agg [.int .i64 0,.int .i64 0,.int .i64 0,.int .i64 0,.fam 32 1 fun _=>.int .u8 0,.v (.slice none 0 0),.v (.slice none 0 0),.v (.slice none 0 0),.v (.slice none 0 0),.int .i64 0,.fam 32 1 fun _=>.int .u8 0],.int .i64 er]) H) (hO:∀ m,decS bs = .ok m→∀ H sv,Ext (fun _=>False) h H→RelM H m sv→K .mk (.tup [sv,.int .i64 0]) H):callP Try.prog 38 [.osl k d e 1 bs.length] h K:=by
 refine callP_of_code tabOk Try.func38 (by kernel_rfl) rfl (Nat.le_of_ble_eq_true rfl) (codeP_of_vc (pl:=np) tabOk follows_mixed (by kernel_rfl) ?_)
 rw [Try.ntmps38]
 by_cases c:1048576 < bs.length
 ·have z1:decide ((bs.length:Int) > 1048576) = true:=decide_eq_true (by omega)
  simp -implicitDefEqProofs (maxSteps:=1000000) (disch:=omega) only [↓zzP,zzA,zzL,zzB,Nat.reduceSub,reduceIte,reduceCtorEq,Nat.reduceLT,↓reduceIte,Nat.reduceEqDiff,Nat.reduceLeDiff,Nat.reduceAdd,↓gd,↓opP,↓qv,↓ef,↓stS,slot,putS,putO,ofV,lenS,asRow,rdF,Ent.row,ldS,sz,wrF,bldS,binH,binS2,binS,tupS,stor,Value.oneCell',res38,z1]
  repeat (refine ⟨by omega,?_⟩)
  exact intoR_refl (by simp) (hE 2 (by unfold decS; rw [if_pos c]) _ ((Ext.refl _ _).app _))
 ·have z1:decide ((bs.length:Int) > 1048576) = false:=decide_eq_false (by omega)
  simp -implicitDefEqProofs (maxSteps:=1000000) (disch:=omega) only [↓zzP,zzA,zzB,reduceIte,reduceCtorEq,Nat.reduceLT,↓reduceIte,↓gd,↓opP,↓qv,↓ef,slot,putS,putO,ofV,lenS,asRow,rdF,Ent.row,ldS,binH,binS2,binS,tupS,res38,z1]
  repeat (refine ⟨by omega,?_⟩)
  obtain ⟨H0,hH0⟩:∃ H0,H0 = h++[Chunk.cells true [.int .i64 0,.int .i64 0,.int .i64 0,.int .i64 0,.fam 32 1 fun _=>.int .u8 0,.v (.slice none 0 0),.v (.slice none 0 0),.v (.slice none 0 0),.v (.slice none 0 0),.int .i64 0,.fam 32 1 fun _=>.int .u8 0]]:=⟨_,rfl⟩
  have hE0:Ext (fun _=>False) h H0:=by rw [hH0]; exact (Ext.refl _ _).app _
  have e0:lookH H0 h.length = Chunk.cells true [.int .i64 0,.int .i64 0,.int .i64 0,.int .i64 0,.fam 32 1 fun _=>.int .u8 0,.v (.slice none 0 0),.v (.slice none 0 0),.v (.slice none 0 0),.v (.slice none 0 0),.int .i64 0,.fam 32 1 fun _=>.int .u8 0]:=by rw [hH0]; exact lookH_app0 _ _
  have hr0:=hE0.look hr (by simp) fun h=>h
  rw [← hH0]
  refine readAt 2 (by omega) bs H0 k d e w N F hr0 hN hF (by omega) _ (fun er he H1 x hE1 hx=>?_) (fun m he H1 sv hE1 hrel=>?_)
  ·obtain ⟨lx,rfl,yk,yf,yv,ys,yd,s5,s6,s7,s8,ykey,yof,rfl⟩:=hx
   have hne:=rdMsg_ne (qM_ne 2) _ _ he
   have z2:(er == 0) = false:=beq_eq_false_iff_ne.2 hne
   have z3:(er != 0) = true:=bne_iff_ne.2 hne
   have f0:=hE1.look e0 (by simp) fun h=>h
   have l0:=lookH_lt f0 (by simp)
   have hE2:=hE0.trans hE1
   simp -implicitDefEqProofs (maxSteps:=1000000) (disch:=omega) only [↓zzP,zzA,zzL,zzB,Nat.reduceSub,reduceIte,reduceCtorEq,Nat.reduceLT,↓reduceIte,Nat.reduceEqDiff,Nat.reduceLeDiff,Nat.reduceAdd,↓gd,↓opP,↓qv,↓ef,↓stS,slot,putS,putO,ofV,asRow,sz,wrF,bldS,binH,binS2,binS,stor,Value.oneCell',z2,z3,f0,lookH_at,putH_at,lookH_pB,lookH_put_same,Sl.sz,Sl.stor]
   repeat (refine ⟨by omega,?_⟩)
   exact intoR_refl (by rw [List.length_append,putH_len]; exact Nat.le_trans hE2.1 (Nat.le_add_right _ _)) (hE er (decS_e c he) _ ((hE2.put (p:=h.length) _ (.inr (Nat.le_refl _))).app _))
  ·obtain ⟨lx,rfl,hmx,hwx⟩:=id hrel
   obtain ⟨xk,xf,xv,xs,xd,xkb,xnb,xkbs,xnbs,xkp,xnp,xkq,xnq,xkey,xof,rfl⟩:=hmx.open
   have z2:((0:Int) == 0) = true:=rfl
   have z3:((0:Int) != 0) = false:=rfl
   have f0:=hE1.look e0 (by simp) fun h=>h
   have l0:=lookH_lt f0 (by simp)
   have hE2:=hE0.trans hE1
   have hd:=decS_o c he
   simp -implicitDefEqProofs (maxSteps:=1000000) (disch:=omega) only [↓zzP,zzA,zzL,zzB,Nat.reduceSub,reduceIte,reduceCtorEq,Nat.reduceLT,↓reduceIte,Nat.reduceEqDiff,Nat.reduceLeDiff,Nat.reduceAdd,↓gd,↓opP,↓qv,↓ef,↓stS,slot,putS,putO,ofV,rdF,Ent.row,ldS,sz,wrF,binH,binS2,binS,stor,z2]
   repeat (refine ⟨by omega,?_⟩)
   refine c15 m _ _ (MsgH.extR (extT (extR_fresh _ _) (extR_app _ _)) hmx) _ ?_
   by_cases c2:may m = 0
   ·rw [if_pos c2] at hd
    rw [c2]
    simp -implicitDefEqProofs (maxSteps:=1000000) (disch:=omega) only [↓zzP,zzA,zzL,zzB,Nat.reduceSub,reduceIte,reduceCtorEq,Nat.reduceLT,↓reduceIte,Nat.reduceEqDiff,Nat.reduceLeDiff,Nat.reduceAdd,↓gd,↓opP,↓qv,↓ef,↓stS,slot,putS,putO,ofV,rdF,Ent.row,ldS,sz,wrF,binH,binS2,binS,stor,z3,f0,lookH_at,putH_at,lookH_pB,lookH_put_same]
    repeat (refine ⟨by omega,?_⟩)
    refine intoR_refl (by rw [List.length_append,putH_len]; exact Nat.le_trans hE2.1 (Nat.le_add_right _ _)) (hO m hd _ _ ((hE2.put (p:=h.length) _ (.inr (Nat.le_refl _))).app _) ⟨_,rfl,?_,hwx⟩)
    exact hmx.extR (extT (extR_f7 hE0.1 (lookH_lt e0 (by simp)) _) (extT (extR_fresh _ _) (extR_app _ _)))
   ·rw [if_neg c2] at hd
    have z4:(may m != 0) = true:=bne_iff_ne.2 c2
    simp -implicitDefEqProofs (maxSteps:=1000000) (disch:=omega) only [↓zzP,zzA,zzL,zzB,Nat.reduceSub,reduceIte,reduceCtorEq,Nat.reduceLT,↓reduceIte,Nat.reduceEqDiff,Nat.reduceLeDiff,Nat.reduceAdd,↓gd,↓opP,↓qv,↓ef,↓stS,slot,putS,putO,ofV,asRow,sz,wrF,bldS,binH,binS2,binS,stor,Value.oneCell',z4,f0,lookH_at,putH_at,lookH_pB,lookH_put_same]
    repeat (refine ⟨by omega,?_⟩)
    exact intoR_refl (by rw [List.length_append,putH_len]; exact Nat.le_trans hE2.1 (Nat.le_add_right _ _)) (hE _ hd _ ((hE2.put (p:=h.length) _ (.inr (Nat.le_refl _))).app _))
end Go.Proofs.Ytgocfglmideobaa
set_option linter.all false
set_option maxRecDepth 40000
namespace Go.Proofs.Ytgocfglmideobaa
open Go Go.Sx
def nv:List By→Nat→Nat
 | [],_=>0
 | b :: l,0=>b.toNat % 128
 | b :: l,k+1=>nv l k * 128+b.toNat % 128
theorem tv_cons (b:By) (l:List By) (k:Nat):∀ c,c≤k+1→tv (b :: l) (k+1) c = tv l k c
 | 0,_=>rfl
 | c+1,h=>by
  rw [tv,tv,tv_cons b l k c (by omega),show k+1 - c = (k - c)+1 by omega]
  rfl
theorem or_low (x:BitVec 64) (b:By):(x <<< 7 ||| (b &&& 127#8).setWidth 64).toNat = (x.toNat * 128+b.toNat % 128) % 18446744073709551616:=by
 have hb:((b &&& 127#8).setWidth 64).toNat = b.toNat % 128:=by
  rw [BitVec.toNat_setWidth,BitVec.toNat_and,show (127#8).toNat = 2 ^ 7 - 1 from rfl,Nat.and_two_pow_sub_one_eq_mod]
  have:=b.isLt
  omega
 rw [BitVec.toNat_or,hb,BitVec.toNat_shiftLeft,Nat.shiftLeft_eq]
 have e:x.toNat * 2 ^ 7 % 2 ^ 64 = (x.toNat % 2 ^ 57) <<< 7:=by rw [Nat.shiftLeft_eq]; omega
 rw [e,← Nat.shiftLeft_add_eq_or_of_lt (by omega),Nat.shiftLeft_eq]
 omega
theorem tv_nv:∀ (k:Nat) (l:List By),k < l.length→(tv l k (k+1)).toNat = nv l k % 18446744073709551616
 | 0,b :: l,_=>by
  rw [tv,tv,nv,show (b :: l).getD (0 - 0) 0 = b from rfl,or_low]
  simp
 | k+1,b :: l,h=>by
  rw [List.length_cons] at h
  rw [tv,tv_cons b l k (k+1) (Nat.le_refl _),show (b :: l).getD (k+1 - (k+1)) 0 = b by rw [Nat.sub_self]; rfl,or_low,tv_nv k l (by omega),nv]
  omega
theorem nv_lt:∀ (k:Nat) (l:List By),nv l k < 128 ^ k * ((l.getD k 0).toNat % 128+1)
 | _,[]=>by simp [nv]; exact Nat.pow_pos (by decide)
 | 0,b :: l=>by simp [nv]
 | k+1,b :: l=>by
  have h:=nv_lt k l
  rw [nv,show (b :: l).getD (k+1) 0 = l.getD k 0 from rfl,Nat.pow_succ,Nat.mul_right_comm]
  have:=Nat.mod_lt b.toNat (show 0 < 128 by decide)
  omega
theorem tEnd_low:∀ l:List By,tEnd l < l.length→(l.getD (tEnd l) 0).toNat < 128
 | [],h=>absurd h (by simp)
 | b :: l,h=>by
  rw [tEnd] at h ⊢
  by_cases c:128≤b.toNat
  ·rw [if_pos c] at h ⊢
   exact tEnd_low l (by rw [List.length_cons] at h; omega)
  ·rw [if_neg c]
   show b.toNat < 128
   omega
theorem nv_pos:∀ l:List By,tEnd l < l.length→l.getD (tEnd l) 0 ≠ 0→0 < nv l (tEnd l)
 | [],h,_=>absurd h (by simp)
 | b :: l,h,h0=>by
  rw [tEnd] at h h0 ⊢
  by_cases c:128≤b.toNat
  ·rw [if_pos c] at h h0 ⊢
   have:=nv_pos l (by rw [List.length_cons] at h; omega) h0
   rw [nv]
   omega
  ·rw [if_neg c] at h0 ⊢
   have h1:b ≠ 0:=h0
   have h2:b.toNat ≠ 0:=fun e=>h1 (BitVec.eq_of_toNat_eq (by rw [e]; rfl))
   rw [nv]
   omega
theorem byte_of (b:By) (n:Nat) (h:n = b.toNat):BitVec.ofNat 8 n = b:=by
 apply BitVec.eq_of_toNat_eq
 rw [BitVec.toNat_ofNat,h]
 exact Nat.mod_eq_of_lt b.isLt
theorem leb_nv:∀ l:List By,tEnd l < l.length→(0 < tEnd l→l.getD (tEnd l) 0 ≠ 0)→leb (nv l (tEnd l)) = l.take (tEnd l+1)
 | [],h,_=>absurd h (by simp)
 | b :: l,h,h0=>by
  rw [tEnd] at h h0 ⊢
  have hb:=b.isLt
  by_cases c:128≤b.toNat
  ·rw [if_pos c] at h h0 ⊢
   rw [List.length_cons] at h
   have h1:=h0 (Nat.succ_pos _)
   have hp:=nv_pos l (by omega) h1
   have hi:=leb_nv l (by omega) fun _=>h1
   rw [nv,leb_ge (by omega),show (nv l (tEnd l) * 128+b.toNat % 128) / 128 = nv l (tEnd l) by omega,hi,byte_of b _ (by omega)]
   rfl
  ·rw [if_neg c,nv,leb_lt (by omega),byte_of b _ (by omega)]
   rfl
theorem tk_back {bs:List By} {n:BitVec 64} {u:Nat} (h:tk bs = .ok (n,u)):leb n.toNat = bs.take u∧u≤bs.length:=by
 have hu:=tk_ok h
 refine ⟨?_,hu.2.1⟩
 have hle:=tEnd_le bs
 unfold tk at h
 split at h
 ·cases h
 rename_i h1
 split at h
 ·cases h
 rename_i h2
 cases h
 have hlt:tEnd bs < bs.length:=by omega
 have hb:nv bs (tEnd bs) < 18446744073709551616:=by
  have h3:=nv_lt (tEnd bs) bs
  have h4:=tEnd_low bs hlt
  by_cases c:tEnd bs = 9
  ·have h5:(bs.getD 9 0).toNat≤1:=by
    refine Nat.le_of_not_lt fun h=>h2 (.inr (.inl ⟨c,h⟩))
   rw [c] at h3 ⊢
   have:128 ^ 9 * ((bs.getD 9 0).toNat % 128+1)≤128 ^ 9 * 2:=Nat.mul_le_mul_left _ (by omega)
   omega
  ·have h6:tEnd bs≤8:=by
    refine Nat.le_of_not_lt fun h=>h2 (.inl ?_)
    omega
   have:128 ^ tEnd bs * ((bs.getD (tEnd bs) 0).toNat % 128+1)≤128 ^ 8 * 128:=Nat.mul_le_mul (Nat.pow_le_pow_right (by decide) h6) (by omega)
   omega
 rw [tv_nv _ _ hlt,Nat.mod_eq_of_lt hb]
 exact leb_nv bs hlt fun h3 h4=>h2 (.inr (.inr ⟨h3,h4⟩))
theorem tEnd_app:∀ {bs:List By} (y:List By),tEnd bs ≠ bs.length→tEnd (bs++y) = tEnd bs
 | [],y,h=>absurd rfl h
 | b :: l,y,h=>by
  rw [List.cons_append,tEnd,tEnd]
  rw [tEnd,List.length_cons] at h
  by_cases c:128≤b.toNat
  ·rw [if_pos c,if_pos c]
   rw [if_pos c] at h
   rw [tEnd_app y (by omega)]
  ·rw [if_neg c,if_neg c]
theorem getD_app {bs y:List By} {i:Nat} (h:i < bs.length):(bs++y).getD i 0 = bs.getD i 0:=by
 simp [List.getD,List.getElem?_append_left h]
theorem tv_app {bs:List By} (y:List By) {k:Nat} (hk:k < bs.length):∀ c,tv (bs++y) k c = tv bs k c
 | 0=>rfl
 | c+1=>by rw [tv,tv,tv_app y hk c,getD_app (by omega)]
theorem tk_app {bs:List By} {n:BitVec 64} {u:Nat} (h:tk bs = .ok (n,u)) (y:List By):tk (bs++y) = .ok (n,u):=by
 have hle:=tEnd_le bs
 unfold tk at h ⊢
 split at h
 ·cases h
 rename_i h1
 have hlt:tEnd bs < bs.length:=by omega
 rw [tEnd_app y h1,if_neg (by rw [List.length_append]; omega),getD_app hlt,tv_app y hlt]
 by_cases c:tEnd bs = 9
 ·rw [getD_app (by omega)]
  exact h
 ·have h3:¬ (tEnd bs = 9∧1 < ((bs++y).getD 9 0).toNat):=fun q=>c q.1
  have h4:¬ (tEnd bs = 9∧1 < (bs.getD 9 0).toNat):=fun q=>c q.1
  simp only [h3,h4] at h ⊢
  exact h
theorem tEnd_leb (r:List By) (n:Nat):tEnd (leb n++r) = (leb n).length - 1∧nv (leb n++r) ((leb n).length - 1) = n∧(0 < n→(leb n++r).getD ((leb n).length - 1) 0 ≠ 0):=by
 induction n using Nat.strongRecOn with
 | ind n ih =>
  by_cases c:n < 128
  ·have e:(BitVec.ofNat 8 n).toNat = n:=by rw [BitVec.toNat_ofNat]; omega
   rw [leb_lt c]
   refine ⟨?_,?_,fun h h2=>?_⟩
   ·rw [List.cons_append,tEnd,e,if_neg (by omega)]; rfl
   ·show nv (BitVec.ofNat 8 n :: r) 0 = n
    rw [nv,e]; omega
   ·have h3:BitVec.ofNat 8 n = 0:=h2
    rw [h3] at e
    have:(0:By).toNat = 0:=rfl
    omega
  ·obtain ⟨i1,i2,i3⟩:=ih (n / 128) (by omega)
   have hl:=leb_pos (n / 128)
   have e:(BitVec.ofNat 8 (n % 128+128)).toNat = n % 128+128:=by rw [BitVec.toNat_ofNat]; omega
   rw [leb_ge c,List.length_cons,List.cons_append]
   obtain ⟨k,hk⟩:∃ k,(leb (n / 128)).length = k+1:=⟨(leb (n / 128)).length - 1,by omega⟩
   rw [hk] at i1 i2 i3 ⊢
   refine ⟨?_,?_,fun h=>?_⟩
   ·rw [tEnd,e,if_pos (by omega),i1]
    omega
   ·rw [show k+1+1 - 1 = k+1 by omega,nv,e]
    rw [show k+1 - 1 = k by omega] at i2
    rw [i2]
    omega
   ·exact i3 (by omega)
theorem leb_last (r:List By):∀ (k n:Nat),n < 128 ^ k * 2→(leb n).length≤k+1∧((leb n).length = k+1→((leb n++r).getD k 0).toNat≤1)
 | 0,n,h=>by
  rw [leb_lt (by omega)]
  refine ⟨Nat.le_refl _,fun _=>?_⟩
  show (BitVec.ofNat 8 n).toNat≤1
  rw [BitVec.toNat_ofNat]
  omega
 | k+1,n,h=>by
  by_cases c:n < 128
  ·rw [leb_lt c]
   exact ⟨by simp,fun h=>absurd h (by simp)⟩
  ·rw [Nat.pow_succ] at h
   obtain ⟨i1,i2⟩:=leb_last r k (n / 128) (by omega)
   rw [leb_ge c,List.length_cons]
   exact ⟨by omega,fun h=>i2 (by omega)⟩
theorem tk_leb {n:Nat} (hn:n < 18446744073709551616) (r:List By):tk (leb n++r) = .ok (BitVec.ofNat 64 n,(leb n).length):=by
 obtain ⟨h1,h2,h3⟩:=tEnd_leb r n
 obtain ⟨h4,h5⟩:=leb_last r 9 n (by omega)
 have hl:=leb_pos n
 unfold tk
 have hlt:tEnd (leb n++r) < (leb n++r).length:=by rw [h1,List.length_append]; omega
 rw [if_neg (by omega),if_neg,show tEnd (leb n++r)+1 = (leb n).length by omega]
 ·congr 2
  apply BitVec.eq_of_toNat_eq
  have:=tv_nv (tEnd (leb n++r)) _ hlt
  rw [show tEnd (leb n++r)+1 = (leb n).length by omega] at this
  rw [this,h1,h2,BitVec.toNat_ofNat]
 ·rw [h1]
  rintro (q | ⟨q1,q2⟩ | ⟨q1,q2⟩)
  ·omega
  ·have:=h5 (by omega)
   omega
  ·refine h3 ?_ q2
   refine Nat.pos_of_ne_zero fun e=>?_
   rw [e,leb_lt (by omega)] at q1
   simp at q1
theorem zig_unz (u:BitVec 64):zig (unz u) = u.toNat:=by
 unfold unz zig
 split
 ·rw [if_neg (by omega)]; omega
 ·rw [if_pos (by omega)]; omega
theorem u64n_nat (n:BitVec 64):u64n ((n.toNat:Nat):Int) = n.toNat:=by
 unfold u64n
 rw [BitVec.toNat_ofInt]
 have:=n.isLt
 omega
theorem take_app {bs:List By} {u:Nat}:bs.take u++bs.drop u = bs:=List.take_append_drop u bs
theorem pKind_back {bs r:List By} {x:Int} (h:pKind bs = .ok (x,r)):bs = [BitVec.ofInt 8 x]++r:=by
 unfold pKind at h
 split at h
 ·cases h
 ·rename_i b l
  cases h
  rw [List.singleton_append]
  congr 1
  apply BitVec.eq_of_toNat_eq
  rw [BitVec.toNat_ofInt]
  have:=b.isLt
  omega
theorem pInt_back {bs r:List By} {x:Int} (h:pInt bs = .ok (x,r)):bs = leb (zig x)++r:=by
 unfold pInt at h
 split at h
 ·cases h
 ·rename_i n u he
  cases h
  rw [zig_unz,(tk_back he).1,take_app]
theorem pNum_back {bs r:List By} {x:Int} (h:pNum bs = .ok (x,r)):bs = leb (u64n x)++r:=by
 unfold pNum at h
 split at h
 ·cases h
 ·rename_i n u he
  split at h
  ·cases h
  ·cases h
   rw [u64n_nat,(tk_back he).1,take_app]
theorem take_map {bs:List By}:∀ {n:Nat},n≤bs.length→(List.range n).map (fun i=>bs.getD i 0) = bs.take n:=fun {n} h=>by
 apply List.ext_getElem
 ·simp; omega
 ·intro i h1 h2
  simp at h1 h2
  simp [show i < bs.length by omega]
theorem pDig_back {bs r:List By} {d:Nat→By} (h:pDig bs = .ok (d,r)):bs = d32 d++r:=by
 unfold pDig at h
 split at h
 ·cases h
 ·cases h
  unfold d32
  rw [take_map (by omega),take_app]
theorem tb_back {bs c:List By} {most u:Nat} (h:tb bs most = .ok (c,u)):bs = putB c++bs.drop u:=by
 unfold tb at h
 split at h
 ·cases h
 ·rename_i n u0 he
  split at h
  ·cases h
  ·split at h
   ·cases h
   ·rename_i h1 h2
    cases h
    have ht:=tk_back he
    unfold putB
    rw [List.length_take,List.length_drop,Nat.min_eq_left (by omega),ht.1,List.append_assoc,← List.drop_drop,List.take_append_drop,take_app]
theorem lp_back {α:Type} {q:List By→Except Int (α × Nat)} {e:α→List By} (hq:∀ b x u,q b = .ok (x,u)→b = e x++b.drop u):∀ {n:Nat} {bs r:List By} {X:List α},lp q n bs = .ok (X,r)→X.length = n∧bs = X.flatMap e++r
 | 0,bs,r,X,h=>by rw [lp] at h; cases h; exact ⟨rfl,rfl⟩
 | n+1,bs,r,X,h=>by
  rw [lp] at h
  split at h
  ·cases h
  ·rename_i x k he
   split at h
   ·cases h
   ·rename_i xs r' he2
    cases h
    obtain ⟨h1,h2⟩:=lp_back hq he2
    refine ⟨by rw [List.length_cons,h1],?_⟩
    rw [List.flatMap_cons,List.append_assoc,← h2]
    exact hq _ _ _ he
theorem tl_back {α:Type} {q:List By→Except Int (α × Nat)} {e:α→List By} (hq:∀ b x u,q b = .ok (x,u)→b = e x++b.drop u) {most:Nat} {bs r:List By} {X:List α} (h:tl q most bs = .ok (X,r)):bs = leb X.length++X.flatMap e++r:=by
 unfold tl at h
 split at h
 ·cases h
 ·rename_i n u he
  split at h
  ·cases h
  ·obtain ⟨h1,h2⟩:=lp_back hq h
   rw [h1,(tk_back he).1,List.append_assoc,← h2,take_app]
def eM (m:Msg):List By:=putB (enc m)
def eP (x:Msg × List Msg):List By:=eM x.1++leb x.2.length++x.2.flatMap eM
theorem encL_eM:∀ l:List Msg,encL l = l.flatMap eM
 | []=>by rw [encL]; rfl
 | m :: l=>by rw [encL,List.flatMap_cons,encL_eM l]; rfl
theorem encQ_eP:∀ q:List (Msg × List Msg),encQ q = q.flatMap eP
 | []=>by rw [encQ]; rfl
 | (m,l) :: r=>by rw [encQ,List.flatMap_cons,encQ_eP r,encL_eM]; rfl
theorem qPf_back {qm:List By→Except Int (Msg × Nat)} (hq:∀ b x u,qm b = .ok (x,u)→b = eM x++b.drop u):∀ b x u,qPf qm b = .ok (x,u)→b = eP x++b.drop u:=fun b x u h=>by
 unfold qPf at h
 split at h
 ·cases h
 ·rename_i m k he
  split at h
  ·cases h
  ·rename_i l r he2
   cases h
   have h1:=hq _ _ _ he
   have h2:=tl_back hq he2
   unfold eP
   rw [List.append_assoc,List.append_assoc]
   have h3:b = (eM m++leb l.length++l.flatMap eM)++r:=by
    rw [List.append_assoc,List.append_assoc,← List.append_assoc (leb _),← h2]
    exact h1
   have h4:b.drop (b.length - r.length) = r:=by
    rw [h3,List.length_append,Nat.add_sub_cancel,List.drop_left]
   show b = eM m++(leb l.length++(l.flatMap eM++b.drop (b.length - r.length)))
   rw [h4]
   rw [List.append_assoc,List.append_assoc] at h3
   exact h3
theorem rdMsg_back {qm:List By→Except Int (Msg × Nat)} (hq:∀ b x u,qm b = .ok (x,u)→b = eM x++b.drop u) {bs:List By} {m:Msg} (h:rdMsg qm bs = .ok m):enc m = bs:=by
 unfold rdMsg at h
 split at h
 ·cases h
 rename_i k r0 e0
 unfold r1 at h
 split at h
 ·cases h
 rename_i f x1 e1
 unfold r2 at h
 split at h
 ·cases h
 rename_i v x2 e2
 unfold r3 at h
 split at h
 ·cases h
 rename_i s x3 e3
 unfold r4 at h
 split at h
 ·cases h
 rename_i d x4 e4
 unfold r5 at h
 split at h
 ·cases h
 rename_i b x5 e5
 unfold r6 at h
 split at h
 ·cases h
 rename_i bs2 x6 e6
 unfold r7 at h
 split at h
 ·cases h
 rename_i p x7 e7
 unfold r8 at h
 split at h
 ·cases h
 rename_i q x8 e8
 unfold r9 at h
 split at h
 ·cases h
 rename_i key x9 e9
 unfold r10 at h
 split at h
 ·cases h
 rename_i of x10 e10
 unfold r11 at h
 split at h
 ·cases h
 rename_i hz
 cases h
 have hx:x10 = []:=List.eq_nil_of_length_eq_zero (by omega)
 subst hx
 show enc (.mk k f v s d b bs2 p q key of) = bs
 rw [pKind_back e0,pInt_back e1,pNum_back e2,pNum_back e3,pDig_back e4,tb_back e5,tl_back (e:=putB) (fun b x u h=>tb_back h) e6,tl_back hq e7,tl_back (qPf_back hq) e8,pInt_back e9,pDig_back e10]
 unfold enc
 rw [body,encL_eM,encQ_eP]
 simp only [List.append_assoc,List.append_nil,Msg.key,Msg.of]
theorem qM_back:∀ D b x u,qM D b = .ok (x,u)→b = eM x++b.drop u
 | 0,b,x,u,h=>by rw [qM] at h; cases h
 | D+1,b,x,u,h=>by
  rw [qM] at h
  split at h
  ·cases h
  ·rename_i s u0 he
   split at h
   ·cases h
   ·rename_i m he2
    cases h
    unfold eM
    rw [rdMsg_back (qM_back D) he2]
    exact tb_back he
theorem drop_app {bs y:List By} {u:Nat} (h:u≤bs.length):(bs++y).drop u = bs.drop u++y:=by
 rw [List.drop_append_of_le_length h]
theorem pKind_app {bs r:List By} {x:Int} (h:pKind bs = .ok (x,r)) (y:List By):pKind (bs++y) = .ok (x,r++y):=by
 cases bs with
 | nil=>cases h
 | cons b l=>cases h; rfl
theorem pInt_app {bs r:List By} {x:Int} (h:pInt bs = .ok (x,r)) (y:List By):pInt (bs++y) = .ok (x,r++y):=by
 unfold pInt at h
 split at h
 ·cases h
 ·rename_i n u he
  cases h
  rw [pInt_o (tk_app he y),drop_app (tk_ok he).2.1]
theorem pNum_app {bs r:List By} {x:Int} (h:pNum bs = .ok (x,r)) (y:List By):pNum (bs++y) = .ok (x,r++y):=by
 unfold pNum at h
 split at h
 ·cases h
 ·rename_i n u he
  split at h
  ·cases h
  ·rename_i c
   cases h
   rw [pNum_o (tk_app he y),if_neg c,drop_app (tk_ok he).2.1]
theorem pDig_app {bs r:List By} {d:Nat→By} (h:pDig bs = .ok (d,r)) (y:List By):∃ d',pDig (bs++y) = .ok (d',r++y):=by
 unfold pDig at h ⊢
 split at h
 ·cases h
 ·rename_i c
  cases h
  exact ⟨_,by rw [if_neg (by rw [List.length_append]; omega),drop_app (by omega)]⟩
theorem tb_app {bs c:List By} {most u:Nat} (h:tb bs most = .ok (c,u)) (y:List By):tb (bs++y) most = .ok (c,u)∧u≤bs.length:=by
 have hu:=tb_ok h
 refine ⟨?_,hu.2.1⟩
 unfold tb at h
 split at h
 ·cases h
 ·rename_i n u0 he
  have h0:=tk_ok he
  split at h
  ·cases h
  ·split at h
   ·cases h
   ·rename_i h1 h2
    cases h
    rw [tb_o (tk_app he y),if_neg h1,if_neg (by rw [List.length_append]; omega),drop_app h0.2.1,List.take_append_of_le_length (by rw [List.length_drop]; omega)]
theorem lp_app {α:Type} {q:List By→Except Int (α × Nat)} (y:List By) (hq:∀ b x u,q b = .ok (x,u)→q (b++y) = .ok (x,u)∧u≤b.length):∀ {n:Nat} {bs r:List By} {X:List α},lp q n bs = .ok (X,r)→lp q n (bs++y) = .ok (X,r++y)
 | 0,bs,r,X,h=>by rw [lp] at h ⊢; cases h; rfl
 | n+1,bs,r,X,h=>by
  rw [lp] at h
  split at h
  ·cases h
  ·rename_i x k he
   split at h
   ·cases h
   ·rename_i xs r' he2
    cases h
    have h1:=hq _ _ _ he
    rw [lp,h1.1]
    simp only
    rw [drop_app h1.2,lp_app y hq he2]
theorem tl_app {α:Type} {q:List By→Except Int (α × Nat)} (y:List By) (hq:∀ b x u,q b = .ok (x,u)→q (b++y) = .ok (x,u)∧u≤b.length) {most:Nat} {bs r:List By} {X:List α} (h:tl q most bs = .ok (X,r)):tl q most (bs++y) = .ok (X,r++y):=by
 unfold tl at h
 split at h
 ·cases h
 ·rename_i n u he
  split at h
  ·cases h
  ·rename_i c
   rw [tl_o (tk_app he y),if_neg c,drop_app (tk_ok he).2.1]
   exact lp_app y hq h
theorem qM_app (y:List By):∀ D b x u,qM D b = .ok (x,u)→qM D (b++y) = .ok (x,u)∧u≤b.length
 | 0,b,x,u,h=>by rw [qM] at h; cases h
 | D+1,b,x,u,h=>by
  refine ⟨?_,(qM_ok h).2⟩
  rw [qM] at h ⊢
  split at h
  ·cases h
  ·rename_i s u0 he
   rw [(tb_app he y).1]
   exact h
theorem qPf_app (y:List By) {qm:List By→Except Int (Msg × Nat)} (hq:∀ b x u,qm b = .ok (x,u)→qm (b++y) = .ok (x,u)∧u≤b.length):∀ b x u,qPf qm b = .ok (x,u)→qPf qm (b++y) = .ok (x,u)∧u≤b.length:=fun b x u h=>by
 unfold qPf at h
 split at h
 ·cases h
 ·rename_i m k he
  split at h
  ·cases h
  ·rename_i l r he2
   cases h
   have h1:=hq _ _ _ he
   have h3:=tl_le he2
   rw [List.length_drop] at h3
   refine ⟨?_,Nat.sub_le _ _⟩
   unfold qPf
   rw [h1.1]
   simp only
   rw [drop_app h1.2,tl_app y hq he2]
   simp only [List.length_append]
   congr 2
   omega
theorem rdMsg_more {qm:List By→Except Int (Msg × Nat)} {y:List By} (hy:y ≠ []) (hq:∀ b x u,qm b = .ok (x,u)→qm (b++y) = .ok (x,u)∧u≤b.length) {bs:List By} {m:Msg} (h:rdMsg qm bs = .ok m):rdMsg qm (bs++y) = .error 4:=by
 have hyl:0 < y.length:=List.length_pos_iff.2 hy
 unfold rdMsg at h ⊢
 split at h
 ·cases h
 rename_i k r0 e0
 rw [pKind_app e0 y]
 simp only
 unfold r1 at h ⊢
 split at h
 ·cases h
 rename_i f x1 e1
 rw [pInt_app e1 y]
 simp only
 unfold r2 at h ⊢
 split at h
 ·cases h
 rename_i v x2 e2
 rw [pNum_app e2 y]
 simp only
 unfold r3 at h ⊢
 split at h
 ·cases h
 rename_i s x3 e3
 rw [pNum_app e3 y]
 simp only
 unfold r4 at h ⊢
 split at h
 ·cases h
 rename_i d x4 e4
 obtain ⟨d',e4'⟩:=pDig_app e4 y
 rw [e4']
 simp only
 unfold r5 at h ⊢
 split at h
 ·cases h
 rename_i b x5 e5
 rw [(tb_app e5 y).1]
 simp only
 rw [drop_app (tb_app e5 y).2]
 unfold r6 at h ⊢
 split at h
 ·cases h
 rename_i bs2 x6 e6
 rw [tl_app y (fun b x u h=>tb_app h y) e6]
 simp only
 unfold r7 at h ⊢
 split at h
 ·cases h
 rename_i p x7 e7
 rw [tl_app y hq e7]
 simp only
 unfold r8 at h ⊢
 split at h
 ·cases h
 rename_i q x8 e8
 rw [tl_app y (qPf_app y hq) e8]
 simp only
 unfold r9 at h ⊢
 split at h
 ·cases h
 rename_i key x9 e9
 rw [pInt_app e9 y]
 simp only
 unfold r10 at h ⊢
 split at h
 ·cases h
 rename_i of x10 e10
 obtain ⟨of',e10'⟩:=pDig_app e10 y
 rw [e10']
 simp only
 unfold r11
 rw [if_pos (by rw [List.length_append]; omega)]
theorem unz_zig {n:Int} (h:rng n):unz (BitVec.ofNat 64 (zig n)) = n:=by
 unfold unz
 rw [zig_toNat h]
 unfold rng at h
 unfold zig
 by_cases c:0≤n
 ·rw [if_pos c,if_neg (by omega)]; omega
 ·rw [if_neg c,if_pos (by omega)]; omega
theorem pKind_rt {k:Int} (h:1≤k∧k≤9) (r:List By):pKind ([BitVec.ofInt 8 k]++r) = .ok (k,r):=by
 rw [List.singleton_append]
 unfold pKind
 simp only
 rw [BitVec.toNat_ofInt]
 congr 2
 omega
theorem pInt_rt {f:Int} (h:rng f) (r:List By):pInt (leb (zig f)++r) = .ok (f,r):=by
 rw [pInt_o (tk_leb (zig_lt h) r),unz_zig h,List.drop_left]
theorem u64n_pos {v:Int} (h:0≤v∧v≤4611686018427387904):u64n v = v.toNat:=by
 unfold u64n
 rw [BitVec.toNat_ofInt]
 omega
theorem pNum_rt {v:Int} (h:0≤v∧v≤4611686018427387904) (r:List By):pNum (leb (u64n v)++r) = .ok (v,r):=by
 rw [u64n_pos h,pNum_o (tk_leb (n:=v.toNat) (by omega) r),BitVec.toNat_ofNat,Nat.mod_eq_of_lt (by omega),if_neg (by omega),List.drop_left]
 congr 2
 omega
theorem dg32_len (d:Nat→By):(d32 d).length = 32:=by unfold d32; simp
theorem dg32_get {d:Nat→By} {r:List By} {i:Nat} (h:i < 32):(d32 d++r).getD i 0 = d i:=by
 rw [getD_app (by rw [dg32_len]; exact h)]
 unfold d32
 simp [h]
theorem pDig_rt (d:Nat→By) (r:List By):∃ d',pDig (d32 d++r) = .ok (d',r)∧∀ i,i < 32→d' i = d i:=by
 unfold pDig
 rw [if_neg (by rw [List.length_append,dg32_len]; omega)]
 refine ⟨fun i=>(d32 d++r).getD i 0,?_,fun i hi=>dg32_get hi⟩
 rw [show (d32 d++r).drop 32 = r from by rw [← dg32_len d,List.drop_left]]
theorem tb_rt {c:List By} {most:Nat} (h:c.length≤most) (hm:c.length < 18446744073709551616) (r:List By):tb (putB c++r) most = .ok (c,(putB c).length):=by
 unfold putB
 rw [List.append_assoc,tb_o (tk_leb hm (c++r)),BitVec.toNat_ofNat,Nat.mod_eq_of_lt hm,if_neg (by omega),if_neg (by simp only [List.length_append]; omega),List.drop_left,List.take_left,List.length_append]
def All2 {α:Type} (R:α→α→Prop):List α→List α→Prop
 | [],[]=>True
 | a :: l,b :: r=>R a b∧All2 R l r
 | _,_=>False
theorem lp_rt {α:Type} {q:List By→Except Int (α × Nat)} {e:α→List By} {R:α→α→Prop}:∀ {X:List α} (r:List By),(∀ x ∈ X,∀ r,∃ x',q (e x++r) = .ok (x',(e x).length)∧R x x')→∃ X',lp q X.length (X.flatMap e++r) = .ok (X',r)∧All2 R X X'
 | [],r,_=>⟨[],rfl,trivial⟩
 | x :: X,r,h=>by
  obtain ⟨x',h1,h2⟩:=h x (by simp) (X.flatMap e++r)
  obtain ⟨X',h3,h4⟩:=lp_rt (X:=X) r fun y hy=>h y (by simp [hy])
  refine ⟨x' :: X',?_,h2,h4⟩
  rw [List.length_cons,lp,List.flatMap_cons,List.append_assoc,h1]
  simp only
  rw [List.drop_left,h3]
theorem tl_rt {α:Type} {q:List By→Except Int (α × Nat)} {e:α→List By} {R:α→α→Prop} {most:Nat} {X:List α} (hX:X.length≤most) (hm:most < 18446744073709551616) (r:List By) (h:∀ x ∈ X,∀ r,∃ x',q (e x++r) = .ok (x',(e x).length)∧R x x'):∃ X',tl q most (leb X.length++(X.flatMap e++r)) = .ok (X',r)∧All2 R X X':=by
 obtain ⟨X',h1,h2⟩:=lp_rt r h
 refine ⟨X',?_,h2⟩
 rw [tl_o (tk_leb (by omega) _),BitVec.toNat_ofNat,Nat.mod_eq_of_lt (by omega),if_neg (by omega),List.drop_left,h1]
mutual
def eqM:Msg→Msg→Prop
 | .mk k f v s d b bs p q key of,.mk k' f' v' s' d' b' bs' p' q' key' of'=>k = k'∧f = f'∧v = v'∧s = s'∧(∀ i,i < 32→d' i = d i)∧b = b'∧bs = bs'∧eqMs p p'∧eqPs q q'∧key = key'∧∀ i,i < 32→of' i = of i
def eqMs:List Msg→List Msg→Prop
 | [],[]=>True
 | m :: l,m' :: l'=>eqM m m'∧eqMs l l'
 | [],_ :: _=>False
 | _ :: _,[]=>False
def eqPs:List (Msg × List Msg)→List (Msg × List Msg)→Prop
 | [],[]=>True
 | (m,l) :: r,(m',l') :: r'=>(eqM m m'∧eqMs l l')∧eqPs r r'
 | [],_ :: _=>False
 | _ :: _,[]=>False
end
def eqP (x y:Msg × List Msg):Prop:=eqM x.1 y.1∧eqMs x.2 y.2
theorem eqMs_all:∀ {l l':List Msg},All2 eqM l l'→eqMs l l'
 | [],[],_=>by rw [eqMs]; trivial
 | m :: l,m' :: l',h=>by rw [eqMs]; exact ⟨h.1,eqMs_all h.2⟩
 | [],_ :: _,h=>h.elim
 | _ :: _,[],h=>h.elim
theorem eqPs_all:∀ {l l':List (Msg × List Msg)},All2 eqP l l'→eqPs l l'
 | [],[],_=>by rw [eqPs]; trivial
 | (m,x) :: l,(m',x') :: l',h=>by rw [eqPs]; exact ⟨h.1,eqPs_all h.2⟩
 | [],_ :: _,h=>h.elim
 | _ :: _,[],h=>h.elim
theorem all2_eq {α:Type}:∀ {l l':List α},All2 (fun a b=>a = b) l l'→l = l'
 | [],[],_=>rfl
 | a :: l,b :: l',h=>by rw [h.1,all2_eq h.2]
 | [],_ :: _,h=>h.elim
 | _ :: _,[],h=>h.elim
theorem qPf_rt {qm:List By→Except Int (Msg × Nat)} {x:Msg × List Msg} (hl:x.2.length≤64) (h1:∀ r,∃ x',qm (eM x.1++r) = .ok (x',(eM x.1).length)∧eqM x.1 x') (h2:∀ m ∈ x.2,∀ r,∃ x',qm (eM m++r) = .ok (x',(eM m).length)∧eqM m x') (r:List By):∃ x',qPf qm (eP x++r) = .ok (x',(eP x).length)∧eqP x x':=by
 obtain ⟨m,l⟩:=x
 obtain ⟨m',a1,a2⟩:=h1 (leb l.length++(l.flatMap eM++r))
 obtain ⟨l',b1,b2⟩:=tl_rt (most:=64) hl (by decide) r h2
 refine ⟨(m',l'),?_,a2,eqMs_all b2⟩
 have e:eP (m,l)++r = eM m++(leb l.length++(l.flatMap eM++r)):=by unfold eP; simp only [List.append_assoc]
 unfold qPf
 rw [e,a1]
 simp only
 rw [List.drop_left,b1]
 simp only
 rw [← e,List.length_append,Nat.add_sub_cancel]
theorem rdMsg_rt {qm:List By→Except Int (Msg × Nat)} {k f v s:Int} {d:Nat→By} {b:List By} {bs:List (List By)} {p:List Msg} {q:List (Msg × List Msg)} {key:Int} {of:Nat→By}
  (hk:1≤k∧k≤9) (hf:rng f) (hv:0≤v∧v≤4611686018427387904) (hs:0≤s∧s≤4611686018427387904) (hb:b.length≤8192) (hbs:bs.length≤512) (hbs2:∀ x ∈ bs,x.length≤8192) (hp:p.length≤64) (hq:q.length≤64) (hkey:rng key)
  (hpm:∀ x ∈ p,∀ r,∃ x',qm (eM x++r) = .ok (x',(eM x).length)∧eqM x x') (hqm:∀ x ∈ q,∀ r,∃ x',qPf qm (eP x++r) = .ok (x',(eP x).length)∧eqP x x') :
  ∃ m',rdMsg qm (enc (.mk k f v s d b bs p q key of)) = .ok m'∧eqM (.mk k f v s d b bs p q key of) m':=by
 obtain ⟨of',z1,z2⟩:=pDig_rt of []
 obtain ⟨q',y1,y2⟩:=tl_rt (most:=64) hq (by decide) (leb (zig key)++(d32 of++[])) hqm
 obtain ⟨p',x1,x2⟩:=tl_rt (most:=64) hp (by decide) (leb q.length++(q.flatMap eP++(leb (zig key)++(d32 of++[])))) hpm
 obtain ⟨bs',w1,w2⟩:=tl_rt (q:=fun b=>tb b 8192) (e:=putB) (R:=fun a b=>a = b) (most:=512) hbs (by decide) (leb p.length++(p.flatMap eM++(leb q.length++(q.flatMap eP++(leb (zig key)++(d32 of++[])))))) fun x hx r=>⟨x,tb_rt (hbs2 x hx) (by have:=hbs2 x hx; omega) r,rfl⟩
 obtain ⟨d',v1,v2⟩:=pDig_rt d (putB b++(leb bs.length++(bs.flatMap putB++(leb p.length++(p.flatMap eM++(leb q.length++(q.flatMap eP++(leb (zig key)++(d32 of++[])))))))))
 have w3:=all2_eq w2
 subst w3
 refine ⟨.mk k f v s d' b bs p' q' key of',?_,?_⟩
 ·have e:enc (.mk k f v s d b bs p q key of) = [BitVec.ofInt 8 k]++(leb (zig f)++(leb (u64n v)++(leb (u64n s)++(d32 d++(putB b++(leb bs.length++(bs.flatMap putB++(leb p.length++(p.flatMap eM++(leb q.length++(q.flatMap eP++(leb (zig key)++(d32 of++[]))))))))))))):=by
   unfold enc
   rw [body,encL_eM,encQ_eP]
   simp only [List.append_assoc,List.append_nil,Msg.key,Msg.of]
  rw [e]
  unfold rdMsg
  rw [pKind_rt hk]
  simp only
  unfold r1
  rw [pInt_rt hf]
  simp only
  unfold r2
  rw [pNum_rt hv]
  simp only
  unfold r3
  rw [pNum_rt hs]
  simp only
  unfold r4
  rw [v1]
  simp only
  unfold r5
  rw [tb_rt hb (by omega)]
  simp only
  rw [List.drop_left]
  unfold r6
  rw [w1]
  simp only
  unfold r7
  rw [x1]
  simp only
  unfold r8
  rw [y1]
  simp only
  unfold r9
  rw [pInt_rt hkey]
  simp only
  unfold r10
  rw [z1]
  simp only
  unfold r11
  rw [if_neg (by simp)]
 ·rw [eqM]
  exact ⟨rfl,rfl,rfl,rfl,v2,rfl,rfl,eqMs_all x2,eqPs_all y2,rfl,z2⟩
def deep (k:Int):Nat:=if k = 7 then 2 else if k = 6 ∨ k = 9 then 1 else 0
theorem len_mem {α:Type} (f:α→List By):∀ {l:List α} {x:α},x ∈ l→(f x).length≤(l.flatMap f).length
 | a :: l,x,h=>by
  rw [List.flatMap_cons,List.length_append]
  rcases List.mem_cons.1 h with rfl | h
  ·omega
  ·have:=len_mem f h
   omega
theorem okNum_le {is:Bool} {n:Int} (h:okNum is n = true):0≤n∧n≤4611686018427387904:=by
 unfold okNum at h
 simp only [Bool.or_eq_true,Bool.and_eq_true,beq_iff_eq,decide_eq_true_eq] at h
 omega
theorem may_num {k f v s:Int} {d:Nat→By} {b:List By} {bs:List (List By)} {p:List Msg} {q:List (Msg × List Msg)} {key:Int} {of:Nat→By} (h:may (.mk k f v s d b bs p q key of) = 0):(0≤v∧v≤4611686018427387904)∧0≤s∧s≤4611686018427387904:=by
 rw [may] at h
 by_cases c:mayHead k f v s d = false
 ·rw [if_pos c] at h; cases h
 ·have c2:mayHead k f v s d = true:=by simpa using c
  unfold mayHead at c2
  simp only [Bool.and_eq_true] at c2
  exact ⟨okNum_le c2.1.1.2,okNum_le c2.1.2⟩
theorem enc_len2 (k f v s:Int) (d:Nat→By) (b:List By) (bs:List (List By)) (p:List Msg) (q:List (Msg × List Msg)) (key:Int) (of:Nat→By):(p.flatMap eM).length+(q.flatMap eP).length≤(enc (.mk k f v s d b bs p q key of)).length:=by
 unfold enc
 rw [body,encL_eM,encQ_eP]
 simp only [List.length_append]
 omega
theorem eM_len (m:Msg):(enc m).length≤(eM m).length:=by unfold eM putB; rw [List.length_append]; omega
theorem qM_rt (D:Nat):∀ m,may m = 0→wfM m→(enc m).length≤1048576→deep m.kind≤D→∃ m',rdMsg (qM D) (enc m) = .ok m'∧eqM m m':=by
 induction D using Nat.strongRecOn with
 | ind D ih =>
  intro m hm hw hl hd
  obtain ⟨k,f,v,s,d,b,bs,p,q,key,of⟩:=m
  obtain ⟨i1,i2,i3,_,i5,i6,i7,i8,i9,i10,i11⟩:=may_in hm
  obtain ⟨n1,n2⟩:=may_num hm
  have hw0:=hw
  rw [wfM] at hw
  obtain ⟨_,wf,_,_,wkey,wp,wq⟩:=hw
  have hd':deep k≤D:=hd
  have hll:=enc_len2 k f v s d b bs p q key of
  -- those within
  have within:∀ x,may x = 0→wfM x→(enc x).length≤1048576→deep x.kind+1≤deep k→∀ r,∃ x',qM D (eM x++r) = .ok (x',(eM x).length)∧eqM x x':=fun x h1 h2 h3 h4 r=>by
   obtain ⟨D',hD'⟩:∃ D',D = D'+1:=⟨D - 1,by omega⟩
   obtain ⟨x',h5,h6⟩:=ih D' (by omega) x h1 h2 h3 (by omega)
   refine ⟨x',?_,h6⟩
   rw [hD',qM]
   unfold eM
   rw [tb_rt h3 (by omega)]
   simp only
   rw [h5]
  refine rdMsg_rt i1 wf n1 n2 i2 i3 i5 i6 i9 wkey (fun x hx r=>?_) (fun x hx r=>?_)
  ·obtain ⟨a1,a2⟩:=i8 x hx
   have h1:=len_mem eM hx
   have h2:=eM_len x
   refine within x a2 (wp.get x hx) (by omega) ?_ r
   rw [a1]
   by_cases c:hProof k = false
   ·rw [i7 c] at hx; cases hx
   ·unfold hProof at c
    simp only [Bool.or_eq_false_iff,beq_eq_false_iff_ne,not_and,ne_eq] at c
    unfold kProof deep
    by_cases c7:k = 7
    ·simp [c7]
    ·by_cases c6:k = 6
     ·simp [c6]
     ·have c9:k = 9:=by
       refine Classical.byContradiction fun h=>?_
       exact c ⟨c6,c7⟩ h
      simp [c9]
  ·obtain ⟨⟨a1,a2⟩,a3,a4⟩:=i11 x hx
   have h1:=len_mem eP hx
   have hdk:1≤deep k:=by
    by_cases c:hPrep k = false
    ·rw [i10 c] at hx; cases hx
    ·unfold hPrep at c
     simp only [Bool.or_eq_false_iff,beq_eq_false_iff_ne,not_and,ne_eq] at c
     unfold deep
     by_cases c7:k = 7
     ·simp [c7]
     ·by_cases c6:k = 6
      ·simp [c6]
      ·exact absurd c7 (c c6)
   have hlx:(eM x.1).length+(x.2.flatMap eM).length≤(eP x).length:=by
    unfold eP
    simp only [List.length_append]
    omega
   refine qPf_rt a3 (fun r=>?_) (fun m hm r=>?_) r
   ·have h2:=eM_len x.1
    refine within x.1 a2 (wq.get x hx).1 (by omega) ?_ r
    rw [a1]
    exact hdk
   ·obtain ⟨b1,b2⟩:=a4 m hm
    have h2:=eM_len m
    have h3:=len_mem eM hm
    refine within m b2 ((wq.get x hx).2.get m hm) (by omega) ?_ r
    rw [b1]
    exact hdk
theorem deep_le (k:Int):deep k≤2:=by unfold deep; split; omega; split <;> omega
theorem zero32_eq {d d':Nat→By} (h:∀ i,i < 32→d' i = d i):zero32 d' = zero32 d:=by
 unfold zero32
 rw [Bool.eq_iff_iff,List.all_eq_true,List.all_eq_true]
 constructor
 ·intro H i hi
  have:=H i hi
  rw [h i (List.mem_range.1 hi)] at this
  exact this
 ·intro H i hi
  rw [h i (List.mem_range.1 hi)]
  exact H i hi
mutual
theorem may_eqM:∀ m m':Msg,eqM m m'→may m' = may m
 | .mk k f v s d b bs p q key of,.mk k' f' v' s' d' b' bs' p' q' key' of',h=>by
  rw [eqM] at h
  obtain ⟨rfl,rfl,rfl,rfl,hd,rfl,rfl,hp,hq,rfl,ho⟩:=h
  have e1:=mayL_eqL (kProof k) p p' hp
  have e2:=mayQ_eqQ (hPreps k) q q' hq
  have e3:mayHead k f v s d' = mayHead k f v s d:=by unfold mayHead; rw [zero32_eq hd]
  rw [may,may,e3,e1.1,e1.2,e2.1,e2.2,zero32_eq ho]
theorem mayL_eqL (kind:Int):∀ l l':List Msg,eqMs l l'→l'.length = l.length∧mayL kind l' = mayL kind l
 | [],[],_=>⟨rfl,rfl⟩
 | m :: l,m' :: l',h=>by
  rw [eqMs] at h
  have h1:=may_eqM m m' h.1
  have h2:=mayL_eqL kind l l' h.2
  have hk:m'.kind = m.kind:=by
   obtain ⟨k,f,v,s,d,b,bs,p,q,key,of⟩:=m
   obtain ⟨k',f',v',s',d',b',bs',p',q',key',of'⟩:=m'
   rw [eqM] at h
   exact h.1.1.symm
  rw [mayL,mayL,hk,h1,h2.2]
  exact ⟨by rw [List.length_cons,List.length_cons,h2.1],rfl⟩
 | [],_ :: _,h=>by rw [eqMs] at h; exact h.elim
 | _ :: _,[],h=>by rw [eqMs] at h; exact h.elim
theorem mayQ_eqQ (is:Bool):∀ l l':List (Msg × List Msg),eqPs l l'→l'.length = l.length∧mayQ is l' = mayQ is l
 | [],[],_=>⟨rfl,rfl⟩
 | (m,x) :: l,(m',x') :: l',h=>by
  rw [eqPs] at h
  have h1:=may_eqM m m' h.1.1
  have h2:=mayL_eqL 3 x x' h.1.2
  have h3:=mayQ_eqQ is l l' h.2
  have hk:m'.kind = m.kind:=by
   obtain ⟨k,f,v,s,d,b,bs,p,q,key,of⟩:=m
   obtain ⟨k',f',v',s',d',b',bs',p',q',key',of'⟩:=m'
   rw [eqM] at h
   exact h.1.1.1.symm
  rw [mayQ,mayQ,hk,h1,h2.1,h2.2,h3.2]
  exact ⟨by rw [List.length_cons,List.length_cons,h3.1],rfl⟩
 | [],_ :: _,h=>by rw [eqPs] at h; exact h.elim
 | _ :: _,[],h=>by rw [eqPs] at h; exact h.elim
end
theorem decS_back {bs:List By} {m:Msg} (h:decS bs = .ok m):enc m = bs∧may m = 0∧bs.length≤1048576∧rdMsg (qM 2) bs = .ok m:=by
 unfold decS at h
 split at h
 ·cases h
 rename_i hl
 split at h
 ·cases h
 ·rename_i m2 he
  split at h
  ·rename_i hm
   cases h
   exact ⟨rdMsg_back (qM_back 2) he,hm,by omega,he⟩
  ·cases h
theorem decS_rt {m:Msg} (hm:may m = 0) (hw:wfM m) (hl:(enc m).length≤1048576):∃ m',decS (enc m) = .ok m'∧eqM m m':=by
 obtain ⟨m',h1,h2⟩:=qM_rt 2 m hm hw hl (deep_le _)
 refine ⟨m',?_,h2⟩
 rw [decS_o (by omega) h1,may_eqM m m' h2,if_pos hm]
theorem decS_more {bs y:List By} {m:Msg} (h:decS bs = .ok m) (hy:y ≠ []):∃ e,decS (bs++y) = .error e∧e ≠ 0:=by
 obtain ⟨_,_,_,he⟩:=decS_back h
 by_cases c:1048576 < (bs++y).length
 ·exact ⟨2,by unfold decS; rw [if_pos c],by decide⟩
 ·exact ⟨4,decS_e c (rdMsg_more hy (qM_app y 2) he),by decide⟩
theorem decS_ne {bs:List By} {e:Int} (h:decS bs = .error e):e ≠ 0:=by
 unfold decS at h
 split at h
 ·cases h; decide
 ·split at h
  ·rename_i e2 he
   cases h
   exact rdMsg_ne (qM_ne 2) _ _ he
  ·split at h
   ·cases h
   ·rename_i c
    cases h
    exact c
theorem decS_cut {bs:List By} {m:Msg} (h:decS bs = .ok m) {c:Nat} (hc:c < bs.length):∃ e,decS (bs.take c) = .error e∧e ≠ 0:=by
 cases hx:decS (bs.take c) with
 | error e=>exact ⟨e,rfl,decS_ne hx⟩
 | ok x =>
  obtain ⟨e,h1,_⟩:=decS_more (y:=bs.drop c) hx (fun h=>by have:=congrArg List.length h; rw [List.length_drop] at this; simp at this; omega)
  rw [List.take_append_drop,h] at h1
  cases h1
theorem enc_ge (m:Msg):40≤(enc m).length:=by
 obtain ⟨k,f,v,s,d,b,bs,p,q,key,of⟩:=m
 unfold enc
 rw [body]
 simp only [List.length_append,dg32_len,Msg.of]
 omega
end Go.Proofs.Ytgocfglmideobaa
