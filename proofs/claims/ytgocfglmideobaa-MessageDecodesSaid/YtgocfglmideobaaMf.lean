/- Texts put together: Contracts of functions that the laws reach, by the symbolic executor. No condition. -/
import Derived.Test.YtgocfglmideobaaMc
import Derived.Test.YtgocfglmideobaaMe
set_option linter.all false
set_option maxRecDepth 40000
namespace Go.Proofs.Ytgocfglmideobaa
open Go Go.Sx
theorem res140:Try.f140.results.toList = [.cell 2 23]:=rfl
theorem pByte_drop {bs:List By} {i:Nat}:(bs.length≤i∧pByte (bs.drop i) = .error 3) ∨ (i < bs.length∧pByte (bs.drop i) = .ok (bs.getD i 0,bs.drop (i+1))):=by
 by_cases h:i < bs.length
 ·refine .inr ⟨h,?_⟩
  rw [List.drop_eq_getElem_cons h,pByte]
  simp [h]
 ·refine .inl ⟨by omega,?_⟩
  rw [List.drop_of_length_le (by omega),pByte]
set_option maxHeartbeats 4000000 in
theorem c141 (bs:List By) (h:List Chunk) (kr:Nat) (sv:SV) (hk:lookH h kr = .cells true [sv,.int .i64 0]) (hB:RdB h sv bs) (hl:bs.length≤35184372088832) (most:Nat) (hm:most≤1125899906842624) (K:Tok→SV→List Chunk→Prop) (hE:∀ e2,pBytes most bs = .error e2→∀ H sv' bs',Ext (fun j=>j = kr) h H→lookH H kr = .cells true [sv',.int .i64 e2]→RdB H sv' bs'→K .mk (.v (.slice none 0 0)) H) (hO:∀ x bs',pBytes most bs = .ok (x,bs')→∀ H sv' k',Ext (fun j=>j = kr) h H→lookH H kr = .cells true [sv',.int .i64 0]→RdB H sv' bs'→h.length≤k'→lookH H k' = .row true x.length 1 (bt x)→K .mk (.osl k' 0 0 1 x.length) H):callP Try.prog 141 [.ptr kr 0,.int .i64 (most:Nat)] h K:=by
 obtain ⟨k,d,e,w,N,F,rfl,hr,hN,hF⟩:=hB
 have hlt:=lookH_lt hk (by simp)
 have hkk:=ne_cr hk hr
 refine callP_of_code tabOk Try.func141 (by kernel_rfl) rfl (Nat.le_of_ble_eq_true rfl) (codeP_of_vc (pl:=np) tabOk follows_mixed (by kernel_rfl) ?_)
 rw [Try.ntmps141]
 have z0:((0:Int) != 0) = false:=rfl
 simp -implicitDefEqProofs (maxSteps:=1000000) (disch:=omega) only [↓zzP,zzA,zzL,zzB,reduceIte,reduceCtorEq,Nat.reduceLT,↓reduceIte,Nat.reduceEqDiff,Nat.reduceLeDiff,Nat.reduceAdd,↓gd,↓opP,↓qv,slot,putS,putO,ofV,fldA,rdF,Ent.row,ldS,sz,binH,binS2,binS,tupS,res141,z0,hk]
 repeat (refine ⟨by omega,?_⟩)
 refine c162 bs h k d e w N F hr hN hF hl most hm _ (fun er he=>?_) (fun x u he H1 k1 hE1 hk1 hr1=>?_)
 ·have z1:(er != 0) = true:=bne_iff_ne.2 (tb_err he)
  simp -implicitDefEqProofs (maxSteps:=1000000) (disch:=omega) only [↓zzP,zzA,zzL,zzB,reduceIte,reduceCtorEq,Nat.reduceLT,↓reduceIte,Nat.reduceEqDiff,Nat.reduceLeDiff,Nat.reduceAdd,↓gd,↓opP,↓qv,↓ef,↓stS,slot,putS,putO,ofV,fldA,sz,wrF,binH,binS2,binS,stor,z1,hk]
  repeat (refine ⟨by omega,?_⟩)
  exact intoR_refl (by rw [putH_len]; exact Nat.le_refl _) (hE er (pBytes_e he) _ _ _ ((Ext.refl _ _).put _ (.inl rfl)) (lookH_put_same _ hlt) (RdB.put ⟨k,d,e,w,N,F,rfl,hr,hN,hF⟩ hk _))
 ·have hu:=tb_ok he
  have hkx:=hE1.look hk (by simp) fun h=>h
  have hrx:=hE1.look hr (by simp) fun h=>h
  have hl1:=lookH_lt hkx (by simp)
  have hEk:Ext (fun j=>j = kr) h H1:=hE1.mono fun _ h=>h.elim
  simp -implicitDefEqProofs (maxSteps:=1000000) (disch:=omega) only [↓zzP,zzA,zzL,zzB,reduceIte,reduceCtorEq,Nat.reduceLT,↓reduceIte,Nat.reduceEqDiff,Nat.reduceLeDiff,Nat.reduceAdd,↓gd,↓opP,↓qv,↓ef,↓stS,slot,putS,putO,ofV,fldA,bnd,slS,rdF,Ent.row,ldS,sz,wrF,binH,binS2,binS,stor,z0,hkx,hrx]
  repeat (refine ⟨by omega,?_⟩)
  exact intoR_refl (by rw [putH_len]; exact hE1.1) (hO _ _ (pBytes_o he) _ _ k1 (hEk.put (p:=kr) _ (.inl rfl)) (lookH_put_same _ hl1) (RdB.put (RdB.drop hrx hN hF u _ hu.2.1) hkx _) hk1 (by rw [lookH_put_ne _ (ne_cr hkx hr1)]; exact hr1))
theorem c143 (bs:List By) (h:List Chunk) (kr:Nat) (sv:SV) (hk:lookH h kr = .cells true [sv,.int .i64 0]) (hB:RdB h sv bs) (hl:bs.length≤35184372088832) (K:Tok→SV→List Chunk→Prop) (h0:bs.length = 0→K .mk (.tup []) h) (h1:0 < bs.length→∀ H sv' bs',Ext (fun j=>j = kr) h H→lookH H kr = .cells true [sv',.int .i64 4]→RdB H sv' bs'→K .mk (.tup []) H):callP Try.prog 143 [.ptr kr 0] h K:=by
 obtain ⟨k,d,e,w,N,F,rfl,hr,hN,hF⟩:=hB
 have hlt:=lookH_lt hk (by simp)
 have hkk:=ne_cr hk hr
 refine callP_of_code tabOk Try.func143 (by kernel_rfl) rfl (Nat.le_of_ble_eq_true rfl) (codeP_of_vc (pl:=np) tabOk follows_mixed (by kernel_rfl) ?_)
 rw [Try.ntmps143]
 have z1:((0:Int) == 0) = true:=rfl
 by_cases c:0 < bs.length
 ·have z2:decide ((bs.length:Int) > 0) = true:=decide_eq_true (by omega)
  simp -implicitDefEqProofs (maxSteps:=1000000) (disch:=omega) only [↓zzP,zzA,zzL,zzB,reduceIte,reduceCtorEq,Nat.reduceLT,↓reduceIte,Nat.reduceEqDiff,Nat.reduceLeDiff,Array.reduceGetElem?,↓gd,↓opP,↓qv,↓ef,↓stS,slot,putS,putO,ofV,fldA,lenS,rdF,Ent.row,ldS,sz,wrF,binH,binS2,binS,tupS,stor,res143,z1,z2,hk]
  repeat (refine ⟨by omega,?_⟩)
  exact intoR_refl (by rw [putH_len]; exact Nat.le_refl _) (h1 c _ _ _ ((Ext.refl _ _).put _ (.inl rfl)) (lookH_put_same _ hlt) (RdB.put ⟨k,d,e,w,N,F,rfl,hr,hN,hF⟩ hk _))
 ·have z2:decide ((bs.length:Int) > 0) = false:=decide_eq_false (by omega)
  simp -implicitDefEqProofs (maxSteps:=1000000) (disch:=omega) only [↓zzP,zzA,zzL,zzB,reduceIte,reduceCtorEq,Nat.reduceLT,↓reduceIte,Nat.reduceEqDiff,Nat.reduceLeDiff,Array.reduceGetElem?,↓gd,↓opP,↓qv,slot,putS,putO,ofV,fldA,lenS,rdF,Ent.row,ldS,sz,binH,binS2,binS,tupS,res143,z1,z2,hk]
  repeat (refine ⟨by omega,?_⟩)
  exact intoR_refl (Nat.le_refl _) (h0 (by omega))
set_option maxHeartbeats 4000000 in
theorem c140 (bs:List By) (h:List Chunk) (kr:Nat) (sv:SV) (hk:lookH h kr = .cells true [sv,.int .i64 0]) (hB:RdB h sv bs) (hl:bs.length≤35184372088832) (K:Tok→SV→List Chunk→Prop) (hE:∀ e2,pDig bs = .error e2→∀ H sv' bs',Ext (fun j=>j = kr) h H→lookH H kr = .cells true [sv',.int .i64 e2]→RdB H sv' bs'→K .mk (.fam 32 1 fun _=>.int .u8 0) H) (hO:∀ x bs',pDig bs = .ok (x,bs')→∀ H sv',Ext (fun j=>j = kr) h H→lookH H kr = .cells true [sv',.int .i64 0]→RdB H sv' bs'→K .mk (dig32 x) H):callP Try.prog 140 [.ptr kr 0] h K:=by
 have hlt:=lookH_lt hk (by simp)
 refine callP_of_code tabOk Try.func140 (by kernel_rfl) rfl (Nat.le_of_ble_eq_true rfl) (codeP_of_vc (pl:=np) tabOk follows_mixed (by kernel_rfl) ?_)
 rw [Try.ntmps140]
 simp -implicitDefEqProofs (maxSteps:=1000000) (disch:=omega) only [↓zzP,zzA,zzL,zzB,reduceIte,reduceCtorEq,Nat.reduceLT,↓reduceIte,↓gd,↓opP,↓qv,↓ef,slot,putS,putO,ofV,asRow,rdF,Ent.row,ldS,tupS,res140]
 repeat (refine ⟨by omega,?_⟩)
 refine codeP_loop (pl:=np) tabOk follows_mixed (by kernel_rfl) (fun z st=>∃ (i:Nat) (H:List Chunk) (g:Nat→By) (sv1:SV) (er:Int) (r:List By) (j:Nat→Value),i+z = 32∧Ext (fun j=>j = kr) h H∧lookH H h.length = .cells true [.fam 32 1 fun _=>.int .u8 0]∧lookH H (h.length+1) = .cells true [.fam 32 1 fun i=>.int .u8 (nat (g i))]∧lookH H kr = .cells true [sv1,.int .i64 er]∧RdB H sv1 r∧((er = 0∧i≤bs.length∧r = bs.drop i∧∀ j,j < i→g j = bs.getD j 0) ∨ (er = 3∧bs.length < i))∧st = ⟨⟨20,[(0,.ptr kr 0),(2,.ptr h.length 0),(3,.ptr (h.length+1) 0),(5,.int .i64 (i:Nat))],j⟩,H,[]⟩) ?_ ?_
 ·exact into_keep [(0,.ptr kr 0),(2,.ptr h.length 0),(3,.ptr (h.length+1) 0),(5,.int .i64 (0:Nat))] (by simp [sameT,slot,lkL]) fun j=>⟨32,0,_,fun _=>0,sv,0,bs,j,rfl,(Ext.refl _ _).app _,lookH_app0 _ _,lookH_app _ 1 _,by rw [lookH_at _ hlt]; exact hk,hB.ext (extR_app _ _),.inl ⟨rfl,Nat.zero_le _,rfl,fun j hj=>absurd hj (Nat.not_lt_zero _)⟩,rfl⟩
 rintro z st ⟨i,H,g,sv1,er,r,j,hiz,hE1,e0,e1,hk1,hB1,hcase,rfl⟩
 obtain ⟨k1,d1,x1,w1,N1,F1,rfl,hr1,hN1,hF1⟩:=id hB1
 have hk1l:=lookH_lt hk1 (by simp)
 have hll:=lookH_lt e0 (by simp)
 have hll1:=lookH_lt e1 (by simp)
 by_cases ci:i < 32
 ·have g1:decide ((i:Int) < 32) = true:=decide_eq_true (by omega)
  have a1:IntKind.i64.wrap ((i:Int)+1) = ((i+1:Nat):Int):=by rw [wrap64 (by omega) (by omega)]; omega
  have upd:∀ x:By,(fun j=>if j = i then SV.int .u8 (nat x) else .int .u8 (nat (g j))) = fun j=>.int .u8 (nat (if j = i then x else g j)):=fun x=>funext fun j=>by split <;> rfl
  have nz:(SV.int .u8 0) = .int .u8 (nat (0:By)):=rfl
  simp -implicitDefEqProofs (maxSteps:=1000000) (disch:=omega) only [↓zzP,zzA,zzL,reduceIte,reduceCtorEq,Nat.reduceLT,↓reduceIte,Nat.reduceEqDiff,↓gd,↓opP,↓qv,slot,putS,putO,ofV,binH,binS2,binS,g1]
  repeat (refine ⟨by omega,?_⟩)
  rcases hcase with ⟨rfl,hib,rfl,hg⟩ | ⟨rfl,hib⟩
  ·refine c137 (bs.drop i) H kr _ hk1 hB1 (by rw [List.length_drop]; omega) _ (fun e2 he H2 sv2 r2 hE2 hk2 hB2=>?_) (fun x r2 he H2 sv2 hE2 hk2 hB2=>?_)
   ·rcases pByte_drop (bs:=bs) (i:=i) with ⟨hle,hp⟩ | ⟨_,hp⟩
    ·rw [hp] at he
     cases he
     have f0:=hE2.look e0 (by simp) fun h=>absurd h (by omega)
     have f1:=hE2.look e1 (by simp) fun h=>absurd h (by omega)
     have l1:=lookH_lt f1 (by simp)
     have hE3:=hE1.trans hE2
     simp -implicitDefEqProofs (maxSteps:=1000000) (disch:=omega) only [↓zzP,zzA,zzL,zzB,reduceIte,reduceCtorEq,Nat.reduceLT,↓reduceIte,Nat.reduceEqDiff,↓gd,↓opP,↓qv,↓ef,↓stS,slot,putS,putO,ofV,idxA,sz,binH,binS2,binS,stor,f1,a1]
     repeat (refine ⟨by omega,?_⟩)
     rw [nz,upd 0]
     exact into_keep [(0,.ptr kr 0),(2,.ptr h.length 0),(3,.ptr (h.length+1) 0),(5,.int .i64 ((i+1):Nat))] (by simp [sameT,slot,lkL]) fun j=>⟨z - 1,by omega,i+1,_,_,_,_,_,j,by omega,hE3.put (p:=h.length+1) _ (.inr (Nat.le_succ _)),by rw [lookH_put_ne _ (by omega)]; exact f0,lookH_put_same _ l1,by rw [lookH_put_ne _ (by omega)]; exact hk2,RdB.put hB2 f1 _,.inr ⟨rfl,by omega⟩,rfl⟩
    ·rw [hp] at he
     cases he
   ·rcases pByte_drop (bs:=bs) (i:=i) with ⟨_,hp⟩ | ⟨hlt2,hp⟩
    ·rw [hp] at he
     cases he
    ·rw [hp] at he
     cases he
     have f0:=hE2.look e0 (by simp) fun h=>absurd h (by omega)
     have f1:=hE2.look e1 (by simp) fun h=>absurd h (by omega)
     have l1:=lookH_lt f1 (by simp)
     have hE3:=hE1.trans hE2
     simp -implicitDefEqProofs (maxSteps:=1000000) (disch:=omega) only [↓zzP,zzA,zzL,zzB,reduceIte,reduceCtorEq,Nat.reduceLT,↓reduceIte,Nat.reduceEqDiff,↓gd,↓opP,↓qv,↓ef,↓stS,slot,putS,putO,ofV,idxA,sz,binH,binS2,binS,stor,f1,a1]
     repeat (refine ⟨by omega,?_⟩)
     rw [upd]
     exact into_keep [(0,.ptr kr 0),(2,.ptr h.length 0),(3,.ptr (h.length+1) 0),(5,.int .i64 ((i+1):Nat))] (by simp [sameT,slot,lkL]) fun j=>⟨z - 1,by omega,i+1,_,_,_,_,_,j,by omega,hE3.put (p:=h.length+1) _ (.inr (Nat.le_succ _)),by rw [lookH_put_ne _ (by omega)]; exact f0,lookH_put_same _ l1,by rw [lookH_put_ne _ (by omega)]; exact hk2,RdB.put hB2 f1 _,.inl ⟨rfl,hlt2,rfl,fun j2 hj2=>by
      by_cases c2:j2 = i
      ·rw [if_pos c2,c2]
      ·rw [if_neg c2]; exact hg j2 (by omega)⟩,rfl⟩
  ·refine c137x H kr k1 d1 x1 _ 3 hk1 (by decide) _ ?_
   simp -implicitDefEqProofs (maxSteps:=1000000) (disch:=omega) only [↓zzP,zzA,zzL,zzB,reduceIte,reduceCtorEq,Nat.reduceLT,↓reduceIte,Nat.reduceEqDiff,↓gd,↓opP,↓qv,↓ef,↓stS,slot,putS,putO,ofV,idxA,sz,binH,binS2,binS,stor,e1,a1]
   repeat (refine ⟨by omega,?_⟩)
   rw [nz,upd 0]
   exact into_keep [(0,.ptr kr 0),(2,.ptr h.length 0),(3,.ptr (h.length+1) 0),(5,.int .i64 ((i+1):Nat))] (by simp [sameT,slot,lkL]) fun j=>⟨z - 1,by omega,i+1,_,_,_,_,_,j,by omega,hE1.put (p:=h.length+1) _ (.inr (Nat.le_succ _)),by rw [lookH_put_ne _ (by omega)]; exact e0,lookH_put_same _ hll1,by rw [lookH_put_ne _ (by omega)]; exact hk1,RdB.put hB1 e1 _,.inr ⟨rfl,by omega⟩,rfl⟩
 ·have g1:decide ((i:Int) < 32) = false:=decide_eq_false (by omega)
  rcases hcase with ⟨rfl,hib,rfl,hg⟩ | ⟨rfl,hib⟩
  ·have z0:((0:Int) != 0) = false:=rfl
   simp -implicitDefEqProofs (maxSteps:=1000000) (disch:=omega) only [↓zzP,zzA,zzL,zzB,reduceIte,reduceCtorEq,Nat.reduceLT,↓reduceIte,Nat.reduceEqDiff,Nat.reduceLeDiff,↓gd,↓opP,↓qv,↓ef,↓stS,slot,putS,putO,ofV,fldA,asRow,rdF,Ent.row,ldS,sz,wrF,binH,binS2,binS,stor,g1,z0,hk1,e0,e1,lookH_put_same]
   repeat (refine ⟨by omega,?_⟩)
   have hp:pDig bs = .ok (fun i=>bs.getD i 0,bs.drop 32):=by unfold pDig; rw [if_neg (by omega)]
   obtain rfl:i = 32:=by omega
   refine intoR_den (v':=dig32 fun i=>bs.getD i 0) (fun ρ=>den_fam fun i hi=>by rw [hg i hi]) (fun i hi=>⟨rfl,trivial⟩) (intoR_refl (by rw [putH_len]; exact hE1.1) (hO _ _ hp _ _ (hE1.put (p:=h.length) _ (.inr (Nat.le_refl _))) (by rw [lookH_put_ne _ (by omega)]; exact hk1) (RdB.put hB1 e0 _)))
  ·have z0:((3:Int) != 0) = true:=rfl
   simp -implicitDefEqProofs (maxSteps:=1000000) (disch:=omega) only [↓zzP,zzA,zzL,zzB,reduceIte,reduceCtorEq,Nat.reduceLT,↓reduceIte,Nat.reduceEqDiff,Nat.reduceLeDiff,↓gd,↓opP,↓qv,↓ef,↓stS,slot,putS,putO,ofV,fldA,asRow,rdF,Ent.row,ldS,sz,wrF,bldS,binH,binS2,binS,stor,g1,z0,hk1,e0,lookH_put_same]
   repeat (refine ⟨by omega,?_⟩)
   have hp:pDig bs = .error 3:=by unfold pDig; rw [if_pos (by omega)]
   exact intoR_refl (by rw [putH_len]; exact hE1.1) (hE 3 hp _ _ _ (hE1.put (p:=h.length) _ (.inr (Nat.le_refl _))) (by rw [lookH_put_ne _ (by omega)]; exact hk1) (RdB.put hB1 e0 _))
end Go.Proofs.Ytgocfglmideobaa
set_option linter.all false
set_option maxRecDepth 40000
namespace Go.Proofs.Ytgocfglmideobaa.S
open Go Go.Sx
theorem follows_mixed:Try.prog.follows .mixedOrders = true:=by kernel_rfl
def np:Nat→Plan:=fun _=>.nil
theorem c74 (x:BitVec 32) (k:Int) (s:Nat) (hs:bits .and .u64 (IntKind.u64.wrap k) 31 = s) (h0:s≤32) (h:List Chunk) (K:Tok→SV→List Chunk→Prop) (hK:K .mk (.int .u32 (nat (x <<< s ||| x >>> (32 - s)))) h):callP Try.prog 171 [.int .u32 (nat x),.int .i64 k] h K:=by
 refine callP_of_code tabOk Try.func171 (by kernel_rfl) rfl (Nat.le_of_ble_eq_true rfl) (codeP_of_vc (pl:=np) tabOk follows_mixed (by kernel_rfl) ?_)
 rw [Try.ntmps171]
 simp -implicitDefEqProofs (maxSteps:=1000000) (disch:=omega) only [↓zzP,zzA,reduceIte,reduceCtorEq,Nat.reduceLT,↓reduceIte,Nat.reduceEqDiff,Nat.reduceAdd,↓gd,↓opP,↓qv,slot,putS,putO,ofV,convS,binH,binS2,binS,tupS]
 have e:IntKind.u64.wrap (32 - (s:Int)) = ((32 - s:Nat):Int):=by
  rw [show (32:Int) - s = ((32 - s:Nat):Int) by omega]
  exact Go.Sx.wrap_small (k:=.u64) rfl (by omega) (by rw [show IntKind.u64.bits = 64 from rfl]; omega)
 rw [hs,e]
 simp only [shl32 x s h0,shr32 x (32 - s) (by omega),or32,Try.f171,resS,Sx.look,tupS]
 exact ⟨by omega,by omega,intoR_refl (Nat.le_refl _) hK⟩
def rotr (x:BitVec 32) (k:Nat):BitVec 32:=x <<< (32 - k) ||| x >>> k
theorem c67 (x:BitVec 32) (k:Int) (n:Nat) (hk:k = n) (hs:bits .and .u64 (IntKind.u64.wrap (IntKind.i64.wrap (0 - k))) 31 = ((32 - n:Nat):Int)) (hn:n≤32) (h:List Chunk) (K:Tok→SV→List Chunk→Prop) (hK:K .mk (.int .u32 (nat (rotr x n))) h):callP Try.prog 169 [.int .u32 (nat x),.int .i64 k] h K:=by
 refine callP_of_code tabOk Try.func169 (by kernel_rfl) rfl (Nat.le_of_ble_eq_true rfl) (codeP_of_vc (pl:=np) tabOk follows_mixed (by kernel_rfl) ?_)
 rw [Try.ntmps169]
 simp -implicitDefEqProofs (maxSteps:=1000000) (disch:=omega) only [↓zzP,zzA,reduceIte,reduceCtorEq,Nat.reduceLT,↓reduceIte,Nat.reduceEqDiff,Nat.reduceAdd,↓gd,↓opP,↓qv,slot,putS,putO,ofV,unS,tupS]
 refine c74 x _ _ hs (by omega) h _ ?_
 simp -implicitDefEqProofs (maxSteps:=1000000) (disch:=omega) only [↓zzP,zzA,reduceIte,Nat.reduceLT,↓reduceIte,↓gd,↓opP,↓qv,slot,putS,putO]
 simp only [Try.f169,resS,Sx.look,tupS]
 refine intoR_refl (Nat.le_refl _) ?_
 rw [show 32 - (32 - n) = n by omega]
 exact hK
def rootL:List (BitVec 32):=[1116352408,1899447441,3049323471,3921009573,961987163,1508970993,2453635748,2870763221,3624381080,310598401,607225278,1426881987,1925078388,2162078206,2614888103,3248222580,3835390401,4022224774,264347078,604807628,770255983,1249150122,1555081692,1996064986,2554220882,2821834349,2952996808,3210313671,3336571891,3584528711,113926993,338241895,666307205,773529912,1294757372,1396182291,1695183700,1986661051,2177026350,2456956037,2730485921,2820302411,3259730800,3345764771,3516065817,3600352804,4094571909,275423344,430227734,506948616,659060556,883997877,958139571,1322822218,1537002063,1747873779,1955562222,2024104815,2227730452,2361852424,2428436474,2756734187,3204031479,3329325298]
def rootK (i:Nat):BitVec 32:=rootL.getD i 0
theorem res68:Try.f170.results.toList = [.cell 0 179]:=rfl
theorem c68l (K:Tok→SV→List Chunk→Prop) (hK:K .mk (.fam 64 1 fun i=>.int .u32 (nat (rootK i))) []):callP Try.prog 170 [] [] K:=by
 refine callP_of_code tabOk Try.func170 (by kernel_rfl) rfl (Nat.le_of_ble_eq_true rfl) (codeP_of_vc (pl:=np) tabOk follows_mixed (by kernel_rfl) ?_)
 rw [Try.ntmps170]
 simp -implicitDefEqProofs (maxSteps:=1000000) (disch:=omega) only [↓zzP,zzA,zzL,Nat.reduceSub,reduceIte,reduceCtorEq,Nat.reduceLT,↓reduceIte,Nat.reduceLeDiff,Nat.reduceAdd,↓gd,↓opP,↓qv,↓ef,↓stS,slot,putS,putO,ofV,parts,rdF,Ent.row,ldS,sz,wrF,bldS,tupS,stor,res68]
 refine intoR_mk [] (.fam 64 1 fun i=>.int .u32 (nat (rootK i))) [] ?_ ?_ ?_ ?_ ?_ ?_ ?_ hK
 ·simp [slot,lkL,fixed,rg,renH,chEq,lookH,eqvL,eqv,eqvF,rnmL,rnm,liveN,Chunk.live,goodH,Chunk.good,okL,ok,sz,szL,storL,stor,renT,okT]
 ·simp [slot,lkL,fixed,rg,renH,chEq,lookH,eqvL,eqv,eqvF,rnmL,rnm,liveN,Chunk.live,goodH,Chunk.good,okL,ok,sz,szL,storL,stor,renT,okT]
 ·simp [slot,lkL,fixed,rg,renH,chEq,lookH,eqvL,eqv,eqvF,rnmL,rnm,liveN,Chunk.live,goodH,Chunk.good,okL,ok,sz,szL,storL,stor,renT,okT]
 ·simp [slot,lkL,fixed,rg,renH,chEq,lookH,eqvL,eqv,eqvF,rnmL,rnm,liveN,Chunk.live,goodH,Chunk.good,okL,ok,sz,szL,storL,stor,renT,okT]
 ·simp [slot,lkL,fixed,rg,renH,chEq,lookH,eqvL,eqv,eqvF,rnmL,rnm,liveN,Chunk.live,goodH,Chunk.good,okL,ok,sz,szL,storL,stor,renT,okT]
 ·simp [slot,lkL,fixed,rg,renH,chEq,lookH,eqvL,eqv,eqvF,rnmL,rnm,liveN,Chunk.live,goodH,Chunk.good,okL,ok,sz,szL,storL,stor,renT,okT,rootK,rootL,nat]
 ·simp [slot,lkL,fixed,rg,renH,chEq,lookH,eqvL,eqv,eqvF,rnmL,rnm,liveN,Chunk.live,goodH,Chunk.good,okL,ok,sz,szL,storL,stor,renT,okT]
theorem c68 (h:List Chunk) (K:Tok→SV→List Chunk→Prop) (hK:K .mk (.fam 64 1 fun i=>.int .u32 (nat (rootK i))) h):callP Try.prog 170 [] h K :=
 callP_frame (KL:=fun _ v h'=>v = .fam 64 1 (fun i=>.int .u32 (nat (rootK i)))∧h' = []) [] (c68l _ ⟨rfl,rfl⟩) List.nodup_nil trivial trivial trivial rfl (by
  rintro v h' ⟨rfl,rfl⟩
  refine ⟨?_,trivial,?_⟩
  ·intro c hc; cases hc
  ·simpa [rnm,lay] using hK)
end Go.Proofs.Ytgocfglmideobaa.S
set_option linter.all false
set_option maxRecDepth 40000
namespace Go.Proofs.Ytgocfglmideobaa.S
open Go Go.Sx
def pl166:Nat→Plan
 | 4=>(.q 0 (.q 1 (.q 2 (.q 3 (.q 4 (.q 5 (.q 6 (.q 7 (.q 8 (.q 9 (.q 10 (.q 11 (.q 12 (.q 13 (.q 14 (.q 15 (.q 16 (.q 17 (.q 18 (.q 19 (.q 20 (.q 21 (.q 22 (.q 23 (.q 24 (.q 25 (.q 26 (.q 27 (.q 28 (.q 29 (.q 30 (.q 31 (.q 32 (.q 33 (.q 34 (.e1 35 [4,5,6,12,13,14,21,22,23,30,31,32,34] .nil))))))))))))))))))))))))))))))))))))
 | 9=>(.q 0 (.q 1 (.q 2 (.q 3 (.q 4 (.q 5 (.q 6 (.q 7 (.q 8 (.q 9 .nil))))))))))
 | 10=>(.q 0 (.q 1 (.q 2 (.q 3 (.q 4 (.q 5 (.q 7 (.q 10 (.q 11 (.q 14 (.q 15 (.q 16 (.q 17 (.q 19 (.q 21 (.q 24 (.q 25 (.e1 6 [] (.e1 8 [6] (.q 9 (.q 12 (.q 13 (.q 18 (.e1 20 [6,8] (.e1 22 [8,20] (.q 23 (.q 26 (.q 27 (.q 28 (.e1 29 [3,4,6,8,16,17,20,22,28] .nil))))))))))))))))))))))))))))))
 | 15=>(.q 0 (.q 1 (.q 2 (.q 3 (.q 4 (.q 5 .nil))))))
 | 16=>(.q 0 (.q 1 (.q 2 (.q 4 (.q 7 (.q 11 (.q 12 (.q 13 (.q 14 (.q 15 (.q 16 (.q 17 (.q 18 (.q 19 (.q 20 (.q 22 (.q 24 (.q 25 (.q 26 (.e1 3 [] (.e1 5 [3] (.q 6 (.e1 8 [3,5] (.q 9 (.q 10 (.q 21 (.q 23 (.q 27 (.q 28 .nil)))))))))))))))))))))))))))))
 | 17=>(.q 0 (.q 2 (.q 5 (.q 8 (.q 9 (.q 10 (.q 11 (.q 12 (.q 13 (.q 14 (.q 15 (.q 16 (.q 17 (.q 18 (.q 19 (.q 20 (.q 21 (.q 22 (.e1 1 [] (.e1 3 [1] (.q 4 (.e1 6 [1,3] (.q 7 (.q 23 (.q 24 .nil)))))))))))))))))))))))))
 | 23=>(.q 0 (.q 1 (.q 2 (.q 3 (.q 4 (.q 5 (.q 6 (.q 7 (.q 8 (.q 9 (.q 10 (.e1 11 [3,4,6,7,10] .nil))))))))))))
 | _=>.nil
theorem takeC_zero (l:List SV):takeC 0 l = some ([],l):=by cases l <;> simp [takeC]
def word (b:Nat→BitVec 8) (t:Nat):BitVec 32 :=
 (b (4 * t)).setWidth 32 <<< 24 ||| (b (4 * t+1)).setWidth 32 <<< 16 ||| (b (4 * t+2)).setWidth 32 <<< 8 ||| (b (4 * t+3)).setWidth 32
def ld (b:Nat→BitVec 8) (t:Nat):Nat→BitVec 32:=fun i=>if i < t then word b i else 0
def sch (g:Nat→BitVec 32) (t:Nat):BitVec 32 :=
 g (t - 16)+(rotr (g (t - 15)) 7 ^^^ rotr (g (t - 15)) 18 ^^^ g (t - 15) >>> 3)+g (t - 7)+(rotr (g (t - 2)) 17 ^^^ rotr (g (t - 2)) 19 ^^^ g (t - 2) >>> 10)
def schF (g:Nat→BitVec 32):Nat→Nat→BitVec 32
 | 0=>g
 | k+1=>fun i=>if i = 16+k then sch (schF g k) (16+k) else schF g k i
def rnd (s:Nat→BitVec 32) (k w:BitVec 32):Nat→BitVec 32
 | 0=>(s 7+(rotr (s 4) 6 ^^^ rotr (s 4) 11 ^^^ rotr (s 4) 25)+(s 4 &&& s 5 ^^^ ~~~(s 4) &&& s 6)+k+w)+((rotr (s 0) 2 ^^^ rotr (s 0) 13 ^^^ rotr (s 0) 22)+(s 0 &&& s 1 ^^^ s 0 &&& s 2 ^^^ s 1 &&& s 2))
 | 1=>s 0
 | 2=>s 1
 | 3=>s 2
 | 4=>s 3+(s 7+(rotr (s 4) 6 ^^^ rotr (s 4) 11 ^^^ rotr (s 4) 25)+(s 4 &&& s 5 ^^^ ~~~(s 4) &&& s 6)+k+w)
 | 5=>s 4
 | 6=>s 5
 | _=>s 6
def rnds (s:Nat→BitVec 32) (w:Nat→BitVec 32):Nat→Nat→BitVec 32
 | 0=>s
 | t+1=>rnd (rnds s w t) (rootK t) (w t)
def comp (s:Nat→BitVec 32) (b:Nat→BitVec 8) (i:Nat):BitVec 32:=s i+rnds s (schF (ld b 16) 48) 64 i
set_option maxHeartbeats 4000000 in
theorem c54l (w:Nat→BitVec 32) (rest:List SV) (d e n:Nat) (b:Nat→BitVec 8) (hn:e+64≤n) (hro:okL 2 rest) (hrs:storL rest) (K:Tok→SV→List Chunk→Prop)
  (hK:K .mk (.tup []) [.cells true ([.int .u32 (nat (comp w (fun i=>b (e+i)) 0)),.int .u32 (nat (comp w (fun i=>b (e+i)) 1)),.int .u32 (nat (comp w (fun i=>b (e+i)) 2)),.int .u32 (nat (comp w (fun i=>b (e+i)) 3)),.int .u32 (nat (comp w (fun i=>b (e+i)) 4)),.int .u32 (nat (comp w (fun i=>b (e+i)) 5)),.int .u32 (nat (comp w (fun i=>b (e+i)) 6)),.int .u32 (nat (comp w (fun i=>b (e+i)) 7))]++rest),.row false n 1 fun i=>.int .u8 (nat (b i))]) :
  callP Try.prog 166 [.ptr 0 0,.osl 1 d e 1 64] [.cells true ([.int .u32 (nat (w 0)),.int .u32 (nat (w 1)),.int .u32 (nat (w 2)),.int .u32 (nat (w 3)),.int .u32 (nat (w 4)),.int .u32 (nat (w 5)),.int .u32 (nat (w 6)),.int .u32 (nat (w 7))]++rest),.row false n 1 fun i=>.int .u8 (nat (b i))] K:=by
 refine callP_of_code tabOk Try.func166 (by kernel_rfl) rfl (Nat.le_of_ble_eq_true rfl) (codeP_of_vc (pl:=pl166) tabOk follows_mixed (by kernel_rfl) ?_)
 rw [Try.ntmps166]
 simp -implicitDefEqProofs (maxSteps:=1000000) (disch:=omega) only [↓zzP,zzA,zzL,reduceIte,reduceCtorEq,Nat.reduceLT,↓reduceIte,Nat.reduceAdd,↓gd,↓opP,↓qv,↓ef,putS,putO,ofV,parts,tupS]
 have hr3:∀ r,eqvL rest (rnmL (rg (some 0 :: some 1 :: r)) rest):=fun r=>rnmL_fix (n:=2) (fun k hk=>by
  rcases k with _ | _ | k
  ·rfl
  ·rfl
  ·omega) rest hro
 have hok3:∀ m,2≤m→okL m rest:=fun m h=>okL_mono h rest hro
 refine codeP_loop (pl:=pl166) tabOk follows_mixed (by kernel_rfl) (fun m s=>∃ (t:Nat) (j:Nat→Value),t+m = 16∧s = ⟨⟨195,[(0,.ptr 0 0),(1,.osl 1 d e 1 64),(4,.ptr 2 0),(17,.int .i64 (t:Nat))],j⟩,[.cells true ([.int .u32 (nat (w 0)),.int .u32 (nat (w 1)),.int .u32 (nat (w 2)),.int .u32 (nat (w 3)),.int .u32 (nat (w 4)),.int .u32 (nat (w 5)),.int .u32 (nat (w 6)),.int .u32 (nat (w 7))]++rest),.row false n 1 fun i=>.int .u8 (nat (b i)),.cells true [.fam 64 1 fun i=>.int .u32 (nat (ld (fun i=>b (e+i)) t i))]],[]⟩) ?_ ?_
 ·refine into_mk [some 0,some 1,some 2] [(0,.ptr 0 0),(1,.osl 1 d e 1 64),(4,.ptr 2 0),(17,.int .i64 0)] [.cells true ([.int .u32 (nat (w 0)),.int .u32 (nat (w 1)),.int .u32 (nat (w 2)),.int .u32 (nat (w 3)),.int .u32 (nat (w 4)),.int .u32 (nat (w 5)),.int .u32 (nat (w 6)),.int .u32 (nat (w 7))]++rest),.row false n 1 fun i=>.int .u8 (nat (b i)),.cells true [.fam 64 1 fun i=>.int .u32 (nat (ld (fun i=>b (e+i)) 0 i))]] ?_ ?_ ?_ ?_ ?_ ?_ ?_ ?_
  ·simp [slot,lkL,fixed,rg,renH,chEq,lookH,eqvL,eqv,eqvF,rnmL,rnm,liveN,Chunk.live,goodH,Chunk.good,okL,ok,sz,szL,storL,stor,renT,okT]
  ·simp [slot,lkL,fixed,rg,renH,chEq,lookH,eqvL,eqv,eqvF,rnmL,rnm,liveN,Chunk.live,goodH,Chunk.good,okL,ok,sz,szL,storL,stor,renT,okT]
  ·simp [slot,lkL,fixed,rg,renH,chEq,lookH,eqvL,eqv,eqvF,rnmL,rnm,liveN,Chunk.live,goodH,Chunk.good,okL,ok,sz,szL,storL,stor,renT,okT,hr3,ld,nat]
  ·simp [slot,lkL,fixed,rg,renH,chEq,lookH,eqvL,eqv,eqvF,rnmL,rnm,liveN,Chunk.live,goodH,Chunk.good,okL,ok,sz,szL,storL,stor,renT,okT]
  ·simp [slot,lkL,fixed,rg,renH,chEq,lookH,eqvL,eqv,eqvF,rnmL,rnm,liveN,Chunk.live,goodH,Chunk.good,okL,ok,sz,szL,storL,stor,renT,okT,hok3,hrs]
  ·simp [slot,lkL,fixed,rg,renH,chEq,lookH,eqvL,eqv,eqvF,rnmL,rnm,liveN,Chunk.live,goodH,Chunk.good,okL,ok,sz,szL,storL,stor,renT,okT]
  ·simp [slot,lkL,fixed,rg,renH,chEq,lookH,eqvL,eqv,eqvF,rnmL,rnm,liveN,Chunk.live,goodH,Chunk.good,okL,ok,sz,szL,storL,stor,renT,okT]
  ·intro j
   exact ⟨16,0,j,rfl,rfl⟩
 ·rintro m s ⟨t,j,ht,rfl⟩
  have a0:IntKind.i64.wrap (4 * (t:Int)) = ((4 * t:Nat):Int):=by rw [wrap64 (by omega) (by omega)]; omega
  have a1:IntKind.i64.wrap (((4 * t:Nat):Int)+1) = ((4 * t+1:Nat):Int):=by rw [wrap64 (by omega) (by omega)]; omega
  have a2:IntKind.i64.wrap (((4 * t:Nat):Int)+2) = ((4 * t+2:Nat):Int):=by rw [wrap64 (by omega) (by omega)]; omega
  have a3:IntKind.i64.wrap (((4 * t:Nat):Int)+3) = ((4 * t+3:Nat):Int):=by rw [wrap64 (by omega) (by omega)]; omega
  have a4:IntKind.i64.wrap ((t:Int)+1) = ((t+1:Nat):Int):=by rw [wrap64 (by omega) (by omega)]; omega
  simp -implicitDefEqProofs (maxSteps:=1000000) (disch:=omega) only [↓zzP,zzA,zzL,reduceIte,reduceCtorEq,Nat.reduceLT,Int.reduceLE,↓reduceIte,Nat.reduceEqDiff,Int.reduceToNat,Array.reduceGetElem?,↓gd,↓opP,↓qv,↓ef,↓stS,slot,putS,putO,ofV,convS,idxA,oslN,parts,single,rdF,Ent.row,ldS,sz,binH,binS2,binS,stor,qn,ldN,convN,↓Array.reduceGetElem?,pl166,a0,a1,a2,a3,a4]
  refine ⟨Sx.imp_intro fun hc=>?_,Sx.imp_intro fun hc=>?_⟩
  ·have ht':t < 16:=by have:=of_decide_eq_true hc; omega
   and_intros <;> try omega
   refine into_mk [some 0,some 1,some 2] [(0,.ptr 0 0),(1,.osl 1 d e 1 64),(4,.ptr 2 0),(17,.int .i64 (t+1:Nat))] [.cells true ([.int .u32 (nat (w 0)),.int .u32 (nat (w 1)),.int .u32 (nat (w 2)),.int .u32 (nat (w 3)),.int .u32 (nat (w 4)),.int .u32 (nat (w 5)),.int .u32 (nat (w 6)),.int .u32 (nat (w 7))]++rest),.row false n 1 fun i=>.int .u8 (nat (b i)),.cells true [.fam 64 1 fun i=>.int .u32 (nat (ld (fun i=>b (e+i)) (t+1) i))]] ?_ ?_ ?_ ?_ ?_ ?_ ?_ ?_
   ·simp [slot,lkL,fixed,rg,renH,chEq,lookH,eqvL,eqv,eqvF,rnmL,rnm,liveN,Chunk.live,goodH,Chunk.good,okL,ok,sz,szL,storL,stor,renT,okT]
   ·simp [slot,lkL,fixed,rg,renH,chEq,lookH,eqvL,eqv,eqvF,rnmL,rnm,liveN,Chunk.live,goodH,Chunk.good,okL,ok,sz,szL,storL,stor,renT,okT]
   ·simp [slot,lkL,fixed,rg,renH,chEq,lookH,eqvL,eqv,eqvF,rnmL,rnm,liveN,Chunk.live,goodH,Chunk.good,okL,ok,sz,szL,storL,stor,renT,okT,hr3]
    intro i hi
    by_cases h:i = t
    ·subst h
     simp [ld,word,eqv]
    ·simp [ld,eqv,h,show (i < t+1) = (i < t) by simp; omega]
   ·simp [slot,lkL,fixed,rg,renH,chEq,lookH,eqvL,eqv,eqvF,rnmL,rnm,liveN,Chunk.live,goodH,Chunk.good,okL,ok,sz,szL,storL,stor,renT,okT]
   ·simp [slot,lkL,fixed,rg,renH,chEq,lookH,eqvL,eqv,eqvF,rnmL,rnm,liveN,Chunk.live,goodH,Chunk.good,okL,ok,sz,szL,storL,stor,renT,okT,hok3,hrs]
   ·simp [slot,lkL,fixed,rg,renH,chEq,lookH,eqvL,eqv,eqvF,rnmL,rnm,liveN,Chunk.live,goodH,Chunk.good,okL,ok,sz,szL,storL,stor,renT,okT]
   ·simp [slot,lkL,fixed,rg,renH,chEq,lookH,eqvL,eqv,eqvF,rnmL,rnm,liveN,Chunk.live,goodH,Chunk.good,okL,ok,sz,szL,storL,stor,renT,okT]
   ·intro j
    exact ⟨m - 1,by omega,t+1,j,by omega,rfl⟩
  ·have ht':t = 16:=by
    have:=of_decide_eq_false hc
    omega
   subst ht'
   refine codeP_loop (pl:=pl166) tabOk follows_mixed (by kernel_rfl) (fun m s=>∃ (k:Nat) (j:Nat→Value),k+m = 48∧s = ⟨⟨195,[(0,.ptr 0 0),(4,.ptr 2 0),(6,.int .i64 (16+k:Nat))],j⟩,[.cells true ([.int .u32 (nat (w 0)),.int .u32 (nat (w 1)),.int .u32 (nat (w 2)),.int .u32 (nat (w 3)),.int .u32 (nat (w 4)),.int .u32 (nat (w 5)),.int .u32 (nat (w 6)),.int .u32 (nat (w 7))]++rest),.row false n 1 fun i=>.int .u8 (nat (b i)),.cells true [.fam 64 1 fun i=>.int .u32 (nat (schF (ld (fun i=>b (e+i)) 16) k i))]],[]⟩) ?_ ?_
   ·refine into_mk [some 0,some 1,some 2] [(0,.ptr 0 0),(4,.ptr 2 0),(6,.int .i64 (16+0:Nat))] [.cells true ([.int .u32 (nat (w 0)),.int .u32 (nat (w 1)),.int .u32 (nat (w 2)),.int .u32 (nat (w 3)),.int .u32 (nat (w 4)),.int .u32 (nat (w 5)),.int .u32 (nat (w 6)),.int .u32 (nat (w 7))]++rest),.row false n 1 fun i=>.int .u8 (nat (b i)),.cells true [.fam 64 1 fun i=>.int .u32 (nat (schF (ld (fun i=>b (e+i)) 16) 0 i))]] ?_ ?_ ?_ ?_ ?_ ?_ ?_ ?_
    ·simp [slot,lkL,fixed,rg,renH,chEq,lookH,eqvL,eqv,eqvF,rnmL,rnm,liveN,Chunk.live,goodH,Chunk.good,okL,ok,sz,szL,storL,stor,renT,okT]
    ·simp [slot,lkL,fixed,rg,renH,chEq,lookH,eqvL,eqv,eqvF,rnmL,rnm,liveN,Chunk.live,goodH,Chunk.good,okL,ok,sz,szL,storL,stor,renT,okT]
    ·simp [slot,lkL,fixed,rg,renH,chEq,lookH,eqvL,eqv,eqvF,rnmL,rnm,liveN,Chunk.live,goodH,Chunk.good,okL,ok,sz,szL,storL,stor,renT,okT,hr3,schF]
    ·simp [slot,lkL,fixed,rg,renH,chEq,lookH,eqvL,eqv,eqvF,rnmL,rnm,liveN,Chunk.live,goodH,Chunk.good,okL,ok,sz,szL,storL,stor,renT,okT]
    ·simp [slot,lkL,fixed,rg,renH,chEq,lookH,eqvL,eqv,eqvF,rnmL,rnm,liveN,Chunk.live,goodH,Chunk.good,okL,ok,sz,szL,storL,stor,renT,okT,hok3,hrs]
    ·simp [slot,lkL,fixed,rg,renH,chEq,lookH,eqvL,eqv,eqvF,rnmL,rnm,liveN,Chunk.live,goodH,Chunk.good,okL,ok,sz,szL,storL,stor,renT,okT]
    ·simp [slot,lkL,fixed,rg,renH,chEq,lookH,eqvL,eqv,eqvF,rnmL,rnm,liveN,Chunk.live,goodH,Chunk.good,okL,ok,sz,szL,storL,stor,renT,okT]
    ·intro j
     exact ⟨48,0,j,rfl,rfl⟩
   ·rintro m2 s ⟨k,j,hk,rfl⟩
    have b0:IntKind.i64.wrap (((16+k:Nat):Int) - 15) = ((k+1:Nat):Int):=by rw [wrap64 (by omega) (by omega)]; omega
    have b1:IntKind.i64.wrap (((16+k:Nat):Int) - 2) = ((k+14:Nat):Int):=by rw [wrap64 (by omega) (by omega)]; omega
    have b2:IntKind.i64.wrap (((16+k:Nat):Int) - 16) = ((k:Nat):Int):=by rw [wrap64 (by omega) (by omega)]; omega
    have b3:IntKind.i64.wrap (((16+k:Nat):Int) - 7) = ((k+9:Nat):Int):=by rw [wrap64 (by omega) (by omega)]; omega
    have b4:IntKind.i64.wrap (((16+k:Nat):Int)+1) = ((16+(k+1):Nat):Int):=by rw [wrap64 (by omega) (by omega)]; omega
    simp -implicitDefEqProofs (maxSteps:=1000000) (disch:=omega) only [↓zzP,zzA,zzL,Nat.reduceSub,reduceIte,reduceCtorEq,Nat.reduceLT,Int.reduceLE,↓reduceIte,Nat.reduceEqDiff,Nat.reduceLeDiff,Nat.reduceAdd,Int.reduceToNat,Array.reduceGetElem?,↓gd,↓opP,↓qv,↓ef,↓stS,slot,putS,putO,ofV,idxA,oslN,parts,single,rdF,Ent.row,ldS,sz,wrF,binH,binS2,binS,stor,qn,ldN,↓Array.reduceGetElem?,pl166,takeC_zero,b0,b1,b2,b3]
    refine ⟨Sx.imp_intro fun hc=>?_,Sx.imp_intro fun hc=>?_⟩
    ·have hk':k < 48:=by have:=of_decide_eq_true hc; omega
     and_intros <;> try omega
     refine c67 _ _ 7 rfl rfl (by decide) _ _ ?_
     simp -implicitDefEqProofs (maxSteps:=1000000) (disch:=omega) only [↓zzP,zzA,reduceIte,Nat.reduceLT,↓reduceIte,Nat.reduceEqDiff,Array.reduceGetElem?,↓gd,↓opP,slot,putS,putO,ofV,↓Array.reduceGetElem?]
     refine c67 _ _ 18 rfl rfl (by decide) _ _ ?_
     simp -implicitDefEqProofs (maxSteps:=1000000) (disch:=omega) only [↓zzP,zzA,reduceIte,Nat.reduceLT,↓reduceIte,Nat.reduceEqDiff,Array.reduceGetElem?,↓gd,↓opP,↓qv,slot,putS,putO,ofV,oslN,binH,binS2,binS,qn,↓Array.reduceGetElem?]
     and_intros <;> try omega
     refine c67 _ _ 17 rfl rfl (by decide) _ _ ?_
     simp -implicitDefEqProofs (maxSteps:=1000000) (disch:=omega) only [↓zzP,zzA,reduceIte,Nat.reduceLT,↓reduceIte,Nat.reduceEqDiff,Array.reduceGetElem?,↓gd,↓opP,slot,putS,putO,ofV,↓Array.reduceGetElem?]
     refine c67 _ _ 19 rfl rfl (by decide) _ _ ?_
     simp -implicitDefEqProofs (maxSteps:=1000000) (disch:=omega) only [↓zzP,zzA,zzL,reduceIte,reduceCtorEq,Nat.reduceLT,↓reduceIte,Nat.reduceEqDiff,Array.reduceGetElem?,↓gd,↓opP,↓qv,↓ef,↓stS,slot,putS,putO,ofV,idxA,oslN,sz,binH,binS2,binS,stor,qn,↓Array.reduceGetElem?,b4]
     and_intros <;> try omega
     refine into_mk [some 0,some 1,some 2] [(0,.ptr 0 0),(4,.ptr 2 0),(6,.int .i64 (16+(k+1):Nat))] [.cells true ([.int .u32 (nat (w 0)),.int .u32 (nat (w 1)),.int .u32 (nat (w 2)),.int .u32 (nat (w 3)),.int .u32 (nat (w 4)),.int .u32 (nat (w 5)),.int .u32 (nat (w 6)),.int .u32 (nat (w 7))]++rest),.row false n 1 fun i=>.int .u8 (nat (b i)),.cells true [.fam 64 1 fun i=>.int .u32 (nat (schF (ld (fun i=>b (e+i)) 16) (k+1) i))]] ?_ ?_ ?_ ?_ ?_ ?_ ?_ ?_
     ·simp [slot,lkL,fixed,rg,renH,chEq,lookH,eqvL,eqv,eqvF,rnmL,rnm,liveN,Chunk.live,goodH,Chunk.good,okL,ok,sz,szL,storL,stor,renT,okT]
     ·simp [slot,lkL,fixed,rg,renH,chEq,lookH,eqvL,eqv,eqvF,rnmL,rnm,liveN,Chunk.live,goodH,Chunk.good,okL,ok,sz,szL,storL,stor,renT,okT]
     ·simp [slot,lkL,fixed,rg,renH,chEq,lookH,eqvL,eqv,eqvF,rnmL,rnm,liveN,Chunk.live,goodH,Chunk.good,okL,ok,sz,szL,storL,stor,renT,okT,hr3]
      intro i hi
      by_cases h:i = 16+k
      ·subst h
       simp [schF,sch,eqv,show 16+k - 15 = k+1 by omega,show 16+k - 7 = k+9 by omega,show 16+k - 2 = k+14 by omega]
      ·simp [schF,eqv,h]
     ·simp [slot,lkL,fixed,rg,renH,chEq,lookH,eqvL,eqv,eqvF,rnmL,rnm,liveN,Chunk.live,goodH,Chunk.good,okL,ok,sz,szL,storL,stor,renT,okT]
     ·simp [slot,lkL,fixed,rg,renH,chEq,lookH,eqvL,eqv,eqvF,rnmL,rnm,liveN,Chunk.live,goodH,Chunk.good,okL,ok,sz,szL,storL,stor,renT,okT,hok3,hrs]
     ·simp [slot,lkL,fixed,rg,renH,chEq,lookH,eqvL,eqv,eqvF,rnmL,rnm,liveN,Chunk.live,goodH,Chunk.good,okL,ok,sz,szL,storL,stor,renT,okT]
     ·simp [slot,lkL,fixed,rg,renH,chEq,lookH,eqvL,eqv,eqvF,rnmL,rnm,liveN,Chunk.live,goodH,Chunk.good,okL,ok,sz,szL,storL,stor,renT,okT]
     ·intro j
      exact ⟨m2 - 1,by omega,k+1,j,by omega,rfl⟩
    ·have hk':k = 48:=by
      have:=of_decide_eq_false hc
      omega
     subst hk'
     refine c68 _ _ ?_
     simp -implicitDefEqProofs (maxSteps:=1000000) (disch:=omega) only [↓zzP,zzA,reduceIte,reduceCtorEq,Nat.reduceLT,↓reduceIte,Nat.reduceAdd,↓gd,↓opP,↓qv,putS,putO,ofV]
     obtain ⟨W,hW⟩:∃ W,W = schF (ld (fun i=>b (e+i)) 16) 48:=⟨_,rfl⟩
     rw [← hW]
     refine codeP_loop (pl:=pl166) tabOk follows_mixed (by kernel_rfl) (fun m s=>∃ (t:Nat) (j:Nat→Value),t+m = 64∧s = ⟨⟨195,[(0,.ptr 0 0),(4,.ptr 2 0),(9,.ptr 3 0),(100,.fam 64 1 fun i=>.int .u32 (nat (rootK i))),(101,.int .i64 (t:Nat))],j⟩,[.cells true ([.int .u32 (nat (w 0)),.int .u32 (nat (w 1)),.int .u32 (nat (w 2)),.int .u32 (nat (w 3)),.int .u32 (nat (w 4)),.int .u32 (nat (w 5)),.int .u32 (nat (w 6)),.int .u32 (nat (w 7))]++rest),.row false n 1 fun i=>.int .u8 (nat (b i)),.cells true [.fam 64 1 fun i=>.int .u32 (nat (W i))],.cells true [.int .u32 (nat (rnds w W t 0)),.int .u32 (nat (rnds w W t 1)),.int .u32 (nat (rnds w W t 2)),.int .u32 (nat (rnds w W t 3)),.int .u32 (nat (rnds w W t 4)),.int .u32 (nat (rnds w W t 5)),.int .u32 (nat (rnds w W t 6)),.int .u32 (nat (rnds w W t 7))]],[]⟩) ?_ ?_
     ·refine into_mk [some 0,some 1,some 2,some 3] [(0,.ptr 0 0),(4,.ptr 2 0),(9,.ptr 3 0),(100,.fam 64 1 fun i=>.int .u32 (nat (rootK i))),(101,.int .i64 (0:Nat))] [.cells true ([.int .u32 (nat (w 0)),.int .u32 (nat (w 1)),.int .u32 (nat (w 2)),.int .u32 (nat (w 3)),.int .u32 (nat (w 4)),.int .u32 (nat (w 5)),.int .u32 (nat (w 6)),.int .u32 (nat (w 7))]++rest),.row false n 1 fun i=>.int .u8 (nat (b i)),.cells true [.fam 64 1 fun i=>.int .u32 (nat (W i))],.cells true [.int .u32 (nat (rnds w W 0 0)),.int .u32 (nat (rnds w W 0 1)),.int .u32 (nat (rnds w W 0 2)),.int .u32 (nat (rnds w W 0 3)),.int .u32 (nat (rnds w W 0 4)),.int .u32 (nat (rnds w W 0 5)),.int .u32 (nat (rnds w W 0 6)),.int .u32 (nat (rnds w W 0 7))]] ?_ ?_ ?_ ?_ ?_ ?_ ?_ ?_
      ·simp [slot,lkL,fixed,rg,renH,chEq,lookH,eqvL,eqv,eqvF,rnmL,rnm,liveN,Chunk.live,goodH,Chunk.good,okL,ok,sz,szL,storL,stor,renT,okT]
      ·simp [slot,lkL,fixed,rg,renH,chEq,lookH,eqvL,eqv,eqvF,rnmL,rnm,liveN,Chunk.live,goodH,Chunk.good,okL,ok,sz,szL,storL,stor,renT,okT]
      ·simp [slot,lkL,fixed,rg,renH,chEq,lookH,eqvL,eqv,eqvF,rnmL,rnm,liveN,Chunk.live,goodH,Chunk.good,okL,ok,sz,szL,storL,stor,renT,okT,hr3,rnds]
      ·simp [slot,lkL,fixed,rg,renH,chEq,lookH,eqvL,eqv,eqvF,rnmL,rnm,liveN,Chunk.live,goodH,Chunk.good,okL,ok,sz,szL,storL,stor,renT,okT]
      ·simp [slot,lkL,fixed,rg,renH,chEq,lookH,eqvL,eqv,eqvF,rnmL,rnm,liveN,Chunk.live,goodH,Chunk.good,okL,ok,sz,szL,storL,stor,renT,okT,hok3,hrs]
      ·simp [slot,lkL,fixed,rg,renH,chEq,lookH,eqvL,eqv,eqvF,rnmL,rnm,liveN,Chunk.live,goodH,Chunk.good,okL,ok,sz,szL,storL,stor,renT,okT]
      ·simp [slot,lkL,fixed,rg,renH,chEq,lookH,eqvL,eqv,eqvF,rnmL,rnm,liveN,Chunk.live,goodH,Chunk.good,okL,ok,sz,szL,storL,stor,renT,okT]
      ·intro j
       exact ⟨64,0,j,rfl,rfl⟩
     ·rintro m3 s ⟨t,j,ht,rfl⟩
      have d0:IntKind.i64.wrap ((t:Int)+1) = ((t+1:Nat):Int):=by rw [wrap64 (by omega) (by omega)]; omega
      simp -implicitDefEqProofs (maxSteps:=1000000) (disch:=omega) only [↓zzP,zzA,zzL,Nat.reduceSub,reduceIte,reduceCtorEq,Nat.reduceLT,Int.reduceLE,↓reduceIte,Nat.reduceEqDiff,Nat.reduceLeDiff,Int.reduceNeg,Int.reduceToNat,Array.reduceGetElem?,↓gd,↓opP,↓qv,slot,putS,putO,ofV,idxA,idxS,oslN,unS,parts,single,rdF,Ent.row,ldS,sz,binH,binS2,binS,stor,qn,ldN,↓Array.reduceGetElem?,pl166]
      refine ⟨Sx.imp_intro fun hc=>?_,Sx.imp_intro fun hc=>?_⟩
      ·have ht':t < 64:=by have:=of_decide_eq_true hc; omega
       and_intros <;> try omega
       refine c67 _ _ 6 rfl rfl (by decide) _ _ ?_
       simp -implicitDefEqProofs (maxSteps:=1000000) (disch:=omega) only [↓zzP,zzA,reduceIte,Nat.reduceLT,↓reduceIte,Nat.reduceEqDiff,Array.reduceGetElem?,↓gd,↓opP,slot,putS,putO,ofV,↓Array.reduceGetElem?]
       refine c67 _ _ 11 rfl rfl (by decide) _ _ ?_
       simp -implicitDefEqProofs (maxSteps:=1000000) (disch:=omega) only [↓zzP,zzA,reduceIte,Nat.reduceLT,↓reduceIte,Nat.reduceEqDiff,Array.reduceGetElem?,↓gd,↓opP,↓qv,slot,putS,putO,ofV,oslN,binH,binS2,binS,qn,↓Array.reduceGetElem?]
       refine c67 _ _ 25 rfl rfl (by decide) _ _ ?_
       simp -implicitDefEqProofs (maxSteps:=1000000) (disch:=omega) only [↓zzP,zzA,Nat.reduceSub,reduceIte,reduceCtorEq,Nat.reduceLT,Int.reduceLE,↓reduceIte,Nat.reduceEqDiff,Nat.reduceLeDiff,Int.reduceToNat,Array.reduceGetElem?,↓gd,↓opP,↓qv,slot,putS,putO,ofV,idxA,oslN,single,rdF,Ent.row,ldS,sz,binH,binS2,binS,qn,ldN,↓Array.reduceGetElem?,pl166]
       and_intros <;> try omega
       refine c67 _ _ 2 rfl rfl (by decide) _ _ ?_
       simp -implicitDefEqProofs (maxSteps:=1000000) (disch:=omega) only [↓zzP,zzA,reduceIte,Nat.reduceLT,↓reduceIte,Nat.reduceEqDiff,Array.reduceGetElem?,↓gd,↓opP,slot,putS,putO,ofV,↓Array.reduceGetElem?]
       refine c67 _ _ 13 rfl rfl (by decide) _ _ ?_
       simp -implicitDefEqProofs (maxSteps:=1000000) (disch:=omega) only [↓zzP,zzA,reduceIte,Nat.reduceLT,↓reduceIte,Nat.reduceEqDiff,Array.reduceGetElem?,↓gd,↓opP,↓qv,slot,putS,putO,ofV,oslN,binH,binS2,binS,qn,↓Array.reduceGetElem?]
       refine c67 _ _ 22 rfl rfl (by decide) _ _ ?_
       simp -implicitDefEqProofs (maxSteps:=1000000) (disch:=omega) only [↓zzP,zzA,Nat.reduceSub,reduceIte,reduceCtorEq,Nat.reduceLT,Int.reduceLE,↓reduceIte,Nat.reduceEqDiff,Nat.reduceLeDiff,Nat.reduceAdd,Int.reduceToNat,Array.reduceGetElem?,↓gd,↓opP,↓qv,↓ef,↓stS,slot,putS,putO,ofV,idxA,parts,single,rdF,Ent.row,ldS,sz,wrF,bldS,binH,binS2,binS,stor,↓Array.reduceGetElem?,d0]
       and_intros <;> try omega
       refine into_mk [some 0,some 1,some 2,some 3] [(0,.ptr 0 0),(4,.ptr 2 0),(9,.ptr 3 0),(100,.fam 64 1 fun i=>.int .u32 (nat (rootK i))),(101,.int .i64 (t+1:Nat))] [.cells true ([.int .u32 (nat (w 0)),.int .u32 (nat (w 1)),.int .u32 (nat (w 2)),.int .u32 (nat (w 3)),.int .u32 (nat (w 4)),.int .u32 (nat (w 5)),.int .u32 (nat (w 6)),.int .u32 (nat (w 7))]++rest),.row false n 1 fun i=>.int .u8 (nat (b i)),.cells true [.fam 64 1 fun i=>.int .u32 (nat (W i))],.cells true [.int .u32 (nat (rnds w W (t+1) 0)),.int .u32 (nat (rnds w W (t+1) 1)),.int .u32 (nat (rnds w W (t+1) 2)),.int .u32 (nat (rnds w W (t+1) 3)),.int .u32 (nat (rnds w W (t+1) 4)),.int .u32 (nat (rnds w W (t+1) 5)),.int .u32 (nat (rnds w W (t+1) 6)),.int .u32 (nat (rnds w W (t+1) 7))]] ?_ ?_ ?_ ?_ ?_ ?_ ?_ ?_
       ·simp [slot,lkL,fixed,rg,renH,chEq,lookH,eqvL,eqv,eqvF,rnmL,rnm,liveN,Chunk.live,goodH,Chunk.good,okL,ok,sz,szL,storL,stor,renT,okT]
       ·simp [slot,lkL,fixed,rg,renH,chEq,lookH,eqvL,eqv,eqvF,rnmL,rnm,liveN,Chunk.live,goodH,Chunk.good,okL,ok,sz,szL,storL,stor,renT,okT]
       ·simp [slot,lkL,fixed,rg,renH,chEq,lookH,eqvL,eqv,eqvF,rnmL,rnm,liveN,Chunk.live,goodH,Chunk.good,okL,ok,sz,szL,storL,stor,renT,okT,hr3,rnds,rnd]
       ·simp [slot,lkL,fixed,rg,renH,chEq,lookH,eqvL,eqv,eqvF,rnmL,rnm,liveN,Chunk.live,goodH,Chunk.good,okL,ok,sz,szL,storL,stor,renT,okT]
       ·simp [slot,lkL,fixed,rg,renH,chEq,lookH,eqvL,eqv,eqvF,rnmL,rnm,liveN,Chunk.live,goodH,Chunk.good,okL,ok,sz,szL,storL,stor,renT,okT,hok3,hrs]
       ·simp [slot,lkL,fixed,rg,renH,chEq,lookH,eqvL,eqv,eqvF,rnmL,rnm,liveN,Chunk.live,goodH,Chunk.good,okL,ok,sz,szL,storL,stor,renT,okT]
       ·simp [slot,lkL,fixed,rg,renH,chEq,lookH,eqvL,eqv,eqvF,rnmL,rnm,liveN,Chunk.live,goodH,Chunk.good,okL,ok,sz,szL,storL,stor,renT,okT]
       ·intro j
        exact ⟨m3 - 1,by omega,t+1,j,by omega,rfl⟩
      ·have ht':t = 64:=by
        have:=of_decide_eq_false hc
        omega
       subst ht'
       refine codeP_rounds tabOk follows_mixed (pl:=pl166) (by kernel_rfl) 9 ?_
       simp -implicitDefEqProofs (maxSteps:=1000000) (disch:=omega) only [↓zzP,zzA,zzL,Nat.reduceSub,reduceIte,reduceCtorEq,Nat.reduceLT,Int.reduceLE,↓reduceIte,Nat.reduceEqDiff,Nat.reduceLeDiff,Int.reduceLT,Int.reduceToNat,Array.reduceGetElem?,↓gd,↓opP,↓qv,↓ef,↓stS,slot,putS,putO,ofV,idxA,oslN,parts,single,rdF,Ent.row,ldS,sz,wrF,binH,binS2,binS,stor,qn,ldN,↓Array.reduceGetElem?,pl166,takeC_zero,wrap64,Int.reduceAdd]
       subst hW
       and_intros <;> try omega
       refine intoR_mk [some 0,some 1] (.tup []) [.cells true ([.int .u32 (nat (comp w (fun i=>b (e+i)) 0)),.int .u32 (nat (comp w (fun i=>b (e+i)) 1)),.int .u32 (nat (comp w (fun i=>b (e+i)) 2)),.int .u32 (nat (comp w (fun i=>b (e+i)) 3)),.int .u32 (nat (comp w (fun i=>b (e+i)) 4)),.int .u32 (nat (comp w (fun i=>b (e+i)) 5)),.int .u32 (nat (comp w (fun i=>b (e+i)) 6)),.int .u32 (nat (comp w (fun i=>b (e+i)) 7))]++rest),.row false n 1 fun i=>.int .u8 (nat (b i))] ?_ ?_ ?_ ?_ ?_ ?_ ?_ hK
       ·simp [slot,lkL,fixed,rg,renH,chEq,lookH,eqvL,eqv,eqvF,rnmL,rnm,liveN,Chunk.live,goodH,Chunk.good,okL,ok,sz,szL,storL,stor,renT,okT]
       ·simp [slot,lkL,fixed,rg,renH,chEq,lookH,eqvL,eqv,eqvF,rnmL,rnm,liveN,Chunk.live,goodH,Chunk.good,okL,ok,sz,szL,storL,stor,renT,okT]
       ·simp [slot,lkL,fixed,rg,renH,chEq,lookH,eqvL,eqv,eqvF,rnmL,rnm,liveN,Chunk.live,goodH,Chunk.good,okL,ok,sz,szL,storL,stor,renT,okT,hr3,comp]
       ·simp [slot,lkL,fixed,rg,renH,chEq,lookH,eqvL,eqv,eqvF,rnmL,rnm,liveN,Chunk.live,goodH,Chunk.good,okL,ok,sz,szL,storL,stor,renT,okT]
       ·simp [slot,lkL,fixed,rg,renH,chEq,lookH,eqvL,eqv,eqvF,rnmL,rnm,liveN,Chunk.live,goodH,Chunk.good,okL,ok,sz,szL,storL,stor,renT,okT,hok3,hrs]
       ·simp [slot,lkL,fixed,rg,renH,chEq,lookH,eqvL,eqv,eqvF,rnmL,rnm,liveN,Chunk.live,goodH,Chunk.good,okL,ok,sz,szL,storL,stor,renT,okT]
       ·simp [slot,lkL,fixed,rg,renH,chEq,lookH,eqvL,eqv,eqvF,rnmL,rnm,liveN,Chunk.live,goodH,Chunk.good,okL,ok,sz,szL,storL,stor,renT,okT]
end Go.Proofs.Ytgocfglmideobaa.S
set_option linter.all false
set_option maxRecDepth 40000
namespace Go.Proofs.Ytgocfglmideobaa.S
open Go Go.Sx
def ivL:List (BitVec 32):=[1779033703,3144134277,1013904242,2773480762,1359893119,2600822924,528734635,1541459225]
def iv (i:Nat):BitVec 32:=ivL.getD i 0
theorem res53:Try.f165.results.toList = [.cell 0 200]:=rfl
theorem c53l (K:Tok→SV→List Chunk→Prop) (hK:K .mk (.agg [.int .u32 (nat (iv 0)),.int .u32 (nat (iv 1)),.int .u32 (nat (iv 2)),.int .u32 (nat (iv 3)),.int .u32 (nat (iv 4)),.int .u32 (nat (iv 5)),.int .u32 (nat (iv 6)),.int .u32 (nat (iv 7))]) []):callP Try.prog 165 [] [] K:=by
 refine callP_of_code tabOk Try.func165 (by kernel_rfl) rfl (Nat.le_of_ble_eq_true rfl) (codeP_of_vc (pl:=np) tabOk follows_mixed (by kernel_rfl) ?_)
 rw [Try.ntmps165]
 simp -implicitDefEqProofs (maxSteps:=1000000) (disch:=omega) only [↓zzP,zzA,Nat.reduceSub,reduceIte,reduceCtorEq,Nat.reduceLT,↓reduceIte,Nat.reduceLeDiff,Nat.reduceAdd,↓gd,↓opP,↓qv,↓ef,↓stS,slot,putS,putO,ofV,parts,rdF,Ent.row,ldS,sz,wrF,bldS,tupS,stor,res53]
 refine intoR_mk [] (.agg [.int .u32 (nat (iv 0)),.int .u32 (nat (iv 1)),.int .u32 (nat (iv 2)),.int .u32 (nat (iv 3)),.int .u32 (nat (iv 4)),.int .u32 (nat (iv 5)),.int .u32 (nat (iv 6)),.int .u32 (nat (iv 7))]) [] ?_ ?_ ?_ ?_ ?_ ?_ ?_ hK
 ·simp [slot,lkL,fixed,rg,renH,chEq,lookH,eqvL,eqv,eqvF,rnmL,rnm,liveN,Chunk.live,goodH,Chunk.good,okL,ok,sz,szL,storL,stor,renT,okT]
 ·simp [slot,lkL,fixed,rg,renH,chEq,lookH,eqvL,eqv,eqvF,rnmL,rnm,liveN,Chunk.live,goodH,Chunk.good,okL,ok,sz,szL,storL,stor,renT,okT]
 ·simp [slot,lkL,fixed,rg,renH,chEq,lookH,eqvL,eqv,eqvF,rnmL,rnm,liveN,Chunk.live,goodH,Chunk.good,okL,ok,sz,szL,storL,stor,renT,okT]
 ·simp [slot,lkL,fixed,rg,renH,chEq,lookH,eqvL,eqv,eqvF,rnmL,rnm,liveN,Chunk.live,goodH,Chunk.good,okL,ok,sz,szL,storL,stor,renT,okT]
 ·simp [slot,lkL,fixed,rg,renH,chEq,lookH,eqvL,eqv,eqvF,rnmL,rnm,liveN,Chunk.live,goodH,Chunk.good,okL,ok,sz,szL,storL,stor,renT,okT]
 ·simp [slot,lkL,fixed,rg,renH,chEq,lookH,eqvL,eqv,eqvF,rnmL,rnm,liveN,Chunk.live,goodH,Chunk.good,okL,ok,sz,szL,storL,stor,renT,okT,iv,ivL,nat]
 ·simp [slot,lkL,fixed,rg,renH,chEq,lookH,eqvL,eqv,eqvF,rnmL,rnm,liveN,Chunk.live,goodH,Chunk.good,okL,ok,sz,szL,storL,stor,renT,okT]
theorem c53 (h:List Chunk) (K:Tok→SV→List Chunk→Prop) (hK:K .mk (.agg [.int .u32 (nat (iv 0)),.int .u32 (nat (iv 1)),.int .u32 (nat (iv 2)),.int .u32 (nat (iv 3)),.int .u32 (nat (iv 4)),.int .u32 (nat (iv 5)),.int .u32 (nat (iv 6)),.int .u32 (nat (iv 7))]) h):callP Try.prog 165 [] h K :=
 callP_frame (KL:=fun _ v h'=>v = .agg [.int .u32 (nat (iv 0)),.int .u32 (nat (iv 1)),.int .u32 (nat (iv 2)),.int .u32 (nat (iv 3)),.int .u32 (nat (iv 4)),.int .u32 (nat (iv 5)),.int .u32 (nat (iv 6)),.int .u32 (nat (iv 7))]∧h' = []) [] (c53l _ ⟨rfl,rfl⟩) List.nodup_nil trivial trivial trivial rfl (by
  rintro v h' ⟨rfl,rfl⟩
  refine ⟨?_,trivial,?_⟩
  ·intro c hc; cases hc
  ·simpa [rnm,rnmL,lay] using hK)
theorem res16:Try.f148.results.toList = [.tmp 0]:=rfl
theorem c16l (K:Tok→SV→List Chunk→Prop) (hK:K .mk (.ptr 0 0) [.cells true [.int .u32 (nat (iv 0)),.int .u32 (nat (iv 1)),.int .u32 (nat (iv 2)),.int .u32 (nat (iv 3)),.int .u32 (nat (iv 4)),.int .u32 (nat (iv 5)),.int .u32 (nat (iv 6)),.int .u32 (nat (iv 7)),.osl 1 0 0 1 0,.int .i64 0],.row true 0 1 fun i=>.int .u8 0]):callP Try.prog 148 [] [] K:=by
 refine callP_of_code tabOk Try.func148 (by kernel_rfl) rfl (Nat.le_of_ble_eq_true rfl) (codeP_of_vc (pl:=np) tabOk follows_mixed (by kernel_rfl) ?_)
 rw [Try.ntmps148]
 simp -implicitDefEqProofs (maxSteps:=1000000) (disch:=omega) only [↓zzP,zzA,reduceIte,Nat.reduceLT,↓reduceIte,↓gd,↓opP,↓qv,slot,putS,putO,ofV,tupS,res16]
 refine c53 _ _ ?_
 simp -implicitDefEqProofs (maxSteps:=1000000) (disch:=omega) only [↓zzP,zzA,Nat.reduceSub,reduceIte,reduceCtorEq,Nat.reduceLT,↓reduceIte,Nat.reduceLeDiff,Nat.reduceAdd,↓gd,↓opP,↓qv,↓ef,slot,putS,putO,parts,sz,wrF,plT,bldS,stor,Value.oneCell']
 refine intoR_mk [some 0,none] (.ptr 0 0) [.cells true [.int .u32 (nat (iv 0)),.int .u32 (nat (iv 1)),.int .u32 (nat (iv 2)),.int .u32 (nat (iv 3)),.int .u32 (nat (iv 4)),.int .u32 (nat (iv 5)),.int .u32 (nat (iv 6)),.int .u32 (nat (iv 7)),.osl 1 0 0 1 0,.int .i64 0],.row true 0 1 fun i=>.int .u8 0] ?_ ?_ ?_ ?_ ?_ ?_ ?_ hK
 ·simp [slot,lkL,fixed,rg,renH,chEq,lookH,eqvL,eqv,eqvF,rnmL,rnm,liveN,Chunk.live,goodH,Chunk.good,okL,ok,sz,szL,storL,stor,renT,okT]
 ·simp [slot,lkL,fixed,rg,renH,chEq,lookH,eqvL,eqv,eqvF,rnmL,rnm,liveN,Chunk.live,goodH,Chunk.good,okL,ok,sz,szL,storL,stor,renT,okT]
 ·simp [slot,lkL,fixed,rg,renH,chEq,lookH,eqvL,eqv,eqvF,rnmL,rnm,liveN,Chunk.live,goodH,Chunk.good,okL,ok,sz,szL,storL,stor,renT,okT]
 ·simp [slot,lkL,fixed,rg,renH,chEq,lookH,eqvL,eqv,eqvF,rnmL,rnm,liveN,Chunk.live,goodH,Chunk.good,okL,ok,sz,szL,storL,stor,renT,okT]
 ·simp [slot,lkL,fixed,rg,renH,chEq,lookH,eqvL,eqv,eqvF,rnmL,rnm,liveN,Chunk.live,goodH,Chunk.good,okL,ok,sz,szL,storL,stor,renT,okT]
 ·simp [slot,lkL,fixed,rg,renH,chEq,lookH,eqvL,eqv,eqvF,rnmL,rnm,liveN,Chunk.live,goodH,Chunk.good,okL,ok,sz,szL,storL,stor,renT,okT]
 ·simp [slot,lkL,fixed,rg,renH,chEq,lookH,eqvL,eqv,eqvF,rnmL,rnm,liveN,Chunk.live,goodH,Chunk.good,okL,ok,sz,szL,storL,stor,renT,okT]
def pl149:Nat→Plan
 | 4=>(.q 0 (.q 1 (.q 2 (.q 3 (.q 4 (.q 5 (.q 6 (.q 7 (.e1 8 [6,7] .nil)))))))))
 | _=>.nil
def blk (w:Nat→BitVec 32) (T:Nat→BitVec 8):Nat→Nat→BitVec 32
 | 0=>w
 | j+1=>comp (blk w T j) fun i=>T (64 * j+i)
def cat (n:Nat) (L B:Nat→BitVec 8) (i:Nat):BitVec 8:=if i < n then L i else B (i - n)
theorem res17:Try.f149.results.toList = []:=rfl
set_option maxHeartbeats 4000000 in
theorem c17l (w:Nat→BitVec 32) (cnt n d e len m:Nat) (L B:Nat→BitVec 8) (hm:e+len≤m) (hc:cnt+len < 9223372036854775808) (hl:n+len≤70368744177664) (K:Tok→SV→List Chunk→Prop)
  (hK:K .mk (.tup []) [.cells true [.int .u32 (nat (blk w (cat n L fun i=>B (e+i)) ((n+len) / 64) 0)),.int .u32 (nat (blk w (cat n L fun i=>B (e+i)) ((n+len) / 64) 1)),.int .u32 (nat (blk w (cat n L fun i=>B (e+i)) ((n+len) / 64) 2)),.int .u32 (nat (blk w (cat n L fun i=>B (e+i)) ((n+len) / 64) 3)),.int .u32 (nat (blk w (cat n L fun i=>B (e+i)) ((n+len) / 64) 4)),.int .u32 (nat (blk w (cat n L fun i=>B (e+i)) ((n+len) / 64) 5)),.int .u32 (nat (blk w (cat n L fun i=>B (e+i)) ((n+len) / 64) 6)),.int .u32 (nat (blk w (cat n L fun i=>B (e+i)) ((n+len) / 64) 7)),.osl 3 0 0 1 (n+len - 64 * ((n+len) / 64)),.int .i64 (cnt+len:Nat)],.none,.row false m 1 (fun i=>.int .u8 (nat (B i))),
   .row true (n+len - 64 * ((n+len) / 64)) 1 fun i=>.int .u8 (nat (cat n L (fun i=>B (e+i)) (64 * ((n+len) / 64)+i)))]) :
  callP Try.prog 149 [.ptr 0 0,.osl 2 d e 1 len] [.cells true [.int .u32 (nat (w 0)),.int .u32 (nat (w 1)),.int .u32 (nat (w 2)),.int .u32 (nat (w 3)),.int .u32 (nat (w 4)),.int .u32 (nat (w 5)),.int .u32 (nat (w 6)),.int .u32 (nat (w 7)),.osl 1 0 0 1 n,.int .i64 (cnt:Nat)],.row true n 1 (fun i=>.int .u8 (nat (L i))),.row false m 1 fun i=>.int .u8 (nat (B i))] K:=by
 refine callP_of_code tabOk Try.func149 (by kernel_rfl) rfl (Nat.le_of_ble_eq_true rfl) (codeP_of_vc (pl:=pl149) tabOk follows_mixed (by kernel_rfl) ?_)
 rw [Try.ntmps149]
 have a0:IntKind.i64.wrap ((cnt:Int)+(len:Int)) = ((cnt+len:Nat):Int):=by rw [wrap64 (by omega) (by omega)]; omega
 simp -implicitDefEqProofs (maxSteps:=1000000) (disch:=omega) only [↓zzP,zzA,zzL,Nat.reduceSub,reduceIte,reduceCtorEq,Nat.reduceLT,↓reduceIte,Nat.reduceEqDiff,Nat.reduceLeDiff,Nat.reduceAdd,↓gd,↓opP,↓qv,↓ef,↓stS,↓appS,slot,putS,putO,ofV,fldA,lenS,parts,single,rdF,Ent.row,ldS,sz,wrF,srcS,nilS,nilEq,binH,binS2,binS,tupS,stor,notInt,a0,Option.isNone]
 refine ⟨⟨hm,by omega,by omega⟩,?_⟩
 obtain ⟨T,hT⟩:∃ T,T = cat n L fun i=>B (e+i):=⟨_,rfl⟩
 rw [← hT] at hK
 refine codeP_loop (pl:=pl149) tabOk follows_mixed (by kernel_rfl) (fun m' s=>∃ (k d':Nat) (j:Nat→Value),k+m' = (n+len) / 64∧s = ⟨⟨55,[(0,.ptr 0 0)],j⟩,[.cells true [.int .u32 (nat (blk w T k 0)),.int .u32 (nat (blk w T k 1)),.int .u32 (nat (blk w T k 2)),.int .u32 (nat (blk w T k 3)),.int .u32 (nat (blk w T k 4)),.int .u32 (nat (blk w T k 5)),.int .u32 (nat (blk w T k 6)),.int .u32 (nat (blk w T k 7)),.osl 3 d' (64 * k) 1 (n+len - 64 * k),.int .i64 (cnt+len:Nat)],.none,.row false m 1 (fun i=>.int .u8 (nat (B i))),.row true (n+len) 1 fun i=>.int .u8 (nat (T i))],[]⟩) ?_ ?_
 ·refine into_mk [some 0,some 1,some 2,some 3] [(0,.ptr 0 0)] [.cells true [.int .u32 (nat (blk w T 0 0)),.int .u32 (nat (blk w T 0 1)),.int .u32 (nat (blk w T 0 2)),.int .u32 (nat (blk w T 0 3)),.int .u32 (nat (blk w T 0 4)),.int .u32 (nat (blk w T 0 5)),.int .u32 (nat (blk w T 0 6)),.int .u32 (nat (blk w T 0 7)),.osl 3 0 (64 * 0) 1 (n+len - 64 * 0),.int .i64 (cnt+len:Nat)],.none,.row false m 1 (fun i=>.int .u8 (nat (B i))),.row true (n+len) 1 fun i=>.int .u8 (nat (T i))] ?_ ?_ ?_ ?_ ?_ ?_ ?_ ?_
  ·simp [slot,lkL,fixed,rg,renH,chEq,lookH,eqvL,eqv,eqvF,rnmL,rnm,liveN,Chunk.live,goodH,Chunk.good,okL,ok,sz,szL,storL,stor,renT,okT]
  ·simp [slot,lkL,fixed,rg,renH,chEq,lookH,eqvL,eqv,eqvF,rnmL,rnm,liveN,Chunk.live,goodH,Chunk.good,okL,ok,sz,szL,storL,stor,renT,okT]
  ·simp [slot,lkL,fixed,rg,renH,chEq,lookH,eqvL,eqv,eqvF,rnmL,rnm,liveN,Chunk.live,goodH,Chunk.good,okL,ok,sz,szL,storL,stor,renT,okT,blk]
   intro i hi
   subst hT
   by_cases h:i < n <;> simp [h,cat,eqv]
  ·simp [slot,lkL,fixed,rg,renH,chEq,lookH,eqvL,eqv,eqvF,rnmL,rnm,liveN,Chunk.live,goodH,Chunk.good,okL,ok,sz,szL,storL,stor,renT,okT]
  ·simp [slot,lkL,fixed,rg,renH,chEq,lookH,eqvL,eqv,eqvF,rnmL,rnm,liveN,Chunk.live,goodH,Chunk.good,okL,ok,sz,szL,storL,stor,renT,okT]
  ·simp [slot,lkL,fixed,rg,renH,chEq,lookH,eqvL,eqv,eqvF,rnmL,rnm,liveN,Chunk.live,goodH,Chunk.good,okL,ok,sz,szL,storL,stor,renT,okT]
  ·simp [slot,lkL,fixed,rg,renH,chEq,lookH,eqvL,eqv,eqvF,rnmL,rnm,liveN,Chunk.live,goodH,Chunk.good,okL,ok,sz,szL,storL,stor,renT,okT]
  ·intro j
   exact ⟨(n+len) / 64,0,0,j,by omega,rfl⟩
 ·rintro m' s ⟨k,d',j,hk,rfl⟩
  have hk2:64 * k≤n+len:=by omega
  simp -implicitDefEqProofs (maxSteps:=1000000) (disch:=omega) only [↓zzP,zzA,zzL,Nat.reduceSub,reduceIte,reduceCtorEq,Nat.reduceLT,Int.reduceLE,↓reduceIte,Nat.reduceEqDiff,Nat.reduceLeDiff,Nat.reduceAdd,Int.reduceToNat,Array.reduceGetElem?,↓gd,↓opP,↓qv,↓ef,↓stS,↓appS,slot,putS,putO,ofV,fldA,oslN,bnd,slS,lenS,parts,single,rdF,Ent.row,ldS,sz,wrF,srcS,binH,binS2,binS,stor,qn,ldN,notInt,↓Array.reduceGetElem?,pl149,res17]
  refine ⟨Sx.imp_intro fun hc'=>?_,Sx.imp_intro fun hc'=>?_⟩
  ·have hk3:64 * k+64≤n+len:=by have:=of_decide_eq_true hc'; omega
   and_intros <;> try omega
   refine callP_frame (hl:=[.cells true ([.int .u32 (nat (blk w T k 0)),.int .u32 (nat (blk w T k 1)),.int .u32 (nat (blk w T k 2)),.int .u32 (nat (blk w T k 3)),.int .u32 (nat (blk w T k 4)),.int .u32 (nat (blk w T k 5)),.int .u32 (nat (blk w T k 6)),.int .u32 (nat (blk w T k 7))]++[.osl 1 d' (64 * k) 1 (n+len - 64 * k),.int .i64 (cnt+len:Nat)]),.row false (n+len) 1 fun i=>.int .u8 (nat (T i))]) (argsL:=[.ptr 0 0,.osl 1 d' (64 * k) 1 64])
    (KL:=fun _ v h'=>v = .tup []∧h' = [.cells true ([.int .u32 (nat (comp (blk w T k) (fun i=>T (64 * k+i)) 0)),.int .u32 (nat (comp (blk w T k) (fun i=>T (64 * k+i)) 1)),.int .u32 (nat (comp (blk w T k) (fun i=>T (64 * k+i)) 2)),.int .u32 (nat (comp (blk w T k) (fun i=>T (64 * k+i)) 3)),.int .u32 (nat (comp (blk w T k) (fun i=>T (64 * k+i)) 4)),.int .u32 (nat (comp (blk w T k) (fun i=>T (64 * k+i)) 5)),.int .u32 (nat (comp (blk w T k) (fun i=>T (64 * k+i)) 6)),.int .u32 (nat (comp (blk w T k) (fun i=>T (64 * k+i)) 7))]++[.osl 1 d' (64 * k) 1 (n+len - 64 * k),.int .i64 (cnt+len:Nat)]),.row false (n+len) 1 fun i=>.int .u8 (nat (T i))]) [0,3]
    (c54l (blk w T k) [.osl 1 d' (64 * k) 1 (n+len - 64 * k),.int .i64 (cnt+len:Nat)] d' (64 * k) (n+len) T (by omega) (by simp [okL,ok]) (by simp [storL,stor]) _ ⟨rfl,rfl⟩) ?_ ?_ ?_ ?_ ?_ ?_
   ·simp
   ·simp [slot,lkL,fixed,rg,renH,chEq,lookH,eqvL,eqv,eqvF,rnmL,rnm,liveN,Chunk.live,goodH,Chunk.good,okL,ok,sz,szL,storL,stor,renT,okT,has,upG,up,nth,roOk,keepsLive,Chunk.wr,lay,rnmC,putH]
   ·simp [slot,lkL,fixed,rg,renH,chEq,lookH,eqvL,eqv,eqvF,rnmL,rnm,liveN,Chunk.live,goodH,Chunk.good,okL,ok,sz,szL,storL,stor,renT,okT,has,upG,up,nth,roOk,keepsLive,Chunk.wr,lay,rnmC,putH]
   ·simp [slot,lkL,fixed,rg,renH,chEq,lookH,eqvL,eqv,eqvF,rnmL,rnm,liveN,Chunk.live,goodH,Chunk.good,okL,ok,sz,szL,storL,stor,renT,okT,has,upG,up,nth,roOk,keepsLive,Chunk.wr,lay,rnmC,putH]
   ·simp [slot,lkL,fixed,rg,renH,chEq,lookH,eqvL,eqv,eqvF,rnmL,rnm,liveN,Chunk.live,goodH,Chunk.good,okL,ok,sz,szL,storL,stor,renT,okT,has,upG,up,nth,roOk,keepsLive,Chunk.wr,lay,rnmC,putH]
   ·rintro v h' ⟨rfl,rfl⟩
    refine ⟨by simp [slot,lkL,fixed,rg,renH,chEq,lookH,eqvL,eqv,eqvF,rnmL,rnm,liveN,Chunk.live,goodH,Chunk.good,okL,ok,sz,szL,storL,stor,renT,okT,has,upG,up,nth,roOk,keepsLive,Chunk.wr,lay,rnmC,putH],by simp [slot,lkL,fixed,rg,renH,chEq,lookH,eqvL,eqv,eqvF,rnmL,rnm,liveN,Chunk.live,goodH,Chunk.good,okL,ok,sz,szL,storL,stor,renT,okT,has,upG,up,nth,roOk,keepsLive,Chunk.wr,lay,rnmC,putH],?_⟩
    simp -implicitDefEqProofs (maxSteps:=1000000) (disch:=omega) only [↓zzP,zzA,zzL,Nat.reduceSub,reduceIte,reduceCtorEq,Nat.reduceLT,Int.reduceLE,↓reduceIte,Nat.reduceEqDiff,Nat.reduceLeDiff,Nat.reduceAdd,Int.reduceToNat,↓gd,↓opP,↓qv,↓ef,↓stS,slot,putS,putO,ofV,fldA,bnd,slS,parts,single,rdF,Ent.row,ldS,sz,wrF,stor,upG,up,nth,lay,rnmC,rnm,rnmL,Chunk.wr]
    and_intros <;> try omega
    refine into_mk [some 0,some 1,some 2,some 3] [(0,.ptr 0 0)] [.cells true [.int .u32 (nat (blk w T (k+1) 0)),.int .u32 (nat (blk w T (k+1) 1)),.int .u32 (nat (blk w T (k+1) 2)),.int .u32 (nat (blk w T (k+1) 3)),.int .u32 (nat (blk w T (k+1) 4)),.int .u32 (nat (blk w T (k+1) 5)),.int .u32 (nat (blk w T (k+1) 6)),.int .u32 (nat (blk w T (k+1) 7)),.osl 3 (64 * k) (64 * (k+1)) 1 (n+len - 64 * (k+1)),.int .i64 (cnt+len:Nat)],.none,.row false m 1 (fun i=>.int .u8 (nat (B i))),.row true (n+len) 1 fun i=>.int .u8 (nat (T i))] ?_ ?_ ?_ ?_ ?_ ?_ ?_ ?_
    ·simp [slot,lkL,fixed,rg,renH,chEq,lookH,eqvL,eqv,eqvF,rnmL,rnm,liveN,Chunk.live,goodH,Chunk.good,okL,ok,sz,szL,storL,stor,renT,okT]
    ·simp [slot,lkL,fixed,rg,renH,chEq,lookH,eqvL,eqv,eqvF,rnmL,rnm,liveN,Chunk.live,goodH,Chunk.good,okL,ok,sz,szL,storL,stor,renT,okT]
    ·simp [slot,lkL,fixed,rg,renH,chEq,lookH,eqvL,eqv,eqvF,rnmL,rnm,liveN,Chunk.live,goodH,Chunk.good,okL,ok,sz,szL,storL,stor,renT,okT,blk,Nat.mul_add]
     try omega
    ·simp [slot,lkL,fixed,rg,renH,chEq,lookH,eqvL,eqv,eqvF,rnmL,rnm,liveN,Chunk.live,goodH,Chunk.good,okL,ok,sz,szL,storL,stor,renT,okT]
    ·simp [slot,lkL,fixed,rg,renH,chEq,lookH,eqvL,eqv,eqvF,rnmL,rnm,liveN,Chunk.live,goodH,Chunk.good,okL,ok,sz,szL,storL,stor,renT,okT]
    ·simp [slot,lkL,fixed,rg,renH,chEq,lookH,eqvL,eqv,eqvF,rnmL,rnm,liveN,Chunk.live,goodH,Chunk.good,okL,ok,sz,szL,storL,stor,renT,okT]
    ·simp [slot,lkL,fixed,rg,renH,chEq,lookH,eqvL,eqv,eqvF,rnmL,rnm,liveN,Chunk.live,goodH,Chunk.good,okL,ok,sz,szL,storL,stor,renT,okT]
    ·intro j
     exact ⟨m' - 1,by omega,k+1,64 * k,j,by omega,rfl⟩
  ·have hk3:n+len < 64 * k+64:=by have:=of_decide_eq_false hc'; omega
   have hk4:k = (n+len) / 64:=by omega
   subst hk4
   refine ⟨⟨by omega,by omega,by omega⟩,?_⟩
   refine intoR_mk [some 0,some 1,some 2,some 4] (.tup []) [.cells true [.int .u32 (nat (blk w T ((n+len) / 64) 0)),.int .u32 (nat (blk w T ((n+len) / 64) 1)),.int .u32 (nat (blk w T ((n+len) / 64) 2)),.int .u32 (nat (blk w T ((n+len) / 64) 3)),.int .u32 (nat (blk w T ((n+len) / 64) 4)),.int .u32 (nat (blk w T ((n+len) / 64) 5)),.int .u32 (nat (blk w T ((n+len) / 64) 6)),.int .u32 (nat (blk w T ((n+len) / 64) 7)),.osl 3 0 0 1 (n+len - 64 * ((n+len) / 64)),.int .i64 (cnt+len:Nat)],.none,.row false m 1 (fun i=>.int .u8 (nat (B i))),
    .row true (n+len - 64 * ((n+len) / 64)) 1 fun i=>.int .u8 (nat (T (64 * ((n+len) / 64)+i)))] ?_ ?_ ?_ ?_ ?_ ?_ ?_ hK
   ·simp [slot,lkL,fixed,rg,renH,chEq,lookH,eqvL,eqv,eqvF,rnmL,rnm,liveN,Chunk.live,goodH,Chunk.good,okL,ok,sz,szL,storL,stor,renT,okT]
   ·simp [slot,lkL,fixed,rg,renH,chEq,lookH,eqvL,eqv,eqvF,rnmL,rnm,liveN,Chunk.live,goodH,Chunk.good,okL,ok,sz,szL,storL,stor,renT,okT]
   ·simp [slot,lkL,fixed,rg,renH,chEq,lookH,eqvL,eqv,eqvF,rnmL,rnm,liveN,Chunk.live,goodH,Chunk.good,okL,ok,sz,szL,storL,stor,renT,okT]
   ·simp [slot,lkL,fixed,rg,renH,chEq,lookH,eqvL,eqv,eqvF,rnmL,rnm,liveN,Chunk.live,goodH,Chunk.good,okL,ok,sz,szL,storL,stor,renT,okT]
   ·simp [slot,lkL,fixed,rg,renH,chEq,lookH,eqvL,eqv,eqvF,rnmL,rnm,liveN,Chunk.live,goodH,Chunk.good,okL,ok,sz,szL,storL,stor,renT,okT]
   ·simp [slot,lkL,fixed,rg,renH,chEq,lookH,eqvL,eqv,eqvF,rnmL,rnm,liveN,Chunk.live,goodH,Chunk.good,okL,ok,sz,szL,storL,stor,renT,okT]
   ·simp [slot,lkL,fixed,rg,renH,chEq,lookH,eqvL,eqv,eqvF,rnmL,rnm,liveN,Chunk.live,goodH,Chunk.good,okL,ok,sz,szL,storL,stor,renT,okT]
end Go.Proofs.Ytgocfglmideobaa.S
set_option linter.all false
set_option maxRecDepth 40000
namespace Go.Proofs.Ytgocfglmideobaa.S
open Go Go.Sx
def zs (n:Nat):Nat:=(119 - n) % 64
def pad0 (n z:Nat) (L:Nat→BitVec 8) (i:Nat):BitVec 8:=if i < n then L i else if i = n then 128#8 else 0
def padF (n:Nat) (cnt:BitVec 64) (L:Nat→BitVec 8) (i:Nat):BitVec 8 :=
 if i < n+1+zs n then pad0 n (zs n) L i else ((cnt <<< 3) >>> (8 * (7 - (i - (n+1+zs n))))).setWidth 8
def dig (W:Nat→BitVec 32) (i:Nat):BitVec 8:=(W (i / 4) >>> (24 - 8 * (i % 4))).setWidth 8
theorem rem_nat (a b:Nat):((a:Int)).tmod (b:Int) = ((a % b:Nat):Int):=by
 rw [Int.tmod_eq_emod_of_nonneg (by omega)]; exact (Int.natCast_emod a b).symm
theorem res19:Try.f150.results.toList = [.cell 2 23]:=rfl
set_option maxHeartbeats 4000000 in
theorem c19l (w:Nat→BitVec 32) (cnt n:Nat) (L:Nat→BitVec 8) (hn:n < 64) (hc:cnt < 9223372036854775808) (K:Tok→SV→List Chunk→Prop)
  (hK:K .mk (.fam 32 1 fun i=>.int .u8 (nat (dig (blk w (padF n (BitVec.ofNat 64 cnt) L) ((n+1+zs n+8) / 64)) i))) [.cells true [.int .u32 (nat (w 0)),.int .u32 (nat (w 1)),.int .u32 (nat (w 2)),.int .u32 (nat (w 3)),.int .u32 (nat (w 4)),.int .u32 (nat (w 5)),.int .u32 (nat (w 6)),.int .u32 (nat (w 7)),.osl 1 0 0 1 n,.int .i64 (cnt:Nat)],.row true n 1 (fun i=>.int .u8 (nat (L i)))]) :
  callP Try.prog 150 [.ptr 0 0] [.cells true [.int .u32 (nat (w 0)),.int .u32 (nat (w 1)),.int .u32 (nat (w 2)),.int .u32 (nat (w 3)),.int .u32 (nat (w 4)),.int .u32 (nat (w 5)),.int .u32 (nat (w 6)),.int .u32 (nat (w 7)),.osl 1 0 0 1 n,.int .i64 (cnt:Nat)],.row true n 1 (fun i=>.int .u8 (nat (L i)))] K:=by
 refine callP_of_code tabOk Try.func150 (by kernel_rfl) rfl (Nat.le_of_ble_eq_true rfl) (codeP_of_vc (pl:=np) tabOk follows_mixed (by kernel_rfl) ?_)
 rw [Try.ntmps150]
 simp -implicitDefEqProofs (maxSteps:=1000000) (disch:=omega) only [↓zzP,zzA,zzL,Nat.reduceSub,reduceIte,reduceCtorEq,Nat.reduceLT,↓reduceIte,Nat.reduceEqDiff,Nat.reduceLeDiff,Nat.reduceAdd,↓gd,↓opP,↓qv,↓ef,↓bslS,↓appS,slot,putS,putO,ofV,fldA,parts,single,rdF,Ent.row,ldS,sz,srcS,nilS,nilEq,binH,binS2,binS,tupS,stor,notInt,Option.isNone]
 and_intros <;> try omega
 refine codeP_loop (pl:=np) tabOk follows_mixed (by kernel_rfl) (fun m s=>∃ (z:Nat) (j:Nat→Value),z+m = zs n∧s = ⟨⟨88,[(0,.ptr 0 0),(2,.ptr 2 0),(3,.ptr 3 0),(4,.osl 4 0 0 1 (n+1+z))],j⟩,[.cells true [.int .u32 (nat (w 0)),.int .u32 (nat (w 1)),.int .u32 (nat (w 2)),.int .u32 (nat (w 3)),.int .u32 (nat (w 4)),.int .u32 (nat (w 5)),.int .u32 (nat (w 6)),.int .u32 (nat (w 7)),.osl 1 0 0 1 n,.int .i64 (cnt:Nat)],.row true n 1 (fun i=>.int .u8 (nat (L i))),.cells true [.fam 32 1 fun _=>.int .u8 0],.cells true [.fam 32 1 fun _=>.int .u8 0],.row true (n+1+z) 1 fun i=>.int .u8 (nat (pad0 n z L i))],[]⟩) ?_ ?_
 ·refine into_mk [some 0,some 1,some 2,some 3,some 6] [(0,.ptr 0 0),(2,.ptr 2 0),(3,.ptr 3 0),(4,.osl 4 0 0 1 (n+1+0))] [.cells true [.int .u32 (nat (w 0)),.int .u32 (nat (w 1)),.int .u32 (nat (w 2)),.int .u32 (nat (w 3)),.int .u32 (nat (w 4)),.int .u32 (nat (w 5)),.int .u32 (nat (w 6)),.int .u32 (nat (w 7)),.osl 1 0 0 1 n,.int .i64 (cnt:Nat)],.row true n 1 (fun i=>.int .u8 (nat (L i))),.cells true [.fam 32 1 fun _=>.int .u8 0],.cells true [.fam 32 1 fun _=>.int .u8 0],.row true (n+1+0) 1 fun i=>.int .u8 (nat (pad0 n 0 L i))] ?_ ?_ ?_ ?_ ?_ ?_ ?_ ?_
  ·simp [slot,lkL,fixed,rg,renH,chEq,lookH,eqvL,eqv,eqvF,rnmL,rnm,liveN,Chunk.live,goodH,Chunk.good,okL,ok,sz,szL,storL,stor,renT,okT]
  ·simp [slot,lkL,fixed,rg,renH,chEq,lookH,eqvL,eqv,eqvF,rnmL,rnm,liveN,Chunk.live,goodH,Chunk.good,okL,ok,sz,szL,storL,stor,renT,okT]
  ·simp [slot,lkL,fixed,rg,renH,chEq,lookH,eqvL,eqv,eqvF,rnmL,rnm,liveN,Chunk.live,goodH,Chunk.good,okL,ok,sz,szL,storL,stor,renT,okT]
   intro i hi
   by_cases h:i < n
   ·simp [h,pad0,eqv]
   ·have h2:i = n:=by omega
    subst h2
    simp [pad0,eqv,Sx.look,nat]
  ·simp [slot,lkL,fixed,rg,renH,chEq,lookH,eqvL,eqv,eqvF,rnmL,rnm,liveN,Chunk.live,goodH,Chunk.good,okL,ok,sz,szL,storL,stor,renT,okT]
  ·simp [slot,lkL,fixed,rg,renH,chEq,lookH,eqvL,eqv,eqvF,rnmL,rnm,liveN,Chunk.live,goodH,Chunk.good,okL,ok,sz,szL,storL,stor,renT,okT]
  ·simp [slot,lkL,fixed,rg,renH,chEq,lookH,eqvL,eqv,eqvF,rnmL,rnm,liveN,Chunk.live,goodH,Chunk.good,okL,ok,sz,szL,storL,stor,renT,okT]
  ·simp [slot,lkL,fixed,rg,renH,chEq,lookH,eqvL,eqv,eqvF,rnmL,rnm,liveN,Chunk.live,goodH,Chunk.good,okL,ok,sz,szL,storL,stor,renT,okT]
  ·intro j
   exact ⟨zs n,0,j,by omega,rfl⟩
 ·rintro m s ⟨z,j,hz,rfl⟩
  have e0:((n+1+z:Nat):Int).tmod 64 = (((n+1+z) % 64:Nat):Int):=rem_nat (n+1+z) 64
  simp -implicitDefEqProofs (maxSteps:=1000000) (disch:=omega) only [↓zzP,zzA,zzL,reduceIte,reduceCtorEq,Nat.reduceLT,↓reduceIte,Nat.reduceEqDiff,Int.reduceEq,Nat.reduceLeDiff,Nat.reduceAdd,↓gd,↓opP,↓qv,↓ef,↓bslS,↓appS,slot,putS,putO,ofV,lenS,sz,srcS,binH,binS2,binS,stor,notInt,e0]
  refine ⟨Sx.imp_intro fun hc'=>?_,Sx.imp_intro fun hc'=>?_⟩
  ·have hz2:z < zs n:=by
    simp only [bne_iff_ne,ne_eq] at hc'
    simp only [zs] at hz ⊢
    omega
   have hz3:zs n < 64:=Nat.mod_lt _ (by decide)
   and_intros <;> try omega
   refine into_mk [some 0,some 1,some 2,some 3,some 6] [(0,.ptr 0 0),(2,.ptr 2 0),(3,.ptr 3 0),(4,.osl 4 0 0 1 (n+1+(z+1)))] [.cells true [.int .u32 (nat (w 0)),.int .u32 (nat (w 1)),.int .u32 (nat (w 2)),.int .u32 (nat (w 3)),.int .u32 (nat (w 4)),.int .u32 (nat (w 5)),.int .u32 (nat (w 6)),.int .u32 (nat (w 7)),.osl 1 0 0 1 n,.int .i64 (cnt:Nat)],.row true n 1 (fun i=>.int .u8 (nat (L i))),.cells true [.fam 32 1 fun _=>.int .u8 0],.cells true [.fam 32 1 fun _=>.int .u8 0],.row true (n+1+(z+1)) 1 fun i=>.int .u8 (nat (pad0 n (z+1) L i))] ?_ ?_ ?_ ?_ ?_ ?_ ?_ ?_
   ·simp [slot,lkL,fixed,rg,renH,chEq,lookH,eqvL,eqv,eqvF,rnmL,rnm,liveN,Chunk.live,goodH,Chunk.good,okL,ok,sz,szL,storL,stor,renT,okT]
   ·simp [slot,lkL,fixed,rg,renH,chEq,lookH,eqvL,eqv,eqvF,rnmL,rnm,liveN,Chunk.live,goodH,Chunk.good,okL,ok,sz,szL,storL,stor,renT,okT]
   ·simp [slot,lkL,fixed,rg,renH,chEq,lookH,eqvL,eqv,eqvF,rnmL,rnm,liveN,Chunk.live,goodH,Chunk.good,okL,ok,sz,szL,storL,stor,renT,okT]
    refine ⟨by omega,fun i hi=>?_⟩
    by_cases h:i < n+1+z
    ·simp [h,pad0,eqv]
    ·have h2:i = n+1+z:=by omega
     subst h2
     simp [pad0,eqv,Sx.look,nat,show ¬ n+1+z < n by omega,show ¬ n+1+z = n by omega]
   ·simp [slot,lkL,fixed,rg,renH,chEq,lookH,eqvL,eqv,eqvF,rnmL,rnm,liveN,Chunk.live,goodH,Chunk.good,okL,ok,sz,szL,storL,stor,renT,okT]
   ·simp [slot,lkL,fixed,rg,renH,chEq,lookH,eqvL,eqv,eqvF,rnmL,rnm,liveN,Chunk.live,goodH,Chunk.good,okL,ok,sz,szL,storL,stor,renT,okT]
   ·simp [slot,lkL,fixed,rg,renH,chEq,lookH,eqvL,eqv,eqvF,rnmL,rnm,liveN,Chunk.live,goodH,Chunk.good,okL,ok,sz,szL,storL,stor,renT,okT]
    omega
   ·simp [slot,lkL,fixed,rg,renH,chEq,lookH,eqvL,eqv,eqvF,rnmL,rnm,liveN,Chunk.live,goodH,Chunk.good,okL,ok,sz,szL,storL,stor,renT,okT]
   ·intro j
    exact ⟨m - 1,by omega,z+1,j,by omega,rfl⟩
  ·have hz2:z = zs n:=by
    simp only [bne_eq_false_iff_eq] at hc'
    simp only [zs] at hz ⊢
    omega
   subst hz2
   have hz3:zs n < 64:=Nat.mod_lt _ (by decide)
   have f0:IntKind.u64.wrap (cnt:Int) = nat (BitVec.ofNat 64 cnt):=by
    rw [Go.Sx.wrap_small (k:=.u64) rfl (by omega) (by rw [show IntKind.u64.bits = 64 from rfl]; omega)]
    simp only [nat,BitVec.toNat_ofNat]
    omega
   refine codeP_loop (pl:=np) tabOk follows_mixed (by kernel_rfl) (fun m s=>∃ (k:Nat) (j:Nat→Value),k+m = 8∧s = ⟨⟨88,[(0,.ptr 0 0),(2,.ptr 2 0),(3,.ptr 3 0),(4,.osl 4 0 0 1 (n+1+zs n+k)),(5,.int .i64 (7 - (k:Nat)))],j⟩,[.cells true [.int .u32 (nat (w 0)),.int .u32 (nat (w 1)),.int .u32 (nat (w 2)),.int .u32 (nat (w 3)),.int .u32 (nat (w 4)),.int .u32 (nat (w 5)),.int .u32 (nat (w 6)),.int .u32 (nat (w 7)),.osl 1 0 0 1 n,.int .i64 (cnt:Nat)],.row true n 1 (fun i=>.int .u8 (nat (L i))),.cells true [.fam 32 1 fun _=>.int .u8 0],.cells true [.fam 32 1 fun _=>.int .u8 0],.row true (n+1+zs n+k) 1 fun i=>.int .u8 (nat (padF n (BitVec.ofNat 64 cnt) L i))],[]⟩) ?_ ?_
   ·refine into_mk [some 0,some 1,some 2,some 3,some 4] [(0,.ptr 0 0),(2,.ptr 2 0),(3,.ptr 3 0),(4,.osl 4 0 0 1 (n+1+zs n+0)),(5,.int .i64 (7 - (0:Nat)))] [.cells true [.int .u32 (nat (w 0)),.int .u32 (nat (w 1)),.int .u32 (nat (w 2)),.int .u32 (nat (w 3)),.int .u32 (nat (w 4)),.int .u32 (nat (w 5)),.int .u32 (nat (w 6)),.int .u32 (nat (w 7)),.osl 1 0 0 1 n,.int .i64 (cnt:Nat)],.row true n 1 (fun i=>.int .u8 (nat (L i))),.cells true [.fam 32 1 fun _=>.int .u8 0],.cells true [.fam 32 1 fun _=>.int .u8 0],.row true (n+1+zs n+0) 1 fun i=>.int .u8 (nat (padF n (BitVec.ofNat 64 cnt) L i))] ?_ ?_ ?_ ?_ ?_ ?_ ?_ ?_
    ·simp [slot,lkL,fixed,rg,renH,chEq,lookH,eqvL,eqv,eqvF,rnmL,rnm,liveN,Chunk.live,goodH,Chunk.good,okL,ok,sz,szL,storL,stor,renT,okT]
    ·simp [slot,lkL,fixed,rg,renH,chEq,lookH,eqvL,eqv,eqvF,rnmL,rnm,liveN,Chunk.live,goodH,Chunk.good,okL,ok,sz,szL,storL,stor,renT,okT]
    ·simp [slot,lkL,fixed,rg,renH,chEq,lookH,eqvL,eqv,eqvF,rnmL,rnm,liveN,Chunk.live,goodH,Chunk.good,okL,ok,sz,szL,storL,stor,renT,okT]
     intro i hi
     simp [padF,hi,eqv]
    ·simp [slot,lkL,fixed,rg,renH,chEq,lookH,eqvL,eqv,eqvF,rnmL,rnm,liveN,Chunk.live,goodH,Chunk.good,okL,ok,sz,szL,storL,stor,renT,okT]
    ·simp [slot,lkL,fixed,rg,renH,chEq,lookH,eqvL,eqv,eqvF,rnmL,rnm,liveN,Chunk.live,goodH,Chunk.good,okL,ok,sz,szL,storL,stor,renT,okT]
    ·simp [slot,lkL,fixed,rg,renH,chEq,lookH,eqvL,eqv,eqvF,rnmL,rnm,liveN,Chunk.live,goodH,Chunk.good,okL,ok,sz,szL,storL,stor,renT,okT]
    ·simp [slot,lkL,fixed,rg,renH,chEq,lookH,eqvL,eqv,eqvF,rnmL,rnm,liveN,Chunk.live,goodH,Chunk.good,okL,ok,sz,szL,storL,stor,renT,okT]
    ·intro j
     exact ⟨8,0,j,by omega,rfl⟩
   ·rintro m2 s ⟨k,j2,hk,rfl⟩
    by_cases hk8:k = 8
    ·subst hk8
     have f3:(decide ((7 - ((8:Nat):Int)) ≥ 0)) = false:=by decide
     simp -implicitDefEqProofs (maxSteps:=1000000) (disch:=omega) only [↓zzP,zzA,zzL,Nat.reduceSub,reduceIte,reduceCtorEq,Nat.reduceLT,↓reduceIte,Nat.reduceEqDiff,Nat.reduceLeDiff,Nat.reduceAdd,↓gd,↓opP,↓qv,↓ef,↓stS,slot,putS,putO,ofV,fldA,parts,rdF,Ent.row,ldS,sz,wrF,binH,binS2,binS,stor,f3]
     obtain ⟨N,hN⟩:∃ N,N = n+1+zs n+8:=⟨_,rfl⟩
     obtain ⟨T,hT⟩:∃ T,T = padF n (BitVec.ofNat 64 cnt) L:=⟨_,rfl⟩
     rw [← hN,← hT] at hK ⊢
     have hN64:N % 64 = 0:=by simp only [zs] at hN; omega
     refine codeP_loop (pl:=np) tabOk follows_mixed (by kernel_rfl) (fun m s=>∃ (k d':Nat) (j:Nat→Value),k+m = N / 64∧s = ⟨⟨88,[(0,.ptr 0 0),(2,.ptr 2 0),(3,.ptr 3 0),(4,.osl 4 d' (64 * k) 1 (N - 64 * k)),(6,.ptr 5 0)],j⟩,[.cells true [.int .u32 (nat (w 0)),.int .u32 (nat (w 1)),.int .u32 (nat (w 2)),.int .u32 (nat (w 3)),.int .u32 (nat (w 4)),.int .u32 (nat (w 5)),.int .u32 (nat (w 6)),.int .u32 (nat (w 7)),.osl 1 0 0 1 n,.int .i64 (cnt:Nat)],.row true n 1 (fun i=>.int .u8 (nat (L i))),.cells true [.fam 32 1 fun _=>.int .u8 0],.cells true [.fam 32 1 fun _=>.int .u8 0],.row true N 1 (fun i=>.int .u8 (nat (T i))),.cells true [.int .u32 (nat (blk w T k 0)),.int .u32 (nat (blk w T k 1)),.int .u32 (nat (blk w T k 2)),.int .u32 (nat (blk w T k 3)),.int .u32 (nat (blk w T k 4)),.int .u32 (nat (blk w T k 5)),.int .u32 (nat (blk w T k 6)),.int .u32 (nat (blk w T k 7))]],[]⟩) ?_ ?_
     ·refine into_mk [some 0,some 1,some 2,some 3,some 4,some 5] [(0,.ptr 0 0),(2,.ptr 2 0),(3,.ptr 3 0),(4,.osl 4 0 (64 * 0) 1 (N - 64 * 0)),(6,.ptr 5 0)] [.cells true [.int .u32 (nat (w 0)),.int .u32 (nat (w 1)),.int .u32 (nat (w 2)),.int .u32 (nat (w 3)),.int .u32 (nat (w 4)),.int .u32 (nat (w 5)),.int .u32 (nat (w 6)),.int .u32 (nat (w 7)),.osl 1 0 0 1 n,.int .i64 (cnt:Nat)],.row true n 1 (fun i=>.int .u8 (nat (L i))),.cells true [.fam 32 1 fun _=>.int .u8 0],.cells true [.fam 32 1 fun _=>.int .u8 0],.row true N 1 (fun i=>.int .u8 (nat (T i))),.cells true [.int .u32 (nat (blk w T 0 0)),.int .u32 (nat (blk w T 0 1)),.int .u32 (nat (blk w T 0 2)),.int .u32 (nat (blk w T 0 3)),.int .u32 (nat (blk w T 0 4)),.int .u32 (nat (blk w T 0 5)),.int .u32 (nat (blk w T 0 6)),.int .u32 (nat (blk w T 0 7))]] ?_ ?_ ?_ ?_ ?_ ?_ ?_ ?_
      ·simp [slot,lkL,fixed,rg,renH,chEq,lookH,eqvL,eqv,eqvF,rnmL,rnm,liveN,Chunk.live,goodH,Chunk.good,okL,ok,sz,szL,storL,stor,renT,okT]
      ·simp [slot,lkL,fixed,rg,renH,chEq,lookH,eqvL,eqv,eqvF,rnmL,rnm,liveN,Chunk.live,goodH,Chunk.good,okL,ok,sz,szL,storL,stor,renT,okT]
      ·simp [slot,lkL,fixed,rg,renH,chEq,lookH,eqvL,eqv,eqvF,rnmL,rnm,liveN,Chunk.live,goodH,Chunk.good,okL,ok,sz,szL,storL,stor,renT,okT,blk]
      ·simp [slot,lkL,fixed,rg,renH,chEq,lookH,eqvL,eqv,eqvF,rnmL,rnm,liveN,Chunk.live,goodH,Chunk.good,okL,ok,sz,szL,storL,stor,renT,okT]
      ·simp [slot,lkL,fixed,rg,renH,chEq,lookH,eqvL,eqv,eqvF,rnmL,rnm,liveN,Chunk.live,goodH,Chunk.good,okL,ok,sz,szL,storL,stor,renT,okT]
      ·simp [slot,lkL,fixed,rg,renH,chEq,lookH,eqvL,eqv,eqvF,rnmL,rnm,liveN,Chunk.live,goodH,Chunk.good,okL,ok,sz,szL,storL,stor,renT,okT]
      ·simp [slot,lkL,fixed,rg,renH,chEq,lookH,eqvL,eqv,eqvF,rnmL,rnm,liveN,Chunk.live,goodH,Chunk.good,okL,ok,sz,szL,storL,stor,renT,okT]
      ·intro j
       exact ⟨N / 64,0,0,j,by omega,rfl⟩
     ·rintro m3 s ⟨k,d',j3,hk,rfl⟩
      have hk2:64 * k≤N:=by omega
      simp -implicitDefEqProofs (maxSteps:=1000000) (disch:=omega) only [↓zzP,zzA,zzL,Nat.reduceSub,reduceIte,reduceCtorEq,Nat.reduceLT,Int.reduceLE,↓reduceIte,Nat.reduceEqDiff,Nat.reduceLeDiff,Int.reduceToNat,↓gd,↓opP,↓qv,slot,putS,putO,ofV,bnd,slS,lenS,rdF,Ent.row,ldS,sz,binH,binS2,binS]
      refine ⟨Sx.imp_intro fun hc'=>?_,Sx.imp_intro fun hc'=>?_⟩
      ·have hk3:64 * k+64≤N:=by have:=of_decide_eq_true hc'; omega
       and_intros <;> try omega
       refine callP_frame (hl:=[.cells true ([.int .u32 (nat (blk w T k 0)),.int .u32 (nat (blk w T k 1)),.int .u32 (nat (blk w T k 2)),.int .u32 (nat (blk w T k 3)),.int .u32 (nat (blk w T k 4)),.int .u32 (nat (blk w T k 5)),.int .u32 (nat (blk w T k 6)),.int .u32 (nat (blk w T k 7))]++[]),.row false N 1 fun i=>.int .u8 (nat (T i))]) (argsL:=[.ptr 0 0,.osl 1 d' (64 * k) 1 64])
        (KL:=fun _ v h'=>v = .tup []∧h' = [.cells true ([.int .u32 (nat (comp (blk w T k) (fun i=>T (64 * k+i)) 0)),.int .u32 (nat (comp (blk w T k) (fun i=>T (64 * k+i)) 1)),.int .u32 (nat (comp (blk w T k) (fun i=>T (64 * k+i)) 2)),.int .u32 (nat (comp (blk w T k) (fun i=>T (64 * k+i)) 3)),.int .u32 (nat (comp (blk w T k) (fun i=>T (64 * k+i)) 4)),.int .u32 (nat (comp (blk w T k) (fun i=>T (64 * k+i)) 5)),.int .u32 (nat (comp (blk w T k) (fun i=>T (64 * k+i)) 6)),.int .u32 (nat (comp (blk w T k) (fun i=>T (64 * k+i)) 7))]++[]),.row false N 1 fun i=>.int .u8 (nat (T i))]) [5,4]
        (c54l (blk w T k) [] d' (64 * k) N T (by omega) (by simp [okL,ok]) (by simp [storL,stor]) _ ⟨rfl,rfl⟩) ?_ ?_ ?_ ?_ ?_ ?_
       ·simp
       ·simp [slot,lkL,fixed,rg,renH,chEq,lookH,eqvL,eqv,eqvF,rnmL,rnm,liveN,Chunk.live,goodH,Chunk.good,okL,ok,sz,szL,storL,stor,renT,okT,has,upG,up,nth,roOk,keepsLive,Chunk.wr,lay,rnmC,putH]
       ·simp [slot,lkL,fixed,rg,renH,chEq,lookH,eqvL,eqv,eqvF,rnmL,rnm,liveN,Chunk.live,goodH,Chunk.good,okL,ok,sz,szL,storL,stor,renT,okT,has,upG,up,nth,roOk,keepsLive,Chunk.wr,lay,rnmC,putH]
       ·simp [slot,lkL,fixed,rg,renH,chEq,lookH,eqvL,eqv,eqvF,rnmL,rnm,liveN,Chunk.live,goodH,Chunk.good,okL,ok,sz,szL,storL,stor,renT,okT,has,upG,up,nth,roOk,keepsLive,Chunk.wr,lay,rnmC,putH]
       ·simp [slot,lkL,fixed,rg,renH,chEq,lookH,eqvL,eqv,eqvF,rnmL,rnm,liveN,Chunk.live,goodH,Chunk.good,okL,ok,sz,szL,storL,stor,renT,okT,has,upG,up,nth,roOk,keepsLive,Chunk.wr,lay,rnmC,putH]
       ·rintro v h' ⟨rfl,rfl⟩
        refine ⟨by simp [slot,lkL,fixed,rg,renH,chEq,lookH,eqvL,eqv,eqvF,rnmL,rnm,liveN,Chunk.live,goodH,Chunk.good,okL,ok,sz,szL,storL,stor,renT,okT,has,upG,up,nth,roOk,keepsLive,Chunk.wr,lay,rnmC,putH],by simp [slot,lkL,fixed,rg,renH,chEq,lookH,eqvL,eqv,eqvF,rnmL,rnm,liveN,Chunk.live,goodH,Chunk.good,okL,ok,sz,szL,storL,stor,renT,okT,has,upG,up,nth,roOk,keepsLive,Chunk.wr,lay,rnmC,putH],?_⟩
        simp -implicitDefEqProofs (maxSteps:=1000000) (disch:=omega) only [↓zzP,zzA,reduceIte,reduceCtorEq,Nat.reduceLT,Int.reduceLE,↓reduceIte,Nat.reduceEqDiff,Nat.reduceAdd,Int.reduceToNat,↓gd,↓opP,↓qv,slot,putS,putO,ofV,bnd,slS,lay,rnmC,rnm,rnmL,Chunk.wr]
        and_intros <;> try omega
        refine into_mk [some 0,some 1,some 2,some 3,some 4,some 5] [(0,.ptr 0 0),(2,.ptr 2 0),(3,.ptr 3 0),(4,.osl 4 (64 * k) (64 * (k+1)) 1 (N - 64 * (k+1))),(6,.ptr 5 0)] [.cells true [.int .u32 (nat (w 0)),.int .u32 (nat (w 1)),.int .u32 (nat (w 2)),.int .u32 (nat (w 3)),.int .u32 (nat (w 4)),.int .u32 (nat (w 5)),.int .u32 (nat (w 6)),.int .u32 (nat (w 7)),.osl 1 0 0 1 n,.int .i64 (cnt:Nat)],.row true n 1 (fun i=>.int .u8 (nat (L i))),.cells true [.fam 32 1 fun _=>.int .u8 0],.cells true [.fam 32 1 fun _=>.int .u8 0],.row true N 1 (fun i=>.int .u8 (nat (T i))),.cells true [.int .u32 (nat (blk w T (k+1) 0)),.int .u32 (nat (blk w T (k+1) 1)),.int .u32 (nat (blk w T (k+1) 2)),.int .u32 (nat (blk w T (k+1) 3)),.int .u32 (nat (blk w T (k+1) 4)),.int .u32 (nat (blk w T (k+1) 5)),.int .u32 (nat (blk w T (k+1) 6)),.int .u32 (nat (blk w T (k+1) 7))]] ?_ ?_ ?_ ?_ ?_ ?_ ?_ ?_
        ·simp [slot,lkL,fixed,rg,renH,chEq,lookH,eqvL,eqv,eqvF,rnmL,rnm,liveN,Chunk.live,goodH,Chunk.good,okL,ok,sz,szL,storL,stor,renT,okT]
        ·simp [slot,lkL,fixed,rg,renH,chEq,lookH,eqvL,eqv,eqvF,rnmL,rnm,liveN,Chunk.live,goodH,Chunk.good,okL,ok,sz,szL,storL,stor,renT,okT]
        ·simp [slot,lkL,fixed,rg,renH,chEq,lookH,eqvL,eqv,eqvF,rnmL,rnm,liveN,Chunk.live,goodH,Chunk.good,okL,ok,sz,szL,storL,stor,renT,okT,blk]
        ·simp [slot,lkL,fixed,rg,renH,chEq,lookH,eqvL,eqv,eqvF,rnmL,rnm,liveN,Chunk.live,goodH,Chunk.good,okL,ok,sz,szL,storL,stor,renT,okT]
        ·simp [slot,lkL,fixed,rg,renH,chEq,lookH,eqvL,eqv,eqvF,rnmL,rnm,liveN,Chunk.live,goodH,Chunk.good,okL,ok,sz,szL,storL,stor,renT,okT]
        ·simp [slot,lkL,fixed,rg,renH,chEq,lookH,eqvL,eqv,eqvF,rnmL,rnm,liveN,Chunk.live,goodH,Chunk.good,okL,ok,sz,szL,storL,stor,renT,okT,Nat.mul_add]
         try omega
        ·simp [slot,lkL,fixed,rg,renH,chEq,lookH,eqvL,eqv,eqvF,rnmL,rnm,liveN,Chunk.live,goodH,Chunk.good,okL,ok,sz,szL,storL,stor,renT,okT]
        ·intro j
         exact ⟨m3 - 1,by omega,k+1,64 * k,j,by omega,rfl⟩
      ·have hk4:k = N / 64:=by have:=of_decide_eq_false hc'; omega
       subst hk4
       obtain ⟨V,hV⟩:∃ V,V = blk w T (N / 64):=⟨_,rfl⟩
       rw [← hV] at hK ⊢
       refine codeP_loop (pl:=np) tabOk follows_mixed (by kernel_rfl) (fun m s=>∃ (k:Nat) (j:Nat→Value),k+m = 8∧s = ⟨⟨88,[(0,.ptr 0 0),(2,.ptr 2 0),(3,.ptr 3 0),(55,.fam 8 1 fun i=>.int .u32 (nat (V i))),(56,.int .i64 (k:Nat))],j⟩,[.cells true [.int .u32 (nat (w 0)),.int .u32 (nat (w 1)),.int .u32 (nat (w 2)),.int .u32 (nat (w 3)),.int .u32 (nat (w 4)),.int .u32 (nat (w 5)),.int .u32 (nat (w 6)),.int .u32 (nat (w 7)),.osl 1 0 0 1 n,.int .i64 (cnt:Nat)],.row true n 1 (fun i=>.int .u8 (nat (L i))),.cells true [.fam 32 1 fun _=>.int .u8 0],.cells true [.fam 32 1 fun i=>.int .u8 (nat (if i < 4 * k then dig V i else 0))]],[]⟩) ?_ ?_
       ·refine into_mk [some 0,some 1,some 2,some 3] [(0,.ptr 0 0),(2,.ptr 2 0),(3,.ptr 3 0),(55,.fam 8 1 fun i=>.int .u32 (nat (V i))),(56,.int .i64 (0:Nat))] [.cells true [.int .u32 (nat (w 0)),.int .u32 (nat (w 1)),.int .u32 (nat (w 2)),.int .u32 (nat (w 3)),.int .u32 (nat (w 4)),.int .u32 (nat (w 5)),.int .u32 (nat (w 6)),.int .u32 (nat (w 7)),.osl 1 0 0 1 n,.int .i64 (cnt:Nat)],.row true n 1 (fun i=>.int .u8 (nat (L i))),.cells true [.fam 32 1 fun _=>.int .u8 0],.cells true [.fam 32 1 fun i=>.int .u8 (nat (if i < 4 * 0 then dig V i else 0))]] ?_ ?_ ?_ ?_ ?_ ?_ ?_ ?_
        ·simp [slot,lkL,fixed,rg,renH,chEq,lookH,eqvL,eqv,eqvF,rnmL,rnm,liveN,Chunk.live,goodH,Chunk.good,okL,ok,sz,szL,storL,stor,renT,okT]
        ·simp [slot,lkL,fixed,rg,renH,chEq,lookH,eqvL,eqv,eqvF,rnmL,rnm,liveN,Chunk.live,goodH,Chunk.good,okL,ok,sz,szL,storL,stor,renT,okT]
        ·simp [slot,lkL,fixed,rg,renH,chEq,lookH,eqvL,eqv,eqvF,rnmL,rnm,liveN,Chunk.live,goodH,Chunk.good,okL,ok,sz,szL,storL,stor,renT,okT,nat]
        ·simp [slot,lkL,fixed,rg,renH,chEq,lookH,eqvL,eqv,eqvF,rnmL,rnm,liveN,Chunk.live,goodH,Chunk.good,okL,ok,sz,szL,storL,stor,renT,okT]
        ·simp [slot,lkL,fixed,rg,renH,chEq,lookH,eqvL,eqv,eqvF,rnmL,rnm,liveN,Chunk.live,goodH,Chunk.good,okL,ok,sz,szL,storL,stor,renT,okT]
        ·simp [slot,lkL,fixed,rg,renH,chEq,lookH,eqvL,eqv,eqvF,rnmL,rnm,liveN,Chunk.live,goodH,Chunk.good,okL,ok,sz,szL,storL,stor,renT,okT]
        ·simp [slot,lkL,fixed,rg,renH,chEq,lookH,eqvL,eqv,eqvF,rnmL,rnm,liveN,Chunk.live,goodH,Chunk.good,okL,ok,sz,szL,storL,stor,renT,okT]
        ·intro j
         exact ⟨8,0,j,by omega,rfl⟩
       ·rintro m4 s ⟨k,j4,hk,rfl⟩
        have a0:IntKind.i64.wrap (4 * (k:Int)) = ((4 * k:Nat):Int):=by rw [wrap64 (by omega) (by omega)]; omega
        have a1:IntKind.i64.wrap (((4 * k:Nat):Int)+1) = ((4 * k+1:Nat):Int):=by rw [wrap64 (by omega) (by omega)]; omega
        have a2:IntKind.i64.wrap (((4 * k:Nat):Int)+2) = ((4 * k+2:Nat):Int):=by rw [wrap64 (by omega) (by omega)]; omega
        have a3:IntKind.i64.wrap (((4 * k:Nat):Int)+3) = ((4 * k+3:Nat):Int):=by rw [wrap64 (by omega) (by omega)]; omega
        have a4:IntKind.i64.wrap ((k:Int)+1) = ((k+1:Nat):Int):=by rw [wrap64 (by omega) (by omega)]; omega
        simp -implicitDefEqProofs (maxSteps:=1000000) (disch:=omega) only [↓zzP,zzA,zzL,reduceIte,reduceCtorEq,Nat.reduceLT,Int.reduceLE,↓reduceIte,Nat.reduceEqDiff,Nat.reduceLeDiff,Int.reduceToNat,↓gd,↓opP,↓qv,↓ef,↓stS,slot,putS,putO,ofV,convS,idxA,idxS,parts,asRow,single,rdF,Ent.row,ldS,sz,wrF,binH,binS2,binS,stor,a0,a1,a2,a3,a4,res19]
        refine ⟨Sx.imp_intro fun hc'=>?_,Sx.imp_intro fun hc'=>?_⟩
        ·have hk3:k < 8:=by have:=of_decide_eq_true hc'; omega
         and_intros <;> try omega
         refine into_mk [some 0,some 1,some 2,some 3] [(0,.ptr 0 0),(2,.ptr 2 0),(3,.ptr 3 0),(55,.fam 8 1 fun i=>.int .u32 (nat (V i))),(56,.int .i64 (k+1:Nat))] [.cells true [.int .u32 (nat (w 0)),.int .u32 (nat (w 1)),.int .u32 (nat (w 2)),.int .u32 (nat (w 3)),.int .u32 (nat (w 4)),.int .u32 (nat (w 5)),.int .u32 (nat (w 6)),.int .u32 (nat (w 7)),.osl 1 0 0 1 n,.int .i64 (cnt:Nat)],.row true n 1 (fun i=>.int .u8 (nat (L i))),.cells true [.fam 32 1 fun _=>.int .u8 0],.cells true [.fam 32 1 fun i=>.int .u8 (nat (if i < 4 * (k+1) then dig V i else 0))]] ?_ ?_ ?_ ?_ ?_ ?_ ?_ ?_
         ·simp [slot,lkL,fixed,rg,renH,chEq,lookH,eqvL,eqv,eqvF,rnmL,rnm,liveN,Chunk.live,goodH,Chunk.good,okL,ok,sz,szL,storL,stor,renT,okT]
         ·simp [slot,lkL,fixed,rg,renH,chEq,lookH,eqvL,eqv,eqvF,rnmL,rnm,liveN,Chunk.live,goodH,Chunk.good,okL,ok,sz,szL,storL,stor,renT,okT]
         ·simp [slot,lkL,fixed,rg,renH,chEq,lookH,eqvL,eqv,eqvF,rnmL,rnm,liveN,Chunk.live,goodH,Chunk.good,okL,ok,sz,szL,storL,stor,renT,okT]
          intro i hi
          by_cases h3:i = 4 * k+3
          ·subst h3
           simp [eqv,dig,show 4 * k+3 < 4 * (k+1) by omega,show (4 * k+3) / 4 = k by omega,show (4 * k+3) % 4 = 3 by omega]
          by_cases h2:i = 4 * k+2
          ·subst h2
           simp [eqv,dig,show 4 * k+2 < 4 * (k+1) by omega,show (4 * k+2) / 4 = k by omega,show (4 * k+2) % 4 = 2 by omega]
          by_cases h1:i = 4 * k+1
          ·subst h1
           simp [eqv,dig,show 4 * k+1 < 4 * (k+1) by omega,show (4 * k+1) / 4 = k by omega,show (4 * k+1) % 4 = 1 by omega]
          by_cases h0:i = 4 * k
          ·subst h0
           simp [eqv,dig,show 4 * k < 4 * (k+1) by omega,show (4 * k) / 4 = k by omega,show (4 * k) % 4 = 0 by omega]
          ·have e:(i < 4 * (k+1)) = (i < 4 * k):=by simp only [eq_iff_iff]; omega
           simp only [h3,h2,h1,h0,if_false,e,eqv]
         ·simp [slot,lkL,fixed,rg,renH,chEq,lookH,eqvL,eqv,eqvF,rnmL,rnm,liveN,Chunk.live,goodH,Chunk.good,okL,ok,sz,szL,storL,stor,renT,okT]
         ·simp [slot,lkL,fixed,rg,renH,chEq,lookH,eqvL,eqv,eqvF,rnmL,rnm,liveN,Chunk.live,goodH,Chunk.good,okL,ok,sz,szL,storL,stor,renT,okT]
         ·simp [slot,lkL,fixed,rg,renH,chEq,lookH,eqvL,eqv,eqvF,rnmL,rnm,liveN,Chunk.live,goodH,Chunk.good,okL,ok,sz,szL,storL,stor,renT,okT]
         ·simp [slot,lkL,fixed,rg,renH,chEq,lookH,eqvL,eqv,eqvF,rnmL,rnm,liveN,Chunk.live,goodH,Chunk.good,okL,ok,sz,szL,storL,stor,renT,okT]
         ·intro j
          exact ⟨m4 - 1,by omega,k+1,j,by omega,rfl⟩
        ·have hk4:k = 8:=by have:=of_decide_eq_false hc'; omega
         subst hk4
         refine intoR_mk [some 0,some 1] (.fam 32 1 fun i=>.int .u8 (nat (dig V i))) [.cells true [.int .u32 (nat (w 0)),.int .u32 (nat (w 1)),.int .u32 (nat (w 2)),.int .u32 (nat (w 3)),.int .u32 (nat (w 4)),.int .u32 (nat (w 5)),.int .u32 (nat (w 6)),.int .u32 (nat (w 7)),.osl 1 0 0 1 n,.int .i64 (cnt:Nat)],.row true n 1 (fun i=>.int .u8 (nat (L i)))] ?_ ?_ ?_ ?_ ?_ ?_ ?_ hK
         ·simp [slot,lkL,fixed,rg,renH,chEq,lookH,eqvL,eqv,eqvF,rnmL,rnm,liveN,Chunk.live,goodH,Chunk.good,okL,ok,sz,szL,storL,stor,renT,okT]
         ·simp [slot,lkL,fixed,rg,renH,chEq,lookH,eqvL,eqv,eqvF,rnmL,rnm,liveN,Chunk.live,goodH,Chunk.good,okL,ok,sz,szL,storL,stor,renT,okT]
         ·simp [slot,lkL,fixed,rg,renH,chEq,lookH,eqvL,eqv,eqvF,rnmL,rnm,liveN,Chunk.live,goodH,Chunk.good,okL,ok,sz,szL,storL,stor,renT,okT]
         ·simp [slot,lkL,fixed,rg,renH,chEq,lookH,eqvL,eqv,eqvF,rnmL,rnm,liveN,Chunk.live,goodH,Chunk.good,okL,ok,sz,szL,storL,stor,renT,okT]
         ·simp [slot,lkL,fixed,rg,renH,chEq,lookH,eqvL,eqv,eqvF,rnmL,rnm,liveN,Chunk.live,goodH,Chunk.good,okL,ok,sz,szL,storL,stor,renT,okT]
         ·simp [slot,lkL,fixed,rg,renH,chEq,lookH,eqvL,eqv,eqvF,rnmL,rnm,liveN,Chunk.live,goodH,Chunk.good,okL,ok,sz,szL,storL,stor,renT,okT]
          intro i hi
          simp [hi,eqv]
         ·simp [slot,lkL,fixed,rg,renH,chEq,lookH,eqvL,eqv,eqvF,rnmL,rnm,liveN,Chunk.live,goodH,Chunk.good,okL,ok,sz,szL,storL,stor,renT,okT]
    ·have f1:IntKind.i64.wrap (8 * (7 - (k:Int))) = ((8 * (7 - k):Nat):Int):=by rw [wrap64 (by omega) (by omega)]; omega
     have f2:IntKind.i64.wrap ((7 - (k:Int)) - 1) = 7 - ((k+1:Nat):Int):=by rw [wrap64 (by omega) (by omega)]; omega
     have f3:(decide ((7 - (k:Int)) ≥ 0)) = true:=by simp; omega
     simp -implicitDefEqProofs (maxSteps:=1000000) (disch:=omega) only [↓zzP,zzA,zzL,Nat.reduceSub,reduceIte,reduceCtorEq,Nat.reduceLT,Int.reduceLE,↓reduceIte,Nat.reduceEqDiff,Nat.reduceLeDiff,Nat.reduceAdd,Int.reduceToNat,↓gd,↓opP,↓qv,↓ef,↓bslS,↓appS,slot,putS,putO,ofV,convS,fldA,single,rdF,Ent.row,ldS,sz,srcS,binH,binS2,binS,stor,notInt,f0,f1,f2,f3]
     and_intros <;> try omega
     refine into_mk [some 0,some 1,some 2,some 3,some 6] [(0,.ptr 0 0),(2,.ptr 2 0),(3,.ptr 3 0),(4,.osl 4 0 0 1 (n+1+zs n+(k+1))),(5,.int .i64 (7 - (k+1:Nat)))] [.cells true [.int .u32 (nat (w 0)),.int .u32 (nat (w 1)),.int .u32 (nat (w 2)),.int .u32 (nat (w 3)),.int .u32 (nat (w 4)),.int .u32 (nat (w 5)),.int .u32 (nat (w 6)),.int .u32 (nat (w 7)),.osl 1 0 0 1 n,.int .i64 (cnt:Nat)],.row true n 1 (fun i=>.int .u8 (nat (L i))),.cells true [.fam 32 1 fun _=>.int .u8 0],.cells true [.fam 32 1 fun _=>.int .u8 0],.row true (n+1+zs n+(k+1)) 1 fun i=>.int .u8 (nat (padF n (BitVec.ofNat 64 cnt) L i))] ?_ ?_ ?_ ?_ ?_ ?_ ?_ ?_
     ·simp [slot,lkL,fixed,rg,renH,chEq,lookH,eqvL,eqv,eqvF,rnmL,rnm,liveN,Chunk.live,goodH,Chunk.good,okL,ok,sz,szL,storL,stor,renT,okT]
     ·simp [slot,lkL,fixed,rg,renH,chEq,lookH,eqvL,eqv,eqvF,rnmL,rnm,liveN,Chunk.live,goodH,Chunk.good,okL,ok,sz,szL,storL,stor,renT,okT]
     ·simp [slot,lkL,fixed,rg,renH,chEq,lookH,eqvL,eqv,eqvF,rnmL,rnm,liveN,Chunk.live,goodH,Chunk.good,okL,ok,sz,szL,storL,stor,renT,okT]
      refine ⟨by omega,fun i hi=>?_⟩
      by_cases h:i < n+1+zs n+k
      ·simp [h,eqv]
      ·have h2:i = n+1+zs n+k:=by omega
       subst h2
       simp [padF,eqv,Sx.look,show ¬ n+1+zs n+k < n+1+zs n by omega]
     ·simp [slot,lkL,fixed,rg,renH,chEq,lookH,eqvL,eqv,eqvF,rnmL,rnm,liveN,Chunk.live,goodH,Chunk.good,okL,ok,sz,szL,storL,stor,renT,okT]
     ·simp [slot,lkL,fixed,rg,renH,chEq,lookH,eqvL,eqv,eqvF,rnmL,rnm,liveN,Chunk.live,goodH,Chunk.good,okL,ok,sz,szL,storL,stor,renT,okT]
     ·simp [slot,lkL,fixed,rg,renH,chEq,lookH,eqvL,eqv,eqvF,rnmL,rnm,liveN,Chunk.live,goodH,Chunk.good,okL,ok,sz,szL,storL,stor,renT,okT]
      omega
     ·simp [slot,lkL,fixed,rg,renH,chEq,lookH,eqvL,eqv,eqvF,rnmL,rnm,liveN,Chunk.live,goodH,Chunk.good,okL,ok,sz,szL,storL,stor,renT,okT]
     ·intro j
      exact ⟨m2 - 1,by omega,k+1,j,by omega,rfl⟩
end Go.Proofs.Ytgocfglmideobaa.S
set_option linter.all false
set_option maxRecDepth 40000
namespace Go.Proofs.Ytgocfglmideobaa.S
open Go Go.Sx
def shaD (len:Nat) (B:Nat→BitVec 8):Nat→BitVec 8 :=
 dig (blk (blk iv (cat 0 (fun _=>0) B) (len / 64)) (padF (len - 64 * (len / 64)) (BitVec.ofNat 64 len) fun i=>cat 0 (fun _=>0) B (64 * (len / 64)+i))
  ((len - 64 * (len / 64)+1+zs (len - 64 * (len / 64))+8) / 64))
theorem res20:Try.f116.results.toList = [.cell 2 23]:=rfl
theorem c20l (m d e len:Nat) (B:Nat→BitVec 8) (hm:e+len≤m) (hl:len≤70368744177664) (K:Tok→SV→List Chunk→Prop)
  (hK:K .mk (.fam 32 1 fun i=>.int .u8 (nat (shaD len (fun i=>B (e+i)) i))) [.row false m 1 fun i=>.int .u8 (nat (B i))]) :
  callP Try.prog 116 [.osl 0 d e 1 len] [.row false m 1 fun i=>.int .u8 (nat (B i))] K:=by
 refine callP_of_code tabOk Try.func116 (by kernel_rfl) rfl (Nat.le_of_ble_eq_true rfl) (codeP_of_vc (pl:=np) tabOk follows_mixed (by kernel_rfl) ?_)
 rw [Try.ntmps116]
 simp -implicitDefEqProofs (maxSteps:=1000000) (disch:=omega) only [↓zzP,zzA,zzL,reduceIte,Nat.reduceLT,↓reduceIte,↓gd,↓opP,↓qv,↓ef,slot,putS,putO,parts,asRow,rdF,Ent.row,ldS,tupS,res20]
 refine callP_frame (KL:=fun _ v h'=>v = .ptr 0 0∧h' = [.cells true [.int .u32 (nat (iv 0)),.int .u32 (nat (iv 1)),.int .u32 (nat (iv 2)),.int .u32 (nat (iv 3)),.int .u32 (nat (iv 4)),.int .u32 (nat (iv 5)),.int .u32 (nat (iv 6)),.int .u32 (nat (iv 7)),.osl 1 0 0 1 0,.int .i64 0],.row true 0 1 fun i=>.int .u8 0]) [] (c16l _ ⟨rfl,rfl⟩) List.nodup_nil trivial trivial trivial rfl ?_
 rintro v h' ⟨rfl,rfl⟩
 refine ⟨by simp [slot,lkL,fixed,rg,renH,chEq,lookH,eqvL,eqv,eqvF,rnmL,rnm,liveN,Chunk.live,goodH,Chunk.good,okL,ok,sz,szL,storL,stor,renT,okT,has,upG,up,nth,roOk,keepsLive,Chunk.wr,lay,rnmC,putH],trivial,?_⟩
 simp -implicitDefEqProofs (maxSteps:=1000000) (disch:=omega) only [↓zzP,zzA,reduceIte,reduceCtorEq,Nat.reduceLT,↓reduceIte,Nat.reduceEqDiff,Nat.reduceAdd,↓gd,↓opP,↓qv,slot,putS,putO,upG,up,nth,lay,rnmC,rnm,rnmL]
 refine callP_frame (argsL:=[.ptr 0 0,.osl 2 d e 1 len]) (KL:=fun _ v h'=>v = .tup []∧h' = [.cells true [.int .u32 (nat (blk iv (cat 0 (fun _=>0) fun i=>B (e+i)) ((0+len) / 64) 0)),.int .u32 (nat (blk iv (cat 0 (fun _=>0) fun i=>B (e+i)) ((0+len) / 64) 1)),.int .u32 (nat (blk iv (cat 0 (fun _=>0) fun i=>B (e+i)) ((0+len) / 64) 2)),.int .u32 (nat (blk iv (cat 0 (fun _=>0) fun i=>B (e+i)) ((0+len) / 64) 3)),.int .u32 (nat (blk iv (cat 0 (fun _=>0) fun i=>B (e+i)) ((0+len) / 64) 4)),.int .u32 (nat (blk iv (cat 0 (fun _=>0) fun i=>B (e+i)) ((0+len) / 64) 5)),.int .u32 (nat (blk iv (cat 0 (fun _=>0) fun i=>B (e+i)) ((0+len) / 64) 6)),.int .u32 (nat (blk iv (cat 0 (fun _=>0) fun i=>B (e+i)) ((0+len) / 64) 7)),.osl 3 0 0 1 (0+len - 64 * ((0+len) / 64)),.int .i64 (0+len:Nat)],.none,.row false m 1 (fun i=>.int .u8 (nat (B i))),
   .row true (0+len - 64 * ((0+len) / 64)) 1 fun i=>.int .u8 (nat (cat 0 (fun _=>0) (fun i=>B (e+i)) (64 * ((0+len) / 64)+i)))]) [2,3,0]
   (c17l iv 0 0 d e len m (fun _=>0) B hm (by omega) (by omega) _ ⟨rfl,rfl⟩) ?_ ?_ ?_ ?_ ?_ ?_
 ·simp
 ·simp [slot,lkL,fixed,rg,renH,chEq,lookH,eqvL,eqv,eqvF,rnmL,rnm,liveN,Chunk.live,goodH,Chunk.good,okL,ok,sz,szL,storL,stor,renT,okT,has,upG,up,nth,roOk,keepsLive,Chunk.wr,lay,rnmC,putH]
 ·simp [slot,lkL,fixed,rg,renH,chEq,lookH,eqvL,eqv,eqvF,rnmL,rnm,liveN,Chunk.live,goodH,Chunk.good,okL,ok,sz,szL,storL,stor,renT,okT,has,upG,up,nth,roOk,keepsLive,Chunk.wr,lay,rnmC,putH]
 ·simp [slot,lkL,fixed,rg,renH,chEq,lookH,eqvL,eqv,eqvF,rnmL,rnm,liveN,Chunk.live,goodH,Chunk.good,okL,ok,sz,szL,storL,stor,renT,okT,has,upG,up,nth,roOk,keepsLive,Chunk.wr,lay,rnmC,putH]
 ·simp [slot,lkL,fixed,rg,renH,chEq,lookH,eqvL,eqv,eqvF,rnmL,rnm,liveN,Chunk.live,goodH,Chunk.good,okL,ok,sz,szL,storL,stor,renT,okT,has,upG,up,nth,roOk,keepsLive,Chunk.wr,lay,rnmC,putH]
 ·rintro v h' ⟨rfl,rfl⟩
  refine ⟨by simp [slot,lkL,fixed,rg,renH,chEq,lookH,eqvL,eqv,eqvF,rnmL,rnm,liveN,Chunk.live,goodH,Chunk.good,okL,ok,sz,szL,storL,stor,renT,okT,has,upG,up,nth,roOk,keepsLive,Chunk.wr,lay,rnmC,putH],by simp [slot,lkL,fixed,rg,renH,chEq,lookH,eqvL,eqv,eqvF,rnmL,rnm,liveN,Chunk.live,goodH,Chunk.good,okL,ok,sz,szL,storL,stor,renT,okT,has,upG,up,nth,roOk,keepsLive,Chunk.wr,lay,rnmC,putH],?_⟩
  simp -implicitDefEqProofs (maxSteps:=1000000) (disch:=omega) only [↓zzP,zzA,reduceIte,Nat.reduceLT,↓reduceIte,Nat.reduceEqDiff,Nat.reduceAdd,↓gd,↓opP,↓qv,slot,putS,putO,upG,up,nth,lay,rnmC,rnm,rnmL,Chunk.wr]
  refine callP_frame (argsL:=[.ptr 0 0]) (KL:=fun _ v h'=>v = .fam 32 1 (fun i=>.int .u8 (nat (shaD len (fun i=>B (e+i)) i)))∧h' = [.cells true [.int .u32 (nat (blk iv (cat 0 (fun _=>0) fun i=>B (e+i)) (len / 64) 0)),.int .u32 (nat (blk iv (cat 0 (fun _=>0) fun i=>B (e+i)) (len / 64) 1)),.int .u32 (nat (blk iv (cat 0 (fun _=>0) fun i=>B (e+i)) (len / 64) 2)),.int .u32 (nat (blk iv (cat 0 (fun _=>0) fun i=>B (e+i)) (len / 64) 3)),.int .u32 (nat (blk iv (cat 0 (fun _=>0) fun i=>B (e+i)) (len / 64) 4)),.int .u32 (nat (blk iv (cat 0 (fun _=>0) fun i=>B (e+i)) (len / 64) 5)),.int .u32 (nat (blk iv (cat 0 (fun _=>0) fun i=>B (e+i)) (len / 64) 6)),.int .u32 (nat (blk iv (cat 0 (fun _=>0) fun i=>B (e+i)) (len / 64) 7)),.osl 1 0 0 1 (len - 64 * (len / 64)),.int .i64 (len:Nat)],
   .row true (len - 64 * (len / 64)) 1 fun i=>.int .u8 (nat (cat 0 (fun _=>0) (fun i=>B (e+i)) (64 * (len / 64)+i)))]) [2,4]
   (c19l (blk iv (cat 0 (fun _=>0) fun i=>B (e+i)) (len / 64)) len (len - 64 * (len / 64)) (fun i=>cat 0 (fun _=>0) (fun i=>B (e+i)) (64 * (len / 64)+i)) (by omega) (by omega) _ ⟨rfl,rfl⟩) ?_ ?_ ?_ ?_ ?_ ?_
  ·simp
  ·simp [slot,lkL,fixed,rg,renH,chEq,lookH,eqvL,eqv,eqvF,rnmL,rnm,liveN,Chunk.live,goodH,Chunk.good,okL,ok,sz,szL,storL,stor,renT,okT,has,upG,up,nth,roOk,keepsLive,Chunk.wr,lay,rnmC,putH]
  ·simp [slot,lkL,fixed,rg,renH,chEq,lookH,eqvL,eqv,eqvF,rnmL,rnm,liveN,Chunk.live,goodH,Chunk.good,okL,ok,sz,szL,storL,stor,renT,okT,has,upG,up,nth,roOk,keepsLive,Chunk.wr,lay,rnmC,putH]
  ·simp [slot,lkL,fixed,rg,renH,chEq,lookH,eqvL,eqv,eqvF,rnmL,rnm,liveN,Chunk.live,goodH,Chunk.good,okL,ok,sz,szL,storL,stor,renT,okT,has,upG,up,nth,roOk,keepsLive,Chunk.wr,lay,rnmC,putH]
  ·simp [slot,lkL,fixed,rg,renH,chEq,lookH,eqvL,eqv,eqvF,rnmL,rnm,liveN,Chunk.live,goodH,Chunk.good,okL,ok,sz,szL,storL,stor,renT,okT,has,upG,up,nth,roOk,keepsLive,Chunk.wr,lay,rnmC,putH]
  ·rintro v h' ⟨rfl,rfl⟩
   refine ⟨by simp [slot,lkL,fixed,rg,renH,chEq,lookH,eqvL,eqv,eqvF,rnmL,rnm,liveN,Chunk.live,goodH,Chunk.good,okL,ok,sz,szL,storL,stor,renT,okT,has,upG,up,nth,roOk,keepsLive,Chunk.wr,lay,rnmC,putH],by simp [slot,lkL,fixed,rg,renH,chEq,lookH,eqvL,eqv,eqvF,rnmL,rnm,liveN,Chunk.live,goodH,Chunk.good,okL,ok,sz,szL,storL,stor,renT,okT,has,upG,up,nth,roOk,keepsLive,Chunk.wr,lay,rnmC,putH],?_⟩
   simp -implicitDefEqProofs (maxSteps:=1000000) (disch:=omega) only [↓zzP,zzA,zzL,reduceIte,reduceCtorEq,↓reduceIte,Nat.reduceEqDiff,Nat.reduceLeDiff,Nat.reduceAdd,↓gd,↓opP,↓qv,↓ef,↓stS,slot,putO,parts,sz,wrF,stor,upG,up,nth,lay,rnmC,rnm,rnmL,Chunk.wr]
   exact intoR_take [.row false m 1 fun i=>.int .u8 (nat (B i))] rfl rfl (by simp [slot,lkL,fixed,rg,renH,chEq,lookH,eqvL,eqv,eqvF,rnmL,rnm,liveN,Chunk.live,goodH,Chunk.good,okL,ok,sz,szL,storL,stor,renT,okT]) (by simp [slot,lkL,fixed,rg,renH,chEq,lookH,eqvL,eqv,eqvF,rnmL,rnm,liveN,Chunk.live,goodH,Chunk.good,okL,ok,sz,szL,storL,stor,renT,okT]) hK
end Go.Proofs.Ytgocfglmideobaa.S
set_option linter.all false
set_option maxRecDepth 40000
namespace Go.Proofs.Ytgocfglmideobaa.S
open Go Go.Sx
end Go.Proofs.Ytgocfglmideobaa.S
set_option linter.all false
set_option maxRecDepth 40000
namespace Go.Proofs.Ytgocfglmideobaa.S
open Go Go.Sx
theorem c20' (m len:Nat) (B:Nat→BitVec 8) (f:Nat→SV) (hf:∀ i,i < m→f i = .int .u8 (nat (B i))) (hm:len≤m) (hl:len≤70368744177664) {h:List Chunk} {nm:Nat} (wr:Bool) (hh:lookH h nm = .row wr m 1 f) (hnm:nm < h.length) (K:Tok→SV→List Chunk→Prop)
  (hK:K .mk (.fam 32 1 fun i=>.int .u8 (nat (shaD len B i))) h):callP Try.prog 116 [.osl nm 0 0 1 len] h K:=by
 refine callP_frame (argsL:=[.osl 0 0 0 1 len]) (KL:=fun _ v h'=>v = .fam 32 1 (fun i=>.int .u8 (nat (shaD len (fun i=>B (0+i)) i)))∧h' = [.row false m 1 fun i=>.int .u8 (nat (B i))]) [nm] (c20l m 0 0 len B (by omega) hl _ ⟨rfl,rfl⟩) ?_ ?_ ?_ ?_ ?_ ?_
 ·simp
 ·simp only [has,hh,chEq,and_true]
  exact ⟨hnm,by simp,trivial,trivial,fun i hi=>by rw [hf i hi]; simp [rnm,eqv]⟩
 ·simp [slot,lkL,fixed,rg,renH,chEq,lookH,eqvL,eqv,eqvF,rnmL,rnm,liveN,Chunk.live,goodH,Chunk.good,okL,ok,sz,szL,storL,stor,renT,okT,has,upG,up,nth,roOk,keepsLive,Chunk.wr,lay,rnmC,putH]
 ·simp [slot,lkL,fixed,rg,renH,chEq,lookH,eqvL,eqv,eqvF,rnmL,rnm,liveN,Chunk.live,goodH,Chunk.good,okL,ok,sz,szL,storL,stor,renT,okT,has,upG,up,nth,roOk,keepsLive,Chunk.wr,lay,rnmC,putH]
 ·simp [slot,lkL,fixed,rg,renH,chEq,lookH,eqvL,eqv,eqvF,rnmL,rnm,liveN,Chunk.live,goodH,Chunk.good,okL,ok,sz,szL,storL,stor,renT,okT,has,upG,up,nth,roOk,keepsLive,Chunk.wr,lay,rnmC,putH]
 ·rintro v h' ⟨rfl,rfl⟩
  refine ⟨by simp [slot,lkL,fixed,rg,renH,chEq,lookH,eqvL,eqv,eqvF,rnmL,rnm,liveN,Chunk.live,goodH,Chunk.good,okL,ok,sz,szL,storL,stor,renT,okT,has,upG,up,nth,roOk,keepsLive,Chunk.wr,lay,rnmC,putH],by simp [slot,lkL,fixed,rg,renH,chEq,lookH,eqvL,eqv,eqvF,rnmL,rnm,liveN,Chunk.live,goodH,Chunk.good,okL,ok,sz,szL,storL,stor,renT,okT,has,upG,up,nth,roOk,keepsLive,Chunk.wr,lay,rnmC,putH],?_⟩
  simpa [rnm,lay,Chunk.wr] using hK
end Go.Proofs.Ytgocfglmideobaa.S
set_option linter.all false
set_option maxRecDepth 40000
namespace Go.Proofs.Ytgocfglmideobaa.S
open Go Go.Sx
def mT (x y:BitVec 64):BitVec 64:=(x >>> 32) * (y &&& 4294967295#64)+((x &&& 4294967295#64) * (y &&& 4294967295#64)) >>> 32
def mulHi (x y:BitVec 64):BitVec 64 :=
 (x >>> 32) * (y >>> 32)+mT x y >>> 32+((mT x y &&& 4294967295#64)+(x &&& 4294967295#64) * (y >>> 32)) >>> 32
theorem andM (x:BitVec 64):bits .and .u64 (nat x) 4294967295 = nat (x &&& 4294967295#64):=and64 x 4294967295#64
theorem res69:Try.f167.results.toList = [.tmp 4,.tmp 5]:=rfl
theorem c69 (x y:BitVec 64) (h:List Chunk) (K:Tok→SV→List Chunk→Prop) (hK:K .mk (.tup [.int .u64 (nat (mulHi x y)),.int .u64 (nat (x * y))]) h):callP Try.prog 167 [.int .u64 (nat x),.int .u64 (nat y)] h K:=by
 refine callP_of_code tabOk Try.func167 (by kernel_rfl) rfl (Nat.le_of_ble_eq_true rfl) (codeP_of_vc (pl:=np) tabOk follows_mixed (by kernel_rfl) ?_)
 rw [Try.ntmps167]
 simp -implicitDefEqProofs (maxSteps:=1000000) (disch:=omega) only [↓zzP,zzA,reduceIte,reduceCtorEq,Nat.reduceLT,Int.reduceLE,↓reduceIte,Nat.reduceEqDiff,Nat.reduceAdd,Int.reduceToNat,↓gd,↓opP,↓qv,slot,putS,putO,ofV,binH,binS2,binS,tupS,res69,andM]
 exact intoR_refl (Nat.le_refl _) hK
def rTest (p y:BitVec 64):Bool :=
 let top:=mulHi (y * y) y+mulHi y y * y
 decide (nat top < nat (p <<< 32)) || (nat top == nat (p <<< 32) && nat (y * y * y) == 0)
def rootX (p:BitVec 64):Nat→BitVec 64
 | 0=>0
 | k+1=>if rTest p (rootX p k ||| 1#64 <<< (34 - k)) then rootX p k ||| 1#64 <<< (34 - k) else rootX p k
theorem res56:Try.f152.results.toList = [.tmp 2]:=rfl
theorem c56l (p:BitVec 64) (K:Tok→SV→List Chunk→Prop) (hK:K .mk (.int .u32 (nat ((rootX p 35).setWidth 32))) []):callP Try.prog 152 [.int .u64 (nat p)] [] K:=by
 refine callP_of_code tabOk Try.func152 (by kernel_rfl) rfl (Nat.le_of_ble_eq_true rfl) (codeP_of_vc (pl:=np) tabOk follows_mixed (by kernel_rfl) ?_)
 rw [Try.ntmps152]
 simp -implicitDefEqProofs (maxSteps:=1000000) (disch:=omega) only [↓zzP,zzA,reduceIte,reduceCtorEq,Nat.reduceLT,↓reduceIte,↓gd,↓opP,↓qv,slot,putS,putO,ofV,tupS,res56]
 refine codeP_loop (pl:=np) tabOk follows_mixed (by kernel_rfl) (fun m s=>∃ (k:Nat) (j:Nat→Value),k+m = 35∧s = ⟨⟨53,[(0,.int .u64 (nat p)),(3,.int .u64 (nat (rootX p k))),(4,.int .i64 (34 - (k:Nat)))],j⟩,[],[]⟩) ?_ ?_
 ·refine into_mk [] [(0,.int .u64 (nat p)),(3,.int .u64 (nat (rootX p 0))),(4,.int .i64 (34 - (0:Nat)))] [] ?_ ?_ ?_ ?_ ?_ ?_ ?_ ?_
  ·simp [slot,lkL,fixed,rg,renH,chEq,lookH,eqvL,eqv,eqvF,rnmL,rnm,liveN,Chunk.live,goodH,Chunk.good,okL,ok,sz,szL,storL,stor,renT,okT]
  ·simp [slot,lkL,fixed,rg,renH,chEq,lookH,eqvL,eqv,eqvF,rnmL,rnm,liveN,Chunk.live,goodH,Chunk.good,okL,ok,sz,szL,storL,stor,renT,okT]
  ·simp [slot,lkL,fixed,rg,renH,chEq,lookH,eqvL,eqv,eqvF,rnmL,rnm,liveN,Chunk.live,goodH,Chunk.good,okL,ok,sz,szL,storL,stor,renT,okT]
  ·simp [slot,lkL,fixed,rg,renH,chEq,lookH,eqvL,eqv,eqvF,rnmL,rnm,liveN,Chunk.live,goodH,Chunk.good,okL,ok,sz,szL,storL,stor,renT,okT]
  ·simp [slot,lkL,fixed,rg,renH,chEq,lookH,eqvL,eqv,eqvF,rnmL,rnm,liveN,Chunk.live,goodH,Chunk.good,okL,ok,sz,szL,storL,stor,renT,okT]
  ·simp [slot,lkL,fixed,rg,renH,chEq,lookH,eqvL,eqv,eqvF,rnmL,rnm,liveN,Chunk.live,goodH,Chunk.good,okL,ok,sz,szL,storL,stor,renT,okT]
   rfl
  ·simp [slot,lkL,fixed,rg,renH,chEq,lookH,eqvL,eqv,eqvF,rnmL,rnm,liveN,Chunk.live,goodH,Chunk.good,okL,ok,sz,szL,storL,stor,renT,okT]
  ·intro j
   exact ⟨35,0,j,by omega,rfl⟩
 ·rintro m s ⟨k,j,hk,rfl⟩
  by_cases hk35:k = 35
  ·subst hk35
   have f3:(decide ((34 - ((35:Nat):Int)) ≥ 0)) = false:=by decide
   simp -implicitDefEqProofs (maxSteps:=1000000) (disch:=omega) only [↓zzP,zzA,zzL,reduceIte,reduceCtorEq,Nat.reduceLT,↓reduceIte,Nat.reduceEqDiff,↓gd,↓opP,↓qv,slot,putS,putO,ofV,convS,binH,binS2,binS,f3]
   exact intoR_take [] rfl rfl trivial (by simp [slot,lkL,fixed,rg,renH,chEq,lookH,eqvL,eqv,eqvF,rnmL,rnm,liveN,Chunk.live,goodH,Chunk.good,okL,ok,sz,szL,storL,stor,renT,okT]) hK
  ·have f3:(decide ((34 - (k:Int)) ≥ 0)) = true:=by simp; omega
   have f4:IntKind.u64.wrap (34 - (k:Int)) = ((34 - k:Nat):Int):=by
    rw [show (34:Int) - k = ((34 - k:Nat):Int) by omega]
    exact Go.Sx.wrap_small (k:=.u64) rfl (by omega) (by rw [show IntKind.u64.bits = 64 from rfl]; omega)
   have f5:shlS .u64 1 ((34 - k:Nat):Int) = nat (1#64 <<< (34 - k)):=shl64 1#64 (34 - k) (by omega)
   have f6:IntKind.i64.wrap (34 - (k:Int) - 1) = 34 - ((k+1:Nat):Int):=by rw [wrap64 (by omega) (by omega)]; omega
   simp -implicitDefEqProofs (maxSteps:=1000000) (disch:=omega) only [↓zzP,zzA,zzL,reduceIte,reduceCtorEq,Nat.reduceLT,↓reduceIte,Nat.reduceEqDiff,↓gd,↓opP,↓qv,slot,putS,putO,ofV,convS,binH,binS2,binS,f3,f4,f5]
   refine ⟨by omega,c69 _ _ _ _ ?_⟩
   simp -implicitDefEqProofs (maxSteps:=1000000) (disch:=omega) only [↓zzP,zzA,reduceIte,Nat.reduceLT,↓reduceIte,Nat.reduceEqDiff,Nat.reduceAdd,↓gd,↓opP,↓qv,slot,putS,putO]
   refine c69 _ _ _ _ ?_
   simp -implicitDefEqProofs (maxSteps:=1000000) (disch:=omega) only [↓zzP,zzA,zzL,reduceIte,reduceCtorEq,Nat.reduceLT,Int.reduceLE,↓reduceIte,Nat.reduceEqDiff,Nat.reduceAdd,Int.reduceToNat,Array.reduceGetElem?,↓gd,↓opP,↓qv,slot,putS,putO,ofV,binH,binS2,binS,f6]
   obtain ⟨y,hy⟩:∃ y,y = rootX p k ||| 1#64 <<< (34 - k):=⟨_,rfl⟩
   simp only [← hy]
   have hx:rootX p (k+1) = if rTest p y then y else rootX p k:=by rw [hy]; rfl
   simp only [rTest] at hx
   clear hy
   refine ⟨Sx.imp_intro fun hA=>⟨Sx.imp_intro fun hB=>⟨Sx.imp_intro fun hC=>?_,Sx.imp_intro fun hC=>?_⟩,Sx.imp_intro fun hB=>?_⟩,Sx.imp_intro fun hA=>?_⟩
   all_goals
    simp only [*,Bool.true_or,Bool.false_or,Bool.true_and,Bool.false_and,Bool.and_true,if_true,Bool.false_eq_true,if_false] at hx
    refine into_mk [] [(0,.int .u64 (nat p)),(3,.int .u64 (nat (rootX p (k+1)))),(4,.int .i64 (34 - (k+1:Nat)))] [] ?_ ?_ ?_ ?_ ?_ ?_ ?_ ?_
    ·simp [slot,lkL,fixed,rg,renH,chEq,lookH,eqvL,eqv,eqvF,rnmL,rnm,liveN,Chunk.live,goodH,Chunk.good,okL,ok,sz,szL,storL,stor,renT,okT]
    ·simp [slot,lkL,fixed,rg,renH,chEq,lookH,eqvL,eqv,eqvF,rnmL,rnm,liveN,Chunk.live,goodH,Chunk.good,okL,ok,sz,szL,storL,stor,renT,okT]
    ·simp [slot,lkL,fixed,rg,renH,chEq,lookH,eqvL,eqv,eqvF,rnmL,rnm,liveN,Chunk.live,goodH,Chunk.good,okL,ok,sz,szL,storL,stor,renT,okT]
    ·simp [slot,lkL,fixed,rg,renH,chEq,lookH,eqvL,eqv,eqvF,rnmL,rnm,liveN,Chunk.live,goodH,Chunk.good,okL,ok,sz,szL,storL,stor,renT,okT]
    ·simp [slot,lkL,fixed,rg,renH,chEq,lookH,eqvL,eqv,eqvF,rnmL,rnm,liveN,Chunk.live,goodH,Chunk.good,okL,ok,sz,szL,storL,stor,renT,okT]
    ·simp [slot,lkL,fixed,rg,renH,chEq,lookH,eqvL,eqv,eqvF,rnmL,rnm,liveN,Chunk.live,goodH,Chunk.good,okL,ok,sz,szL,storL,stor,renT,okT]
     rw [hx]
    ·simp [slot,lkL,fixed,rg,renH,chEq,lookH,eqvL,eqv,eqvF,rnmL,rnm,liveN,Chunk.live,goodH,Chunk.good,okL,ok,sz,szL,storL,stor,renT,okT]
    ·intro j
     exact ⟨m - 1,by omega,k+1,j,by omega,rfl⟩
theorem c56 (p:BitVec 64) {h:List Chunk} (K:Tok→SV→List Chunk→Prop) (hK:K .mk (.int .u32 (nat ((rootX p 35).setWidth 32))) h):callP Try.prog 152 [.int .u64 (nat p)] h K:=by
 refine callP_frame (argsL:=[.int .u64 (nat p)]) (KL:=fun _ v h'=>v = .int .u32 (nat ((rootX p 35).setWidth 32))∧h' = []) [] (c56l p _ ⟨rfl,rfl⟩) List.nodup_nil trivial trivial (by simp [slot,lkL,fixed,rg,renH,chEq,lookH,eqvL,eqv,eqvF,rnmL,rnm,liveN,Chunk.live,goodH,Chunk.good,okL,ok,sz,szL,storL,stor,renT,okT,has,upG,up,nth,roOk,keepsLive,Chunk.wr,lay,rnmC,putH]) rfl ?_
 rintro v h' ⟨rfl,rfl⟩
 refine ⟨by simp [slot,lkL,fixed,rg,renH,chEq,lookH,eqvL,eqv,eqvF,rnmL,rnm,liveN,Chunk.live,goodH,Chunk.good,okL,ok,sz,szL,storL,stor,renT,okT,has,upG,up,nth,roOk,keepsLive,Chunk.wr,lay,rnmC,putH],trivial,?_⟩
 simpa [rnm,lay] using hK
def primeL:List (BitVec 64):=[2,3,5,7,11,13,17,19,23,29,31,37,41,43,47,53,59,61,67,71,73,79,83,89,97,101,103,107,109,113,127,131,137,139,149,151,157,163,167,173,179,181,191,193,197,199,211,223,227,229,233,239,241,251,257,263,269,271,277,281,283,293,307,311]
def primeB (i:Nat):BitVec 64:=primeL.getD i 0
end Go.Proofs.Ytgocfglmideobaa.S
set_option linter.all false
set_option maxRecDepth 40000
namespace Go.Proofs.Ytgocfglmideobaa.S
open Go Go.Sx
def cntP (p:Nat):Nat:=(primeL.filter fun q=>decide (q.toNat < p)).length
def allP (p k:Nat):Bool:=decide (∀ q,q < k→p % (primeB q).toNat ≠ 0)
theorem prime_yes:∀ p,p < 312→2≤p→allP p (cntP p) = true→(primeB (cntP p)).toNat = p∧cntP (p+1) = cntP p+1:=by decide +kernel
theorem prime_no:∀ p,p < 312→2≤p→allP p (cntP p) = false→cntP (p+1) = cntP p:=by decide +kernel
theorem prime_more:∀ p,p < 312→cntP p < 64:=by decide +kernel
theorem prime_end:cntP 312 = 64:=by decide +kernel
theorem prime_pos:∀ i,i < 64→0 < (primeB i).toNat:=by decide +kernel
theorem cnt2:cntP 2 = 0:=by decide +kernel
theorem res55:Try.f151.results.toList = [.cell 0 180]:=rfl
set_option maxHeartbeats 4000000 in
theorem c55l (K:Tok→SV→List Chunk→Prop) (hK:K .mk (.fam 64 1 fun i=>.int .u64 (nat (primeB i))) []):callP Try.prog 151 [] [] K:=by
 refine callP_of_code tabOk Try.func151 (by kernel_rfl) rfl (Nat.le_of_ble_eq_true rfl) (codeP_of_vc (pl:=np) tabOk follows_mixed (by kernel_rfl) ?_)
 rw [Try.ntmps151]
 simp -implicitDefEqProofs (maxSteps:=1000000) (disch:=omega) only [↓zzP,zzA,zzL,reduceIte,reduceCtorEq,Nat.reduceLT,↓reduceIte,↓gd,↓opP,↓qv,↓ef,slot,putS,putO,ofV,parts,asRow,rdF,Ent.row,ldS,tupS,res55]
 refine codeP_loop (pl:=np) tabOk follows_mixed (by kernel_rfl) (fun m s=>∃ (p:Nat) (j:Nat→Value),p+m = 312∧2≤p∧s = ⟨⟨33,[(0,.ptr 0 0),(1,.ptr 1 0),(2,.int .i64 (cntP p:Nat)),(3,.int .u64 (p:Nat))],j⟩,[.cells true [.fam 64 1 fun _=>.int .u64 0],.cells true [.fam 64 1 fun i=>.int .u64 (nat (if i < cntP p then primeB i else 0))]],[]⟩) ?_ ?_
 ·refine into_mk [some 0,some 1] [(0,.ptr 0 0),(1,.ptr 1 0),(2,.int .i64 (cntP 2:Nat)),(3,.int .u64 (2:Nat))] [.cells true [.fam 64 1 fun _=>.int .u64 0],.cells true [.fam 64 1 fun i=>.int .u64 (nat (if i < cntP 2 then primeB i else 0))]] ?_ ?_ ?_ ?_ ?_ ?_ ?_ ?_
  ·simp [slot,lkL,fixed,rg,renH,chEq,lookH,eqvL,eqv,eqvF,rnmL,rnm,liveN,Chunk.live,goodH,Chunk.good,okL,ok,sz,szL,storL,stor,renT,okT]
  ·simp [slot,lkL,fixed,rg,renH,chEq,lookH,eqvL,eqv,eqvF,rnmL,rnm,liveN,Chunk.live,goodH,Chunk.good,okL,ok,sz,szL,storL,stor,renT,okT]
  ·simp [slot,lkL,fixed,rg,renH,chEq,lookH,eqvL,eqv,eqvF,rnmL,rnm,liveN,Chunk.live,goodH,Chunk.good,okL,ok,sz,szL,storL,stor,renT,okT,cnt2,nat]
  ·simp [slot,lkL,fixed,rg,renH,chEq,lookH,eqvL,eqv,eqvF,rnmL,rnm,liveN,Chunk.live,goodH,Chunk.good,okL,ok,sz,szL,storL,stor,renT,okT]
  ·simp [slot,lkL,fixed,rg,renH,chEq,lookH,eqvL,eqv,eqvF,rnmL,rnm,liveN,Chunk.live,goodH,Chunk.good,okL,ok,sz,szL,storL,stor,renT,okT]
  ·simp [slot,lkL,fixed,rg,renH,chEq,lookH,eqvL,eqv,eqvF,rnmL,rnm,liveN,Chunk.live,goodH,Chunk.good,okL,ok,sz,szL,storL,stor,renT,okT,cnt2]
  ·simp [slot,lkL,fixed,rg,renH,chEq,lookH,eqvL,eqv,eqvF,rnmL,rnm,liveN,Chunk.live,goodH,Chunk.good,okL,ok,sz,szL,storL,stor,renT,okT]
  ·intro j
   exact ⟨310,2,j,by omega,by omega,rfl⟩
 ·rintro m s ⟨p,j,hp,hp2,rfl⟩
  obtain ⟨N,hN⟩:∃ N,N = cntP p:=⟨_,rfl⟩
  rw [← hN]
  simp -implicitDefEqProofs (maxSteps:=1000000) (disch:=omega) only [↓zzP,zzA,zzL,reduceIte,reduceCtorEq,Nat.reduceLT,↓reduceIte,Nat.reduceEqDiff,Nat.reduceLeDiff,↓gd,↓opP,↓qv,↓ef,↓stS,slot,putS,putO,ofV,bnd,slS,lenS,parts,asRow,rdF,Ent.row,ldS,sz,wrF,binH,binS2,binS,stor]
  refine ⟨Sx.imp_intro fun hc=>?_,Sx.imp_intro fun hc=>?_⟩
  ·have hN64:N < 64:=by have:=of_decide_eq_true hc; omega
   have hp312:p < 312:=by
    rcases Nat.lt_or_ge p 312 with h | h
    ·exact h
    ·have h2:p = 312:=by omega
     rw [h2,prime_end] at hN
     omega
   have hm0:0 < m:=by omega
   refine ⟨by omega,?_⟩
   refine codeP_loop (pl:=np) tabOk follows_mixed (by kernel_rfl) (fun m' s=>∃ (k:Nat) (j:Nat→Value),k+m' = N∧s = ⟨⟨33,[(0,.ptr 0 0),(1,.ptr 1 0),(2,.int .i64 (N:Nat)),(3,.int .u64 (p:Nat)),(4,.bool (allP p k)),(12,.sl 1 0 0 1 N 64),(13,.int .i64 (N:Nat)),(14,.int .i64 (k:Nat))],j⟩,[.cells true [.fam 64 1 fun _=>.int .u64 0],.cells true [.fam 64 1 fun i=>.int .u64 (nat (if i < N then primeB i else 0))]],[]⟩) ?_ ?_
   ·refine into_mk [some 0,some 1] [(0,.ptr 0 0),(1,.ptr 1 0),(2,.int .i64 (N:Nat)),(3,.int .u64 (p:Nat)),(4,.bool (allP p 0)),(12,.sl 1 0 0 1 N 64),(13,.int .i64 (N:Nat)),(14,.int .i64 (0:Nat))] [.cells true [.fam 64 1 fun _=>.int .u64 0],.cells true [.fam 64 1 fun i=>.int .u64 (nat (if i < N then primeB i else 0))]] ?_ ?_ ?_ ?_ ?_ ?_ ?_ ?_
    ·simp [slot,lkL,fixed,rg,renH,chEq,lookH,eqvL,eqv,eqvF,rnmL,rnm,liveN,Chunk.live,goodH,Chunk.good,okL,ok,sz,szL,storL,stor,renT,okT]
    ·simp [slot,lkL,fixed,rg,renH,chEq,lookH,eqvL,eqv,eqvF,rnmL,rnm,liveN,Chunk.live,goodH,Chunk.good,okL,ok,sz,szL,storL,stor,renT,okT]
    ·simp [slot,lkL,fixed,rg,renH,chEq,lookH,eqvL,eqv,eqvF,rnmL,rnm,liveN,Chunk.live,goodH,Chunk.good,okL,ok,sz,szL,storL,stor,renT,okT]
    ·simp [slot,lkL,fixed,rg,renH,chEq,lookH,eqvL,eqv,eqvF,rnmL,rnm,liveN,Chunk.live,goodH,Chunk.good,okL,ok,sz,szL,storL,stor,renT,okT]
    ·simp [slot,lkL,fixed,rg,renH,chEq,lookH,eqvL,eqv,eqvF,rnmL,rnm,liveN,Chunk.live,goodH,Chunk.good,okL,ok,sz,szL,storL,stor,renT,okT]
    ·simp [slot,lkL,fixed,rg,renH,chEq,lookH,eqvL,eqv,eqvF,rnmL,rnm,liveN,Chunk.live,goodH,Chunk.good,okL,ok,sz,szL,storL,stor,renT,okT,allP]
    ·simp [slot,lkL,fixed,rg,renH,chEq,lookH,eqvL,eqv,eqvF,rnmL,rnm,liveN,Chunk.live,goodH,Chunk.good,okL,ok,sz,szL,storL,stor,renT,okT]
    ·intro j
     exact ⟨N,0,j,by omega,rfl⟩
   ·rintro m' s ⟨k,j2,hk,rfl⟩
    have a0:IntKind.i64.wrap ((k:Int)+1) = ((k+1:Nat):Int):=by rw [wrap64 (by omega) (by omega)]; omega
    have a1:IntKind.i64.wrap ((N:Int)+1) = ((N+1:Nat):Int):=by rw [wrap64 (by omega) (by omega)]; omega
    have a2:IntKind.u64.wrap ((p:Int)+1) = ((p+1:Nat):Int):=Go.Sx.wrap_small (k:=.u64) rfl (by omega) (by rw [show IntKind.u64.bits = 64 from rfl]; omega)
    simp -implicitDefEqProofs (maxSteps:=1000000) (disch:=omega) only [↓zzP,zzA,zzL,reduceIte,reduceCtorEq,Nat.reduceLT,↓reduceIte,Nat.reduceEqDiff,Array.reduceGetElem?,↓gd,↓opP,↓qv,↓ef,↓stS,slot,putS,putO,ofV,idxA,parts,single,rdF,Ent.row,ldS,sz,binH,binS2,binS,stor,a0,a1,a2]
    refine ⟨Sx.imp_intro fun hc2=>?_,Sx.imp_intro fun hc2=>?_⟩
    ·have hkN:k < N:=by have:=of_decide_eq_true hc2; omega
     have hpos:=prime_pos k (by omega)
     have hv:nat (if k < N then primeB k else 0) = ((primeB k).toNat:Int):=by simp only [hkN,if_true]; rfl
     have hr:((p:Int).tmod (nat (if k < N then primeB k else 0)) != 0) = decide (p % (primeB k).toNat ≠ 0):=by
      rw [hv,Int.tmod_eq_emod_of_nonneg (by omega),← Int.natCast_emod]
      rw [Bool.eq_iff_iff]
      simp only [bne_iff_ne,ne_eq,decide_eq_true_eq]
      omega
     have hs:allP p (k+1) = (allP p k && decide (p % (primeB k).toNat ≠ 0)):=by
      rw [Bool.eq_iff_iff]
      simp only [allP,Bool.and_eq_true,decide_eq_true_eq]
      constructor
      ·exact fun h=>⟨fun q hq=>h q (by omega),h k (by omega)⟩
      ·rintro ⟨h1,h2⟩ q hq
       by_cases e:q = k
       ·exact e ▸ h2
       ·exact h1 q (by omega)
     refine ⟨by omega,by omega,Sx.imp_intro fun hA=>⟨by rw [hv]; omega,?_⟩,Sx.imp_intro fun hA=>?_⟩
     ·rw [hr]
      refine into_mk [some 0,some 1] [(0,.ptr 0 0),(1,.ptr 1 0),(2,.int .i64 (N:Nat)),(3,.int .u64 (p:Nat)),(4,.bool (allP p (k+1))),(12,.sl 1 0 0 1 N 64),(13,.int .i64 (N:Nat)),(14,.int .i64 (k+1:Nat))] [.cells true [.fam 64 1 fun _=>.int .u64 0],.cells true [.fam 64 1 fun i=>.int .u64 (nat (if i < N then primeB i else 0))]] ?_ ?_ ?_ ?_ ?_ ?_ ?_ ?_
      ·simp [slot,lkL,fixed,rg,renH,chEq,lookH,eqvL,eqv,eqvF,rnmL,rnm,liveN,Chunk.live,goodH,Chunk.good,okL,ok,sz,szL,storL,stor,renT,okT]
      ·simp [slot,lkL,fixed,rg,renH,chEq,lookH,eqvL,eqv,eqvF,rnmL,rnm,liveN,Chunk.live,goodH,Chunk.good,okL,ok,sz,szL,storL,stor,renT,okT]
      ·simp [slot,lkL,fixed,rg,renH,chEq,lookH,eqvL,eqv,eqvF,rnmL,rnm,liveN,Chunk.live,goodH,Chunk.good,okL,ok,sz,szL,storL,stor,renT,okT]
      ·simp [slot,lkL,fixed,rg,renH,chEq,lookH,eqvL,eqv,eqvF,rnmL,rnm,liveN,Chunk.live,goodH,Chunk.good,okL,ok,sz,szL,storL,stor,renT,okT]
      ·simp [slot,lkL,fixed,rg,renH,chEq,lookH,eqvL,eqv,eqvF,rnmL,rnm,liveN,Chunk.live,goodH,Chunk.good,okL,ok,sz,szL,storL,stor,renT,okT]
      ·simp [slot,lkL,fixed,rg,renH,chEq,lookH,eqvL,eqv,eqvF,rnmL,rnm,liveN,Chunk.live,goodH,Chunk.good,okL,ok,sz,szL,storL,stor,renT,okT,hs,hA]
      ·simp [slot,lkL,fixed,rg,renH,chEq,lookH,eqvL,eqv,eqvF,rnmL,rnm,liveN,Chunk.live,goodH,Chunk.good,okL,ok,sz,szL,storL,stor,renT,okT]
      ·intro j
       exact ⟨m' - 1,by omega,k+1,j,by omega,rfl⟩
     ·refine into_mk [some 0,some 1] [(0,.ptr 0 0),(1,.ptr 1 0),(2,.int .i64 (N:Nat)),(3,.int .u64 (p:Nat)),(4,.bool (allP p (k+1))),(12,.sl 1 0 0 1 N 64),(13,.int .i64 (N:Nat)),(14,.int .i64 (k+1:Nat))] [.cells true [.fam 64 1 fun _=>.int .u64 0],.cells true [.fam 64 1 fun i=>.int .u64 (nat (if i < N then primeB i else 0))]] ?_ ?_ ?_ ?_ ?_ ?_ ?_ ?_
      ·simp [slot,lkL,fixed,rg,renH,chEq,lookH,eqvL,eqv,eqvF,rnmL,rnm,liveN,Chunk.live,goodH,Chunk.good,okL,ok,sz,szL,storL,stor,renT,okT]
      ·simp [slot,lkL,fixed,rg,renH,chEq,lookH,eqvL,eqv,eqvF,rnmL,rnm,liveN,Chunk.live,goodH,Chunk.good,okL,ok,sz,szL,storL,stor,renT,okT]
      ·simp [slot,lkL,fixed,rg,renH,chEq,lookH,eqvL,eqv,eqvF,rnmL,rnm,liveN,Chunk.live,goodH,Chunk.good,okL,ok,sz,szL,storL,stor,renT,okT]
      ·simp [slot,lkL,fixed,rg,renH,chEq,lookH,eqvL,eqv,eqvF,rnmL,rnm,liveN,Chunk.live,goodH,Chunk.good,okL,ok,sz,szL,storL,stor,renT,okT]
      ·simp [slot,lkL,fixed,rg,renH,chEq,lookH,eqvL,eqv,eqvF,rnmL,rnm,liveN,Chunk.live,goodH,Chunk.good,okL,ok,sz,szL,storL,stor,renT,okT]
      ·simp [slot,lkL,fixed,rg,renH,chEq,lookH,eqvL,eqv,eqvF,rnmL,rnm,liveN,Chunk.live,goodH,Chunk.good,okL,ok,sz,szL,storL,stor,renT,okT,hs,hA]
      ·simp [slot,lkL,fixed,rg,renH,chEq,lookH,eqvL,eqv,eqvF,rnmL,rnm,liveN,Chunk.live,goodH,Chunk.good,okL,ok,sz,szL,storL,stor,renT,okT]
      ·intro j
       exact ⟨m' - 1,by omega,k+1,j,by omega,rfl⟩
    ·have hkN:k = N:=by have:=of_decide_eq_false hc2; omega
     subst hkN
     refine ⟨Sx.imp_intro fun hA=>⟨by omega,hN64,?_⟩,Sx.imp_intro fun hA=>?_⟩
     ·obtain ⟨h1,h2⟩:=prime_yes p hp312 hp2 (hN ▸ hA)
      rw [← hN] at h1 h2
      refine into_mk [some 0,some 1] [(0,.ptr 0 0),(1,.ptr 1 0),(2,.int .i64 (cntP (p+1):Nat)),(3,.int .u64 (p+1:Nat))] [.cells true [.fam 64 1 fun _=>.int .u64 0],.cells true [.fam 64 1 fun i=>.int .u64 (nat (if i < cntP (p+1) then primeB i else 0))]] ?_ ?_ ?_ ?_ ?_ ?_ ?_ ?_
      ·simp [slot,lkL,fixed,rg,renH,chEq,lookH,eqvL,eqv,eqvF,rnmL,rnm,liveN,Chunk.live,goodH,Chunk.good,okL,ok,sz,szL,storL,stor,renT,okT]
      ·simp [slot,lkL,fixed,rg,renH,chEq,lookH,eqvL,eqv,eqvF,rnmL,rnm,liveN,Chunk.live,goodH,Chunk.good,okL,ok,sz,szL,storL,stor,renT,okT]
      ·simp [slot,lkL,fixed,rg,renH,chEq,lookH,eqvL,eqv,eqvF,rnmL,rnm,liveN,Chunk.live,goodH,Chunk.good,okL,ok,sz,szL,storL,stor,renT,okT]
       intro i hi
       rw [h2]
       by_cases h:i = k
       ·subst h
        have h3:(p:Int) = nat (primeB i):=by simp only [nat]; omega
        simp [eqv,h3]
       ·have e:(i < k+1) = (i < k):=by simp only [eq_iff_iff]; omega
        simp only [h,if_false,e,eqv]
      ·simp [slot,lkL,fixed,rg,renH,chEq,lookH,eqvL,eqv,eqvF,rnmL,rnm,liveN,Chunk.live,goodH,Chunk.good,okL,ok,sz,szL,storL,stor,renT,okT]
      ·simp [slot,lkL,fixed,rg,renH,chEq,lookH,eqvL,eqv,eqvF,rnmL,rnm,liveN,Chunk.live,goodH,Chunk.good,okL,ok,sz,szL,storL,stor,renT,okT]
      ·simp [slot,lkL,fixed,rg,renH,chEq,lookH,eqvL,eqv,eqvF,rnmL,rnm,liveN,Chunk.live,goodH,Chunk.good,okL,ok,sz,szL,storL,stor,renT,okT,h2]
      ·simp [slot,lkL,fixed,rg,renH,chEq,lookH,eqvL,eqv,eqvF,rnmL,rnm,liveN,Chunk.live,goodH,Chunk.good,okL,ok,sz,szL,storL,stor,renT,okT]
      ·intro j
       exact ⟨m - 1,by omega,p+1,j,by omega,by omega,rfl⟩
     ·have h2:=prime_no p hp312 hp2 (hN ▸ hA)
      rw [← hN] at h2
      refine into_mk [some 0,some 1] [(0,.ptr 0 0),(1,.ptr 1 0),(2,.int .i64 (cntP (p+1):Nat)),(3,.int .u64 (p+1:Nat))] [.cells true [.fam 64 1 fun _=>.int .u64 0],.cells true [.fam 64 1 fun i=>.int .u64 (nat (if i < cntP (p+1) then primeB i else 0))]] ?_ ?_ ?_ ?_ ?_ ?_ ?_ ?_
      ·simp [slot,lkL,fixed,rg,renH,chEq,lookH,eqvL,eqv,eqvF,rnmL,rnm,liveN,Chunk.live,goodH,Chunk.good,okL,ok,sz,szL,storL,stor,renT,okT]
      ·simp [slot,lkL,fixed,rg,renH,chEq,lookH,eqvL,eqv,eqvF,rnmL,rnm,liveN,Chunk.live,goodH,Chunk.good,okL,ok,sz,szL,storL,stor,renT,okT]
      ·simp [slot,lkL,fixed,rg,renH,chEq,lookH,eqvL,eqv,eqvF,rnmL,rnm,liveN,Chunk.live,goodH,Chunk.good,okL,ok,sz,szL,storL,stor,renT,okT,h2]
      ·simp [slot,lkL,fixed,rg,renH,chEq,lookH,eqvL,eqv,eqvF,rnmL,rnm,liveN,Chunk.live,goodH,Chunk.good,okL,ok,sz,szL,storL,stor,renT,okT]
      ·simp [slot,lkL,fixed,rg,renH,chEq,lookH,eqvL,eqv,eqvF,rnmL,rnm,liveN,Chunk.live,goodH,Chunk.good,okL,ok,sz,szL,storL,stor,renT,okT]
      ·simp [slot,lkL,fixed,rg,renH,chEq,lookH,eqvL,eqv,eqvF,rnmL,rnm,liveN,Chunk.live,goodH,Chunk.good,okL,ok,sz,szL,storL,stor,renT,okT,h2]
      ·simp [slot,lkL,fixed,rg,renH,chEq,lookH,eqvL,eqv,eqvF,rnmL,rnm,liveN,Chunk.live,goodH,Chunk.good,okL,ok,sz,szL,storL,stor,renT,okT]
      ·intro j
       exact ⟨m - 1,by omega,p+1,j,by omega,by omega,rfl⟩
  ·have hN64:N = 64:=by
    have h1:=of_decide_eq_false hc
    rcases Nat.lt_or_ge p 312 with h | h
    ·have:=prime_more p h
     omega
    ·have h2:p = 312:=by omega
     rw [hN,h2,prime_end]
   subst hN64
   refine intoR_mk [] (.fam 64 1 fun i=>.int .u64 (nat (primeB i))) [] ?_ ?_ ?_ ?_ ?_ ?_ ?_ hK
   ·simp [slot,lkL,fixed,rg,renH,chEq,lookH,eqvL,eqv,eqvF,rnmL,rnm,liveN,Chunk.live,goodH,Chunk.good,okL,ok,sz,szL,storL,stor,renT,okT]
   ·simp [slot,lkL,fixed,rg,renH,chEq,lookH,eqvL,eqv,eqvF,rnmL,rnm,liveN,Chunk.live,goodH,Chunk.good,okL,ok,sz,szL,storL,stor,renT,okT]
   ·simp [slot,lkL,fixed,rg,renH,chEq,lookH,eqvL,eqv,eqvF,rnmL,rnm,liveN,Chunk.live,goodH,Chunk.good,okL,ok,sz,szL,storL,stor,renT,okT]
   ·simp [slot,lkL,fixed,rg,renH,chEq,lookH,eqvL,eqv,eqvF,rnmL,rnm,liveN,Chunk.live,goodH,Chunk.good,okL,ok,sz,szL,storL,stor,renT,okT]
   ·simp [slot,lkL,fixed,rg,renH,chEq,lookH,eqvL,eqv,eqvF,rnmL,rnm,liveN,Chunk.live,goodH,Chunk.good,okL,ok,sz,szL,storL,stor,renT,okT]
   ·simp [slot,lkL,fixed,rg,renH,chEq,lookH,eqvL,eqv,eqvF,rnmL,rnm,liveN,Chunk.live,goodH,Chunk.good,okL,ok,sz,szL,storL,stor,renT,okT]
    intro i hi
    simp [hi]
   ·simp [slot,lkL,fixed,rg,renH,chEq,lookH,eqvL,eqv,eqvF,rnmL,rnm,liveN,Chunk.live,goodH,Chunk.good,okL,ok,sz,szL,storL,stor,renT,okT]
theorem c55 {h:List Chunk} (K:Tok→SV→List Chunk→Prop) (hK:K .mk (.fam 64 1 fun i=>.int .u64 (nat (primeB i))) h):callP Try.prog 151 [] h K:=by
 refine callP_frame (argsL:=[]) (KL:=fun _ v h'=>v = .fam 64 1 (fun i=>.int .u64 (nat (primeB i)))∧h' = []) [] (c55l _ ⟨rfl,rfl⟩) List.nodup_nil trivial trivial (by simp [slot,lkL,fixed,rg,renH,chEq,lookH,eqvL,eqv,eqvF,rnmL,rnm,liveN,Chunk.live,goodH,Chunk.good,okL,ok,sz,szL,storL,stor,renT,okT,has,upG,up,nth,roOk,keepsLive,Chunk.wr,lay,rnmC,putH]) rfl ?_
 rintro v h' ⟨rfl,rfl⟩
 refine ⟨by simp [slot,lkL,fixed,rg,renH,chEq,lookH,eqvL,eqv,eqvF,rnmL,rnm,liveN,Chunk.live,goodH,Chunk.good,okL,ok,sz,szL,storL,stor,renT,okT,has,upG,up,nth,roOk,keepsLive,Chunk.wr,lay,rnmC,putH],trivial,?_⟩
 simpa [rnm,lay] using hK
end Go.Proofs.Ytgocfglmideobaa.S
set_option linter.all false
set_option maxRecDepth 40000
namespace Go.Proofs.Ytgocfglmideobaa.S
open Go Go.Sx
theorem res57:Try.f153.results.toList = [.cell 6 183]:=rfl
end Go.Proofs.Ytgocfglmideobaa.S
set_option linter.all false
set_option maxRecDepth 40000
namespace Go.Proofs.Ytgocfglmideobaa.S
open Go Go.Sx
end Go.Proofs.Ytgocfglmideobaa.S
set_option linter.all false
set_option maxRecDepth 40000
namespace Go.Proofs.Ytgocfglmideobaa.S
open Go Go.Sx
end Go.Proofs.Ytgocfglmideobaa.S
set_option linter.all false
set_option maxRecDepth 40000
namespace Go.Proofs.Ytgocfglmideobaa.S
open Go Go.Sx
theorem famEq_refl (m:Nat) (f:Nat→SV):famEq m f f = true:=decide_eq_true fun _ _=>rfl
theorem c20F (m len:Nat) (B:Nat→BitVec 8) (f:Nat→SV) (hf:∀ i,i < m→f i = .int .u8 (nat (B i))) (hm:len≤m) (hl:len≤70368744177664) {h:List Chunk} {nm:Nat} (wr:Bool) (hh:lookH h nm = .row wr m 1 f) (hnm:nm < h.length) (F:Nat→SV) (hF:(fun i=>SV.int .u8 (nat (shaD len B i))) = F) (K:Tok→SV→List Chunk→Prop)
  (hK:K .mk (.fam 32 1 F) h):callP Try.prog 116 [.osl nm 0 0 1 len] h K:=c20' m len B f hf hm hl wr hh hnm K (hF ▸ hK)
end Go.Proofs.Ytgocfglmideobaa.S
set_option linter.all false
set_option maxRecDepth 40000
namespace Go.Proofs.Ytgocfglmideobaa.S
open Go Go.Sx
def keyB (key:Int) (j:Nat):BitVec 8:=((BitVec.ofInt 64 key) >>> (8 * (7 - j))).setWidth 8
def sigH (key:Int) (i:Nat):BitVec 8:=if i = 0 then 4 else keyB key (i - 1)
def sigT (key:Int) (B:Nat→BitVec 8) (i:Nat):BitVec 8:=if i < 9 then sigH key i else B (i - 9)
theorem wrap_key (key:Int):IntKind.u64.wrap key = nat (BitVec.ofInt 64 key):=by
 rw [wrapU rfl]
 simp only [nat,BitVec.toNat_ofInt]
 rw [show (2:Int) ^ IntKind.u64.bits = ((2 ^ 64:Nat):Int) from rfl]
 omega
theorem res25:Try.f99.results.toList = [.cell 4 29]:=rfl
set_option maxHeartbeats 4000000 in
theorem c25l (key:Int) (m len:Nat) (B:Nat→BitVec 8) (hm:len≤m) (hl:len≤70368744177000) (K:Tok→SV→List Chunk→Prop)
  (hK:K .mk (.agg [.int .i64 key,.fam 32 1 fun i=>.int .u8 (nat (shaD (9+len) (sigT key B) i))]) [.row false m 1 fun i=>.int .u8 (nat (B i))]) :
  callP Try.prog 99 [.int .i64 key,.osl 0 0 0 1 len] [.row false m 1 fun i=>.int .u8 (nat (B i))] K:=by
 refine callP_of_code tabOk Try.func99 (by kernel_rfl) rfl (Nat.le_of_ble_eq_true rfl) (codeP_of_vc (pl:=np) tabOk follows_mixed (by kernel_rfl) ?_)
 rw [Try.ntmps99]
 have f0:=wrap_key key
 simp -implicitDefEqProofs (maxSteps:=1000000) (disch:=omega) only [↓zzP,zzA,zzL,reduceIte,reduceCtorEq,Nat.reduceLT,↓reduceIte,Nat.reduceLeDiff,Nat.reduceAdd,↓gd,↓opP,↓qv,↓ef,↓bslS,slot,putS,putO,ofV,parts,asRow,rdF,Ent.row,ldS,sz,tupS,stor,res25]
 refine codeP_loop (pl:=np) tabOk follows_mixed (by kernel_rfl) (fun k' s=>∃ (k:Nat) (j:Nat→Value),k+k' = 8∧s = ⟨⟨27,[(0,.int .i64 key),(1,.osl 0 0 0 1 len),(4,.ptr 1 0),(5,.osl 2 0 0 1 (1+k)),(6,.int .i64 (7 - (k:Nat)))],j⟩,[.row false m 1 fun i=>.int .u8 (nat (B i)),.cells true [.int .i64 0,.fam 32 1 fun _=>.int .u8 0],.row true (1+k) 1 fun i=>.int .u8 (nat (sigH key i))],[]⟩) ?_ ?_
 ·refine into_mk [some 0,some 1,some 2] [(0,.int .i64 key),(1,.osl 0 0 0 1 len),(4,.ptr 1 0),(5,.osl 2 0 0 1 (1+0)),(6,.int .i64 (7 - (0:Nat)))] [.row false m 1 fun i=>.int .u8 (nat (B i)),.cells true [.int .i64 0,.fam 32 1 fun _=>.int .u8 0],.row true (1+0) 1 fun i=>.int .u8 (nat (sigH key i))] ?_ ?_ ?_ ?_ ?_ ?_ ?_ ?_
  ·simp [slot,lkL,fixed,rg,renH,chEq,lookH,eqvL,eqv,eqvF,rnmL,rnm,liveN,Chunk.live,goodH,Chunk.good,okL,ok,sz,szL,storL,stor,renT,okT]
  ·simp [slot,lkL,fixed,rg,renH,chEq,lookH,eqvL,eqv,eqvF,rnmL,rnm,liveN,Chunk.live,goodH,Chunk.good,okL,ok,sz,szL,storL,stor,renT,okT]
  ·simp [slot,lkL,fixed,rg,renH,chEq,lookH,eqvL,eqv,eqvF,rnmL,rnm,liveN,Chunk.live,goodH,Chunk.good,okL,ok,sz,szL,storL,stor,renT,okT,sigH,Sx.look,nat]
  ·simp [slot,lkL,fixed,rg,renH,chEq,lookH,eqvL,eqv,eqvF,rnmL,rnm,liveN,Chunk.live,goodH,Chunk.good,okL,ok,sz,szL,storL,stor,renT,okT]
  ·simp [slot,lkL,fixed,rg,renH,chEq,lookH,eqvL,eqv,eqvF,rnmL,rnm,liveN,Chunk.live,goodH,Chunk.good,okL,ok,sz,szL,storL,stor,renT,okT]
  ·simp [slot,lkL,fixed,rg,renH,chEq,lookH,eqvL,eqv,eqvF,rnmL,rnm,liveN,Chunk.live,goodH,Chunk.good,okL,ok,sz,szL,storL,stor,renT,okT]
  ·simp [slot,lkL,fixed,rg,renH,chEq,lookH,eqvL,eqv,eqvF,rnmL,rnm,liveN,Chunk.live,goodH,Chunk.good,okL,ok,sz,szL,storL,stor,renT,okT]
  ·intro j
   exact ⟨8,0,j,by omega,rfl⟩
 ·rintro k' s ⟨k,j,hk,rfl⟩
  by_cases hk8:k = 8
  ·subst hk8
   have f3:(decide ((7 - ((8:Nat):Int)) ≥ 0)) = false:=by decide
   simp -implicitDefEqProofs (maxSteps:=1000000) (disch:=omega) only [↓zzP,zzA,zzL,reduceIte,reduceCtorEq,Nat.reduceLT,↓reduceIte,Nat.reduceEqDiff,Nat.reduceAdd,↓gd,↓opP,↓qv,↓ef,↓appS,slot,putS,putO,ofV,srcS,binH,binS2,binS,notInt,f3]
   have hrow:∀ i,i < 9+len→(if i < 9 then SV.int IntKind.u8 (nat (sigH key i)) else SV.int IntKind.u8 (nat (B (i - 9)))) = .int .u8 (nat (sigT key B i)):=fun i _=>by
    simp only [sigT]
    split <;> rfl
   obtain ⟨F,hF⟩:∃ F:Nat→SV,(fun i=>SV.int .u8 (nat (shaD (9+len) (sigT key B) i))) = F:=⟨_,rfl⟩
   have hF':∀ i,F i = .int .u8 (nat (shaD (9+len) (sigT key B) i)):=fun i=>by rw [← hF]
   rw [hF] at hK
   refine ⟨⟨hm,by omega,by omega⟩,c20F (9+len) (9+len) (sigT key B) _ hrow (by omega) (by omega) true rfl (by simp) F hF _ ?_⟩
   simp -implicitDefEqProofs (maxSteps:=1000000) (disch:=omega) only [↓zzP,zzA,zzL,Nat.reduceSub,reduceIte,reduceCtorEq,Nat.reduceLT,↓reduceIte,Nat.reduceEqDiff,Nat.reduceLeDiff,Nat.reduceAdd,↓gd,↓opP,↓qv,↓ef,↓stS,slot,putS,putO,parts,sz,wrF,plT,bldS,stor,hF']
   exact intoR_take [.row false m 1 fun i=>.int .u8 (nat (B i))] rfl rfl (by simp [slot,lkL,fixed,rg,renH,chEq,lookH,eqvL,eqv,eqvF,rnmL,rnm,liveN,Chunk.live,goodH,Chunk.good,okL,ok,sz,szL,storL,stor,renT,okT]) (by simp [slot,lkL,fixed,rg,renH,chEq,lookH,eqvL,eqv,eqvF,rnmL,rnm,liveN,Chunk.live,goodH,Chunk.good,okL,ok,sz,szL,storL,stor,renT,okT,hF']) hK
  ·have f1':IntKind.i64.wrap (8 * (7 - (k:Int))) = ((8 * (7 - k):Nat):Int):=by rw [wrap64 (by omega) (by omega)]; omega
   have f2:IntKind.i64.wrap ((7 - (k:Int)) - 1) = 7 - ((k+1:Nat):Int):=by rw [wrap64 (by omega) (by omega)]; omega
   have f3:(decide ((7 - (k:Int)) ≥ 0)) = true:=by simp; omega
   have f5:=shr64 (BitVec.ofInt 64 key) (8 * (7 - k)) (by omega)
   simp -implicitDefEqProofs (maxSteps:=1000000) (disch:=omega) only [↓zzP,zzA,zzL,reduceIte,reduceCtorEq,Nat.reduceLT,↓reduceIte,Nat.reduceEqDiff,Nat.reduceLeDiff,Nat.reduceAdd,↓gd,↓opP,↓qv,↓ef,↓bslS,↓appS,slot,putS,putO,ofV,convS,sz,srcS,binH,binS2,binS,stor,notInt,f0,f1',f2,f3,f5]
   and_intros <;> try omega
   refine into_mk [some 0,some 1,some 4] [(0,.int .i64 key),(1,.osl 0 0 0 1 len),(4,.ptr 1 0),(5,.osl 2 0 0 1 (1+(k+1))),(6,.int .i64 (7 - (k+1:Nat)))] [.row false m 1 fun i=>.int .u8 (nat (B i)),.cells true [.int .i64 0,.fam 32 1 fun _=>.int .u8 0],.row true (1+(k+1)) 1 fun i=>.int .u8 (nat (sigH key i))] ?_ ?_ ?_ ?_ ?_ ?_ ?_ ?_
   ·simp [slot,lkL,fixed,rg,renH,chEq,lookH,eqvL,eqv,eqvF,rnmL,rnm,liveN,Chunk.live,goodH,Chunk.good,okL,ok,sz,szL,storL,stor,renT,okT]
   ·simp [slot,lkL,fixed,rg,renH,chEq,lookH,eqvL,eqv,eqvF,rnmL,rnm,liveN,Chunk.live,goodH,Chunk.good,okL,ok,sz,szL,storL,stor,renT,okT]
   ·simp [slot,lkL,fixed,rg,renH,chEq,lookH,eqvL,eqv,eqvF,rnmL,rnm,liveN,Chunk.live,goodH,Chunk.good,okL,ok,sz,szL,storL,stor,renT,okT]
    refine ⟨by omega,fun i hi=>?_⟩
    by_cases h:i < 1+k
    ·simp [h,eqv]
    ·have h2:i = 1+k:=by omega
     subst h2
     simp [sigH,keyB,eqv,Sx.look]
   ·simp [slot,lkL,fixed,rg,renH,chEq,lookH,eqvL,eqv,eqvF,rnmL,rnm,liveN,Chunk.live,goodH,Chunk.good,okL,ok,sz,szL,storL,stor,renT,okT]
   ·simp [slot,lkL,fixed,rg,renH,chEq,lookH,eqvL,eqv,eqvF,rnmL,rnm,liveN,Chunk.live,goodH,Chunk.good,okL,ok,sz,szL,storL,stor,renT,okT]
   ·simp [slot,lkL,fixed,rg,renH,chEq,lookH,eqvL,eqv,eqvF,rnmL,rnm,liveN,Chunk.live,goodH,Chunk.good,okL,ok,sz,szL,storL,stor,renT,okT]
    try omega
   ·simp [slot,lkL,fixed,rg,renH,chEq,lookH,eqvL,eqv,eqvF,rnmL,rnm,liveN,Chunk.live,goodH,Chunk.good,okL,ok,sz,szL,storL,stor,renT,okT]
   ·intro j
    exact ⟨k' - 1,by omega,k+1,j,by omega,rfl⟩
theorem c25 (key:Int) (m len:Nat) (B:Nat→BitVec 8) (f:Nat→SV) (hf:∀ i,i < m→f i = .int .u8 (nat (B i))) (hm:len≤m) (hl:len≤70368744177000) {h:List Chunk} {nm:Nat} (wr:Bool) (hh:lookH h nm = .row wr m 1 f) (hnm:nm < h.length) (F:Nat→SV) (hF:(fun i=>SV.int .u8 (nat (shaD (9+len) (sigT key B) i))) = F) (K:Tok→SV→List Chunk→Prop)
  (hK:K .mk (.agg [.int .i64 key,.fam 32 1 F]) h):callP Try.prog 99 [.int .i64 key,.osl nm 0 0 1 len] h K:=by
 subst hF
 refine callP_frame (argsL:=[.int .i64 key,.osl 0 0 0 1 len]) (KL:=fun _ v h'=>v = .agg [.int .i64 key,.fam 32 1 fun i=>.int .u8 (nat (shaD (9+len) (sigT key B) i))]∧h' = [.row false m 1 fun i=>.int .u8 (nat (B i))]) [nm] (c25l key m len B hm hl _ ⟨rfl,rfl⟩) ?_ ?_ ?_ ?_ ?_ ?_
 ·simp
 ·simp only [has,hh,chEq,and_true]
  exact ⟨hnm,by simp,trivial,trivial,fun i hi=>by rw [hf i hi]; simp [rnm,eqv]⟩
 ·simp [slot,lkL,fixed,rg,renH,chEq,lookH,eqvL,eqv,eqvF,rnmL,rnm,liveN,Chunk.live,goodH,Chunk.good,okL,ok,sz,szL,storL,stor,renT,okT,has,upG,up,nth,roOk,keepsLive,Chunk.wr,lay,rnmC,putH]
 ·simp [slot,lkL,fixed,rg,renH,chEq,lookH,eqvL,eqv,eqvF,rnmL,rnm,liveN,Chunk.live,goodH,Chunk.good,okL,ok,sz,szL,storL,stor,renT,okT,has,upG,up,nth,roOk,keepsLive,Chunk.wr,lay,rnmC,putH]
 ·simp [slot,lkL,fixed,rg,renH,chEq,lookH,eqvL,eqv,eqvF,rnmL,rnm,liveN,Chunk.live,goodH,Chunk.good,okL,ok,sz,szL,storL,stor,renT,okT,has,upG,up,nth,roOk,keepsLive,Chunk.wr,lay,rnmC,putH]
 ·rintro v h' ⟨rfl,rfl⟩
  refine ⟨by simp [slot,lkL,fixed,rg,renH,chEq,lookH,eqvL,eqv,eqvF,rnmL,rnm,liveN,Chunk.live,goodH,Chunk.good,okL,ok,sz,szL,storL,stor,renT,okT,has,upG,up,nth,roOk,keepsLive,Chunk.wr,lay,rnmC,putH],by simp [slot,lkL,fixed,rg,renH,chEq,lookH,eqvL,eqv,eqvF,rnmL,rnm,liveN,Chunk.live,goodH,Chunk.good,okL,ok,sz,szL,storL,stor,renT,okT,has,upG,up,nth,roOk,keepsLive,Chunk.wr,lay,rnmC,putH],?_⟩
  simpa [rnm,rnmL,lay,Chunk.wr] using hK
end Go.Proofs.Ytgocfglmideobaa.S
set_option linter.all false
set_option maxRecDepth 40000
namespace Go.Proofs.Ytgocfglmideobaa.S
open Go Go.Sx
def pl145:Nat→Plan
 | 1=>(.q 0 (.q 1 (.q 2 (.q 3 (.q 4 (.q 5 (.q 6 (.q 7 (.q 8 (.q 9 (.q 10 (.q 11 (.q 12 (.q 13 (.q 14 (.e1 15 [13] (.q 16 (.q 17 (.q 18 (.q 19 .nil))))))))))))))))))))
 | _=>.nil
def vOk (key n:Int) (E:Bool):Bool:=decide (key ≥ 0) && (decide (key < n) && E)
theorem res27:Try.f145.results.toList = [.tmp 6]:=rfl
set_option maxHeartbeats 4000000 in
theorem c27l (key n:Int) (D:Nat→BitVec 8) (m len:Nat) (B:Nat→BitVec 8) (hm:len≤m) (hl:len≤70368744177000) (K:Tok→SV→List Chunk→Prop)
  (hK:K .mk (.bool (vOk key n (famEq 32 (fun i=>.int .u8 (nat (D i))) (fun i=>.int .u8 (nat (shaD (9+len) (sigT key B) i)))))) [.row false m 1 fun i=>.int .u8 (nat (B i))]) :
  callP Try.prog 145 [.agg [.int .i64 key,.fam 32 1 fun i=>.int .u8 (nat (D i))],.osl 0 0 0 1 len,.int .i64 n] [.row false m 1 fun i=>.int .u8 (nat (B i))] K:=by
 refine callP_of_code tabOk Try.func145 (by kernel_rfl) rfl (Nat.le_of_ble_eq_true rfl) (codeP_of_vc (pl:=pl145) tabOk follows_mixed (by kernel_rfl) ?_)
 rw [Try.ntmps145]
 obtain ⟨F,hF⟩:∃ F:Nat→SV,(fun i=>SV.int .u8 (nat (shaD (9+len) (sigT key B) i))) = F:=⟨_,rfl⟩
 have hF':∀ i,F i = .int .u8 (nat (shaD (9+len) (sigT key B) i)):=fun i=>by rw [← hF]
 rw [hF] at hK
 simp -implicitDefEqProofs (maxSteps:=1000000) (disch:=omega) only [↓zzP,zzA,zzL,reduceIte,reduceCtorEq,Nat.reduceLT,↓reduceIte,Nat.reduceEqDiff,Nat.reduceLeDiff,Nat.reduceAdd,Array.reduceGetElem?,↓gd,↓opP,↓qv,↓ef,slot,putS,putO,ofV,fldA,oslN,parts,asRow,single,rdF,Ent.row,ldS,sz,binH,binS2,binS,tupS,stor,qn,ldN,res27,pl145]
 have leaf:∀ b,b = vOk key n (famEq 32 (fun i=>SV.int IntKind.u8 (nat (D i))) F)→IntoR 1 (SV.bool b)
   [Chunk.row false m 1 fun i=>SV.int IntKind.u8 (nat (B i)),
    Chunk.cells true [SV.int IntKind.i64 key,SV.fam 32 1 fun i=>SV.int IntKind.u8 (nat (D i))]] K:=fun b hb=>by
  subst hb
  exact intoR_take [.row false m 1 fun i=>.int .u8 (nat (B i))] rfl rfl (by simp [slot,lkL,fixed,rg,renH,chEq,lookH,eqvL,eqv,eqvF,rnmL,rnm,liveN,Chunk.live,goodH,Chunk.good,okL,ok,sz,szL,storL,stor,renT,okT]) (by simp [slot,lkL,fixed,rg,renH,chEq,lookH,eqvL,eqv,eqvF,rnmL,rnm,liveN,Chunk.live,goodH,Chunk.good,okL,ok,sz,szL,storL,stor,renT,okT]) hK
 refine ⟨Sx.imp_intro fun hA=>⟨Sx.imp_intro fun hB=>?_,Sx.imp_intro fun hB=>?_⟩,Sx.imp_intro fun hA=>?_⟩
 ·refine c25 key m len B _ (fun i _=>rfl) hm hl false rfl (by simp) F hF _ ?_
  simp -implicitDefEqProofs (maxSteps:=1000000) (disch:=omega) only [↓zzP,zzA,zzL,reduceIte,reduceCtorEq,Nat.reduceLT,↓reduceIte,Nat.reduceEqDiff,Nat.reduceLeDiff,Array.reduceGetElem?,↓gd,↓qv,slot,putS,putO,ofV,fldS,asRow,rdF,Ent.row,sz,binH,binS2,binS,arrS,isI,stor,hF']
  exact leaf _ (by simp only [vOk,hA,hB,Bool.true_and])
 ·exact leaf _ (by simp only [vOk,hA,hB,Bool.true_and,Bool.false_and])
 ·exact leaf _ (by simp only [vOk,hA,Bool.false_and])
theorem c27 (key n:Int) (D:Nat→BitVec 8) (G:Nat→SV) (hG:(fun i=>SV.int .u8 (nat (D i))) = G) (m len:Nat) (B:Nat→BitVec 8) (f:Nat→SV) (hf:∀ i,i < m→f i = .int .u8 (nat (B i))) (hm:len≤m) (hl:len≤70368744177000) {h:List Chunk} {nm:Nat} (wr:Bool) (hh:lookH h nm = .row wr m 1 f) (hnm:nm < h.length) (b:Bool)
  (hb:vOk key n (famEq 32 G (fun i=>.int .u8 (nat (shaD (9+len) (sigT key B) i)))) = b) (K:Tok→SV→List Chunk→Prop) (hK:K .mk (.bool b) h):callP Try.prog 145 [.agg [.int .i64 key,.fam 32 1 G],.osl nm 0 0 1 len,.int .i64 n] h K:=by
 subst hG
 subst hb
 refine callP_frame (argsL:=[.agg [.int .i64 key,.fam 32 1 fun i=>.int .u8 (nat (D i))],.osl 0 0 0 1 len,.int .i64 n]) (KL:=fun _ v h'=>v = .bool (vOk key n (famEq 32 (fun i=>.int .u8 (nat (D i))) (fun i=>.int .u8 (nat (shaD (9+len) (sigT key B) i)))))∧h' = [.row false m 1 fun i=>.int .u8 (nat (B i))]) [nm] (c27l key n D m len B hm hl _ ⟨rfl,rfl⟩) ?_ ?_ ?_ ?_ ?_ ?_
 ·simp
 ·simp only [has,hh,chEq,and_true]
  exact ⟨hnm,by simp,trivial,trivial,fun i hi=>by rw [hf i hi]; simp [rnm,eqv]⟩
 ·simp [slot,lkL,fixed,rg,renH,chEq,lookH,eqvL,eqv,eqvF,rnmL,rnm,liveN,Chunk.live,goodH,Chunk.good,okL,ok,sz,szL,storL,stor,renT,okT,has,upG,up,nth,roOk,keepsLive,Chunk.wr,lay,rnmC,putH]
 ·simp [slot,lkL,fixed,rg,renH,chEq,lookH,eqvL,eqv,eqvF,rnmL,rnm,liveN,Chunk.live,goodH,Chunk.good,okL,ok,sz,szL,storL,stor,renT,okT,has,upG,up,nth,roOk,keepsLive,Chunk.wr,lay,rnmC,putH]
 ·simp [slot,lkL,fixed,rg,renH,chEq,lookH,eqvL,eqv,eqvF,rnmL,rnm,liveN,Chunk.live,goodH,Chunk.good,okL,ok,sz,szL,storL,stor,renT,okT,has,upG,up,nth,roOk,keepsLive,Chunk.wr,lay,rnmC,putH]
 ·rintro v h' ⟨rfl,rfl⟩
  refine ⟨by simp [slot,lkL,fixed,rg,renH,chEq,lookH,eqvL,eqv,eqvF,rnmL,rnm,liveN,Chunk.live,goodH,Chunk.good,okL,ok,sz,szL,storL,stor,renT,okT,has,upG,up,nth,roOk,keepsLive,Chunk.wr,lay,rnmC,putH],by simp [slot,lkL,fixed,rg,renH,chEq,lookH,eqvL,eqv,eqvF,rnmL,rnm,liveN,Chunk.live,goodH,Chunk.good,okL,ok,sz,szL,storL,stor,renT,okT,has,upG,up,nth,roOk,keepsLive,Chunk.wr,lay,rnmC,putH],?_⟩
  simpa [rnm,rnmL,lay,Chunk.wr] using hK
end Go.Proofs.Ytgocfglmideobaa.S
set_option linter.all false
set_option maxRecDepth 40000
namespace Go.Proofs.Ytgocfglmideobaa
open Go Go.Sx
theorem res49:Try.f49.results.toList = [.cell 4 31]:=rfl
theorem callP_n4 {f:FuncId} {a b c e D k O:SV} {rest:List SV} {h:List Chunk} {K:Tok→SV→List Chunk→Prop} (ho:∀ n,okL n [a,b,c,e,D,k,O]∧okL n rest)
  (hc:callP Try.prog f (.agg [a,b,c,e,D,.osl h.length 0 0 1 0,.osl (h.length+1) 0 0 1 0,.osl (h.length+2) 0 0 73 0,.osl (h.length+3) 0 0 74 0,k,O] :: rest) (h++[.row true 0 1 (bt []),.row true 0 1 fun _=>.bool false,.row true 0 73 fun i=>.agg ((fun _=>[]) i),.row true 0 74 fun i=>.agg ((fun _=>[]) i)]) K) :
  callP Try.prog f (.agg [a,b,c,e,D,.v (.slice none 0 0),.v (.slice none 0 0),.v (.slice none 0 0),.v (.slice none 0 0),k,O] :: rest) h K:=by
 have ha:=ho (h.length+1)
 have hb:=ho (h.length+2)
 have hd:=ho (h.length+3)
 have he:=ho (h.length+4)
 simp only [okL,and_true] at ha hb hd he
 refine callP_nil (args':=.agg [a,b,c,e,D,.osl h.length 0 0 1 0,.v (.slice none 0 0),.v (.slice none 0 0),.v (.slice none 0 0),k,O] :: rest) 1 (bt []) (fun ρ hρ=>?_) ?_ ?_
 ·simp [denL,den,denC,hρ]
 ·simp [okL,ok,ha] <;> omega
 refine callP_nil (args':=.agg [a,b,c,e,D,.osl h.length 0 0 1 0,.osl (h.length+1) 0 0 1 0,.v (.slice none 0 0),.v (.slice none 0 0),k,O] :: rest) 1 (fun _=>.bool false) (fun ρ hρ=>?_) ?_ ?_
 ·rw [List.length_append,List.length_singleton] at hρ
  simp [denL,den,denC,hρ]
 ·simp [okL,ok,hb] <;> omega
 refine callP_nil (args':=.agg [a,b,c,e,D,.osl h.length 0 0 1 0,.osl (h.length+1) 0 0 1 0,.osl (h.length+2) 0 0 73 0,.v (.slice none 0 0),k,O] :: rest) 73 (fun i=>.agg ((fun _=>[]) i)) (fun ρ hρ=>?_) ?_ ?_
 ·have hρ':ρ (h.length+2) = ⟨0,0,0,true,none⟩:=by rw [← hρ]; congr 1; simp
  simp [denL,den,denC,hρ']
 ·simp [okL,ok,hd] <;> omega
 refine callP_nil (args':=.agg [a,b,c,e,D,.osl h.length 0 0 1 0,.osl (h.length+1) 0 0 1 0,.osl (h.length+2) 0 0 73 0,.osl (h.length+3) 0 0 74 0,k,O] :: rest) 74 (fun i=>.agg ((fun _=>[]) i)) (fun ρ hρ=>?_) ?_ ?_
 ·have hρ':ρ (h.length+3) = ⟨0,0,0,true,none⟩:=by rw [← hρ]; congr 1; simp
  simp [denL,den,denC,hρ']
 ·simp [okL,ok,he] <;> omega
 simpa using hc
theorem callP_n2 {f:FuncId} {a b c e D k O:SV} {n1 n2:Nat} {rest:List SV} {h:List Chunk} {K:Tok→SV→List Chunk→Prop} (ho:∀ n,okL n [a,b,c,e,D,k,O]∧okL n rest) (h1:n1 < h.length) (h2:n2 < h.length)
  (hc:callP Try.prog f (.agg [a,b,c,e,D,.osl n1 0 0 1 0,.osl h.length 0 0 1 0,.osl n2 0 0 73 0,.osl (h.length+1) 0 0 74 0,k,O] :: rest) (h++[.row true 0 1 fun _=>.bool false,.row true 0 74 fun i=>.agg ((fun _=>[]) i)]) K) :
  callP Try.prog f (.agg [a,b,c,e,D,.osl n1 0 0 1 0,.v (.slice none 0 0),.osl n2 0 0 73 0,.v (.slice none 0 0),k,O] :: rest) h K:=by
 have ha:=ho (h.length+1)
 have hb:=ho (h.length+2)
 simp only [okL,and_true] at ha hb
 refine callP_nil (args':=.agg [a,b,c,e,D,.osl n1 0 0 1 0,.osl h.length 0 0 1 0,.osl n2 0 0 73 0,.v (.slice none 0 0),k,O] :: rest) 1 (fun _=>.bool false) (fun ρ hρ=>?_) ?_ ?_
 ·simp [denL,den,denC,hρ]
 ·simp [okL,ok,ha] <;> omega
 refine callP_nil (args':=.agg [a,b,c,e,D,.osl n1 0 0 1 0,.osl h.length 0 0 1 0,.osl n2 0 0 73 0,.osl (h.length+1) 0 0 74 0,k,O] :: rest) 74 (fun i=>.agg ((fun _=>[]) i)) (fun ρ hρ=>?_) ?_ ?_
 ·rw [List.length_append,List.length_singleton] at hρ
  simp [denL,den,denC,hρ]
 ·simp [okL,ok,hb] <;> omega
 simpa using hc
def z32:Nat→By:=fun _=>0
def mA (key:Int) (of:Nat→By):Msg:=.mk 4 2 0 1 z32 [] [] [] [] key of
theorem mA_H {h:List Chunk} {n1 n2 n3 n4:Nat} {w1 w2 w3 w4:Bool} {F2:Nat→SV} {f3 f4:Nat→List SV} {key:Int} {of:Nat→By} (h1:lookH h n1 = .row w1 0 1 (bt [])) (h2:lookH h n2 = .row w2 0 1 F2) (h3:lookH h n3 = .row w3 0 73 fun i=>.agg (f3 i)) (h4:lookH h n4 = .row w4 0 74 fun i=>.agg (f4 i)) :
  MsgH h (mA key of) [.int .i64 4,.int .i64 2,.int .i64 0,.int .i64 1,.fam 32 1 fun _=>.int .u8 0,.osl n1 0 0 1 0,.osl n2 0 0 1 0,.osl n3 0 0 73 0,.osl n4 0 0 74 0,.int .i64 key,.fam 32 1 fun i=>.int .u8 (nat (of i))]:=by
 rw [mA,MsgH]
 exact ⟨_,_,n3,w3,f3,n4,w4,f4,rfl,⟨n1,w1,rfl,h1⟩,⟨n2,w2,F2,rfl,h2,fun i hi=>absurd hi (Nat.not_lt_zero _)⟩,h3,by rw [MsgsH]; trivial,h4,by rw [PrepsH]; trivial⟩
theorem mA_may (key:Int) (of:Nat→By):may (mA key of) = 0:=by
 rw [mA,may]
 simp [mayHead,mayBuns,mayBs,mayL,mayQ,okFrom,okNum,hView,hSeq,hDig,hBun,hBuns,hProof,hPrep]
theorem mA_wf {key:Int} (hk:rng key) (of:Nat→By):wfM (mA key of):=by
 rw [mA,wfM]
 refine ⟨?_,?_,?_,?_,hk,by rw [wfL]; trivial,by rw [wfQ]; trivial⟩ <;> (unfold rng; omega)
def bA:List By:=body (mA 0 z32)
theorem mA_body (key:Int) (of:Nat→By):body (mA key of) = bA:=by
 rw [bA,mA,mA,body,body]
def sA (i:Nat):By:=S.shaD (9+bA.length) (S.sigT 2 fun i=>bA.getD i 0) i
end Go.Proofs.Ytgocfglmideobaa
set_option linter.all false
set_option maxRecDepth 40000
namespace Go.Proofs.Ytgocfglmideobaa
open Go Go.Sx
theorem z32_nat (i:Nat):nat (z32 i) = 0:=rfl
set_option maxHeartbeats 8000000 in
theorem c49e (h:List Chunk) (K:Tok→SV→List Chunk→Prop) (hK:∀ (H':List Chunk) (n1 n2:Nat) (f2:Nat→List SV),Ext (fun _=>False) h H'→lookH H' n1 = .row true 0 1 (bt [])→lookH H' n2 = .row true 0 73 (fun i=>.agg (f2 i))→K .mk (.agg [.int .i64 4,.int .i64 2,.int .i64 0,.int .i64 1,.fam 32 1 fun _=>.int .u8 0,.osl n1 0 0 1 0,.v (.slice none 0 0),.osl n2 0 0 73 0,.v (.slice none 0 0),.int .i64 2,.fam 32 1 fun i=>.int .u8 (nat (sA i))]) H'):callP Try.prog 49 [.agg [.int .i64 4,.int .i64 0,.int .i64 0,.int .i64 1,.fam 32 1 fun _=>.int .u8 0,.v (.slice none 0 0),.v (.slice none 0 0),.v (.slice none 0 0),.v (.slice none 0 0),.int .i64 0,.fam 32 1 fun _=>.int .u8 0],.int .i64 2] h K:=by
 refine callP_of_code tabOk Try.func49 (by kernel_rfl) rfl (Nat.le_of_ble_eq_true rfl) (codeP_of_vc (pl:=np) tabOk follows_mixed (by kernel_rfl) ?_)
 rw [Try.ntmps49]
 have z1:((4:Int) == 1) = false:=rfl
 simp -implicitDefEqProofs (maxSteps:=1000000) (disch:=omega) only [↓zzP,zzA,zzL,zzB,Nat.reduceSub,reduceIte,reduceCtorEq,Nat.reduceLT,↓reduceIte,Nat.reduceEqDiff,Nat.reduceLeDiff,Nat.reduceAdd,Array.reduceGetElem?,↓gd,↓opP,↓qv,↓ef,↓stS,slot,putS,putO,ofV,fldA,asRow,rdF,Ent.row,ldS,sz,wrF,bldS,binH,binS2,binS,tupS,stor,Value.oneCell',res49,z1]
 repeat (refine ⟨by omega,?_⟩)
 refine callP_n4 (fun n=>by simp [okL,ok,sz]) ?_
 refine c15 (mA 0 z32) _ _ (mA_H (lookH_app _ 0 _) (lookH_app _ 1 _) (lookH_app _ 2 _) (lookH_app _ 3 _)) _ ?_
 rw [mA_may]
 have z2:((0:Int) != 0) = false:=rfl
 simp -implicitDefEqProofs (maxSteps:=1000000) (disch:=omega) only [↓zzP,zzA,zzL,zzB,Nat.reduceSub,reduceIte,reduceCtorEq,Nat.reduceLT,↓reduceIte,Nat.reduceEqDiff,Nat.reduceLeDiff,Array.reduceGetElem?,↓gd,↓opP,↓qv,slot,putS,putO,ofV,rdF,Ent.row,ldS,sz,binH,binS2,binS,z2]
 repeat (refine ⟨by omega,?_⟩)
 obtain ⟨H1,hH1⟩:∃ H1,H1 = h++[.cells true [.int .i64 4,.int .i64 2,.int .i64 0,.int .i64 1,.fam 32 1 fun _=>.int .u8 0,.v (.slice none 0 0),.v (.slice none 0 0),.v (.slice none 0 0),.v (.slice none 0 0),.int .i64 0,.fam 32 1 fun _=>.int .u8 0],Chunk.cells true [.int .i64 0,.int .i64 0,.int .i64 0,.int .i64 0,.fam 32 1 fun _=>.int .u8 0,.v (.slice none 0 0),.v (.slice none 0 0),.v (.slice none 0 0),.v (.slice none 0 0),.int .i64 0,.fam 32 1 fun _=>.int .u8 0],.row true 0 1 (bt []),.row true 0 1 fun _=>.bool false,.row true 0 73 fun i=>.agg [],.row true 0 74 fun i=>.agg []]:=⟨_,rfl⟩
 have hE1:Ext (fun _=>False) h H1:=by rw [hH1]; exact (Ext.refl _ _).app _
 have e0:lookH H1 h.length = .cells true [.int .i64 4,.int .i64 2,.int .i64 0,.int .i64 1,.fam 32 1 fun _=>.int .u8 0,.v (.slice none 0 0),.v (.slice none 0 0),.v (.slice none 0 0),.v (.slice none 0 0),.int .i64 0,.fam 32 1 fun _=>.int .u8 0]:=by rw [hH1]; exact lookH_app0 _ _
 have e1:lookH H1 (h.length+1) = Chunk.cells true [.int .i64 0,.int .i64 0,.int .i64 0,.int .i64 0,.fam 32 1 fun _=>.int .u8 0,.v (.slice none 0 0),.v (.slice none 0 0),.v (.slice none 0 0),.v (.slice none 0 0),.int .i64 0,.fam 32 1 fun _=>.int .u8 0]:=by rw [hH1]; exact lookH_app _ 1 _
 rw [← hH1]
 clear hH1
 refine callP_n4 (fun n=>by simp [okL,ok,sz]) ?_
 refine c98e 4 2 0 1 0 z32 z32 _ _ _ _ _ _ _ _ (bt []) _ _ _ _ (lookH_app _ 0 _) (lookH_app _ 1 _) (lookH_app _ 2 _) (lookH_app _ 3 _) _ ?_
 intro H2 n1 n2 f2 hE2 r1 r2
 have hEa:Ext (fun _=>False) H1 H2:=((Ext.refl _ _).app _).trans hE2
 have g0:=hEa.look e0 (by simp) fun h=>h
 have g1:=hEa.look e1 (by simp) fun h=>h
 have m0:=lookH_lt g0 (by simp)
 have m1:=lookH_lt g1 (by simp)
 have hE3:=hE1.trans hEa
 clear hE2 hEa e0 e1 hE1
 simp -implicitDefEqProofs (maxSteps:=1000000) (disch:=omega) only [↓zzP,zzA,zzL,zzB,Nat.reduceSub,reduceIte,reduceCtorEq,Nat.reduceLT,↓reduceIte,Nat.reduceEqDiff,Nat.reduceLeDiff,Nat.reduceAdd,↓gd,↓opP,↓qv,↓ef,↓stS,slot,putS,putO,rdF,Ent.row,ldS,sz,wrF,stor,Value.oneCell',z32_nat,g0,lookH_put_same]
 repeat (refine ⟨by omega,?_⟩)
 obtain ⟨H4,hH4⟩:∃ H4,H4 = putH H2 h.length (.cells true [.int .i64 4,.int .i64 2,.int .i64 0,.int .i64 1,.fam 32 1 fun _=>.int .u8 0,.osl n1 0 0 1 0,.v (.slice none 0 0),.osl n2 0 0 73 0,.v (.slice none 0 0),.int .i64 0,.fam 32 1 fun _=>.int .u8 0]):=⟨_,rfl⟩
 have hE4:Ext (fun _=>False) h H4:=by rw [hH4]; exact hE3.put _ (.inr (Nat.le_refl _))
 have k0:lookH H4 h.length = .cells true [.int .i64 4,.int .i64 2,.int .i64 0,.int .i64 1,.fam 32 1 fun _=>.int .u8 0,.osl n1 0 0 1 0,.v (.slice none 0 0),.osl n2 0 0 73 0,.v (.slice none 0 0),.int .i64 0,.fam 32 1 fun _=>.int .u8 0]:=by rw [hH4]; exact lookH_put_same _ m0
 have k1:lookH H4 (h.length+1) = Chunk.cells true [.int .i64 0,.int .i64 0,.int .i64 0,.int .i64 0,.fam 32 1 fun _=>.int .u8 0,.v (.slice none 0 0),.v (.slice none 0 0),.v (.slice none 0 0),.v (.slice none 0 0),.int .i64 0,.fam 32 1 fun _=>.int .u8 0]:=by rw [hH4,lookH_put_ne _ (by omega)]; exact g1
 have k2:lookH H4 n1 = .row true 0 1 (bt []):=by rw [hH4,lookH_put_ne _ fun e=>by rw [e,g0] at r1; cases r1]; exact r1
 have k3:lookH H4 n2 = .row true 0 73 fun i=>.agg (f2 i):=by rw [hH4,lookH_put_ne _ fun e=>by rw [e,g0] at r2; cases r2]; exact r2
 rw [← hH4]
 have m2:=lookH_lt k2 (by simp)
 have m3:=lookH_lt k3 (by simp)
 refine callP_n2 (fun n=>by simp [okL,ok,sz]) m2 m3 ?_
 have hmA:=mA_H (h:=H4++[.row true 0 1 fun _=>.bool false,.row true 0 74 fun i=>.agg ((fun _=>[]) i)]) (key:=0) (of:=z32) (lookH_old _ _ _ k2 (by simp)) (lookH_app0 _ _) (lookH_old _ _ _ k3 (by simp)) (lookH_app _ 1 _)
 have hw0:wfM (mA 0 z32):=mA_wf (by unfold rng; omega) z32
 refine c62 (mA 0 z32) hw0 _ _ hmA (Nat.le_trans (body_small hw0 (mA_may 0 z32)) (by decide)) _ ?_
 rw [mA_body]
 intro H5 k5 hE5 hk5 hr5
 simp -implicitDefEqProofs (maxSteps:=1000000) (disch:=omega) only [↓zzP,zzA,reduceIte,Nat.reduceLT,↓reduceIte,Nat.reduceEqDiff,↓gd,↓opP,slot,putS,putO]
 repeat (refine ⟨by omega,?_⟩)
 have hlen:bA.length≤70368744177000:=Nat.le_trans (body_small hw0 (mA_may 0 z32)) (by decide)
 have hlt5:=lookH_lt hr5 (by simp)
 have hE6:Ext (fun _=>False) H4 H5:=((Ext.refl _ _).app _).trans hE5
 have p0:=hE6.look k0 (by simp) fun h=>h
 have p1:=hE6.look k1 (by simp) fun h=>h
 have p2:=hE6.look k2 (by simp) fun h=>h
 have p3:=hE6.look k3 (by simp) fun h=>h
 have hE7:=hE4.trans hE6
 clear hE5 hE6 hmA
 refine S.c25 2 bA.length bA.length (fun i=>bA.getD i 0) _ (fun i _=>rfl) (Nat.le_refl _) hlen true hr5 hlt5 (fun i=>.int .u8 (nat (sA i))) rfl _ ?_
 have q0:=lookH_lt p0 (by simp)
 have q1:=lookH_lt p1 (by simp)
 have n4:¬ h.length+1 = h.length:=by omega
 have k4:lookH (putH H5 h.length (.cells true [.int .i64 4,.int .i64 2,.int .i64 0,.int .i64 1,.fam 32 1 fun _=>.int .u8 0,.osl n1 0 0 1 0,.v (.slice none 0 0),.osl n2 0 0 73 0,.v (.slice none 0 0),.int .i64 2,.fam 32 1 fun i=>.int .u8 (nat (sA i))])) (h.length+1) = Chunk.cells true [.int .i64 0,.int .i64 0,.int .i64 0,.int .i64 0,.fam 32 1 fun _=>.int .u8 0,.v (.slice none 0 0),.v (.slice none 0 0),.v (.slice none 0 0),.v (.slice none 0 0),.int .i64 0,.fam 32 1 fun _=>.int .u8 0]:=by rw [lookH_put_ne _ (by omega)]; exact p1
 have m7:h.length+1 < (putH H5 h.length (.cells true [.int .i64 4,.int .i64 2,.int .i64 0,.int .i64 1,.fam 32 1 fun _=>.int .u8 0,.osl n1 0 0 1 0,.v (.slice none 0 0),.osl n2 0 0 73 0,.v (.slice none 0 0),.int .i64 2,.fam 32 1 fun i=>.int .u8 (nat (sA i))])).length:=by rw [putH_len]; exact q1
 simp -implicitDefEqProofs (maxSteps:=1000000) (disch:=omega) only [↓zzP,zzA,zzL,zzB,Nat.reduceSub,reduceIte,reduceCtorEq,Nat.reduceLT,↓reduceIte,Nat.reduceEqDiff,Nat.reduceLeDiff,Nat.reduceAdd,↓gd,↓opP,↓qv,↓ef,↓stS,slot,putS,putO,fldA,rdF,Ent.row,ldS,sz,wrF,stor,Value.oneCell',p0,k4,lookH_put_same]
 repeat (refine ⟨by omega,?_⟩)
 have t1:n1 ≠ h.length:=fun e=>by rw [e,p0] at p2; cases p2
 have t2:n1 ≠ h.length+1:=fun e=>by rw [e,p1] at p2; cases p2
 have t3:n2 ≠ h.length:=fun e=>by rw [e,p0] at p3; cases p3
 have t4:n2 ≠ h.length+1:=fun e=>by rw [e,p1] at p3; cases p3
 refine intoR_refl ?_ (hK _ n1 n2 f2 ((hE7.put _ (.inr (Nat.le_refl _))).put _ (.inr (Nat.le_succ _))) ?_ ?_)
 ·rw [putH_len,putH_len]
  exact hE7.1
 ·rw [lookH_put_ne _ t2,lookH_put_ne _ t1]
  exact p2
 ·rw [lookH_put_ne _ t4,lookH_put_ne _ t3]
  exact p3
end Go.Proofs.Ytgocfglmideobaa
set_option linter.all false
set_option maxRecDepth 40000
namespace Go.Proofs.Ytgocfglmideobaa
open Go Go.Sx
theorem res164:Try.f164.results.toList = [.tmp 2]:=rfl
theorem res146:Try.f146.results.toList = [.tmp 2]:=rfl
def pl146:Nat→Plan
 | 5=>(.q 0 (.q 1 (.q 2 (.q 5 (.q 6 (.e1 3 [2] (.e1 4 [2] (.e1 7 [4,6] (.q 8 .nil)))))))))
 | _=>.nil
set_option maxHeartbeats 4000000 in
theorem c164e (k:Nat) (w:Bool) (F:Nat→SV) (h:List Chunk) (hk:lookH h k = .row w 0 73 F) (K:Tok→SV→List Chunk→Prop) (hK:∀ (H:List Chunk) (m:Nat) (G:Nat→SV),Ext (fun _=>False) h H→h.length≤m→lookH H m = .row true 0 73 G→K .mk (.osl m 0 0 73 0) H) (hN:K .mk (.v (.slice none 0 0)) h):callP Try.prog 164 [.osl k 0 0 73 0] h K:=by
 refine callP_emp fun a c=>?_
 cases a with
 | none =>
  refine callP_of_code tabOk Try.func164 (by kernel_rfl) rfl (Nat.le_of_ble_eq_true rfl) (codeP_of_vc (pl:=np) tabOk follows_mixed (by kernel_rfl) ?_)
  rw [Try.ntmps164]
  simp -implicitDefEqProofs (maxSteps:=1000000) (disch:=omega) only [↓zzP,zzA,reduceIte,reduceCtorEq,Nat.reduceLT,↓reduceIte,↓gd,↓opP,↓qv,slot,putS,putO,ofV,nilS,nilEq,binH,binS2,binS,tupS,res164,Option.isNone]
  repeat (refine ⟨by omega,?_⟩)
  exact intoR_refl (Nat.le_refl _) hN
 | some a =>
  refine callP_of_code tabOk Try.func164 (by kernel_rfl) rfl (Nat.le_of_ble_eq_true rfl) (codeP_of_vc (pl:=np) tabOk follows_mixed (by kernel_rfl) ?_)
  rw [Try.ntmps164]
  simp -implicitDefEqProofs (maxSteps:=1000000) (disch:=omega) only [↓zzP,zzA,zzB,reduceIte,reduceCtorEq,Nat.reduceLT,Int.reduceLE,↓reduceIte,Nat.reduceEqDiff,↓gd,↓opP,↓qv,↓ef,↓bslS,↓appS,slot,putS,putO,ofV,srcS,nilS,nilEq,binH,binS2,binS,tupS,notInt,res164,Option.isNone]
  repeat (refine ⟨by omega,?_⟩)
  exact ⟨fun x h=>h.elim,intoR_refl (by simp) (hK _ _ _ ((Ext.refl _ _).app _) (Nat.le_succ _) (lookH_app _ 1 _))⟩
set_option maxHeartbeats 4000000 in
theorem c146e (h:List Chunk) (n1 n2 n3 n4:Nat) (w1 w2 w3 w4:Bool) (F3:Nat→SV) (f2 f4:Nat→List SV) (hb:lookH h n1 = .row w1 0 1 (bt [])) (hbs:lookH h n3 = .row w3 0 1 F3) (hp:lookH h n2 = .row w2 0 73 fun i=>.agg (f2 i)) (hq:lookH h n4 = .row w4 0 74 fun i=>.agg (f4 i)) (K:Tok→SV→List Chunk→Prop) (hK:∀ (H:List Chunk),Ext (fun _=>False) h H→(∀ m,K .mk (.osl m 0 0 73 0) H)∧K .mk (.v (.slice none 0 0)) H):callP Try.prog 146 [.agg [.int .i64 4,.int .i64 2,.int .i64 0,.int .i64 1,.fam 32 1 fun _=>.int .u8 0,.osl n1 0 0 1 0,.osl n3 0 0 1 0,.osl n2 0 0 73 0,.osl n4 0 0 74 0,.int .i64 2,.fam 32 1 fun i=>.int .u8 (nat (sA i))]] h K:=by
 have l1:=lookH_lt hb (by simp)
 have l2:=lookH_lt hp (by simp)
 have l3:=lookH_lt hbs (by simp)
 have l4:=lookH_lt hq (by simp)
 refine callP_of_code tabOk Try.func146 (by kernel_rfl) rfl (Nat.le_of_ble_eq_true rfl) (codeP_of_vc (pl:=pl146) tabOk follows_mixed (by kernel_rfl) ?_)
 rw [Try.ntmps146]
 simp -implicitDefEqProofs (maxSteps:=1000000) (disch:=omega) only [↓zzP,zzA,zzL,zzB,Nat.reduceSub,reduceIte,reduceCtorEq,Nat.reduceLT,↓reduceIte,Nat.reduceEqDiff,Nat.reduceLeDiff,↓gd,↓opP,↓qv,↓ef,slot,putS,putO,ofV,fldA,rdF,Ent.row,ldS,sz,tupS,stor,res146]
 repeat (refine ⟨by omega,?_⟩)
 obtain ⟨H1,hH1⟩:∃ H1,H1 = h++[.cells true [.int .i64 4,.int .i64 2,.int .i64 0,.int .i64 1,.fam 32 1 fun _=>.int .u8 0,.osl n1 0 0 1 0,.osl n3 0 0 1 0,.osl n2 0 0 73 0,.osl n4 0 0 74 0,.int .i64 2,.fam 32 1 fun i=>.int .u8 (nat (sA i))]]:=⟨_,rfl⟩
 have hE1:Ext (fun _=>False) h H1:=by rw [hH1]; exact (Ext.refl _ _).app _
 have e0:lookH H1 h.length = .cells true [.int .i64 4,.int .i64 2,.int .i64 0,.int .i64 1,.fam 32 1 fun _=>.int .u8 0,.osl n1 0 0 1 0,.osl n3 0 0 1 0,.osl n2 0 0 73 0,.osl n4 0 0 74 0,.int .i64 2,.fam 32 1 fun i=>.int .u8 (nat (sA i))]:=by rw [hH1]; exact lookH_app0 _ _
 rw [← hH1]
 refine c164e n2 w2 _ _ (hE1.look hp (by simp) fun h=>h) _ ?_ ?_
 ·intro H2 m G hE2 hm hr
  have g0:=hE2.look e0 (by simp) fun h=>h
  have m0:=lookH_lt g0 (by simp)
  have hE3:=hE1.trans hE2
  simp -implicitDefEqProofs (maxSteps:=1000000) (disch:=omega) only [↓zzP,zzA,zzL,zzB,Nat.reduceSub,reduceIte,reduceCtorEq,Nat.reduceLT,↓reduceIte,Nat.reduceEqDiff,Nat.reduceLeDiff,↓gd,↓opP,↓qv,slot,putS,putO,ofV,fldA,lenS,rdF,Ent.row,ldS,sz,g0]
  repeat (refine ⟨by omega,?_⟩)
  refine codeP_loop (pl:=pl146) tabOk follows_mixed (by kernel_rfl) (fun z st=>∃ (j:Nat→Value),st = ⟨⟨26,[(2,.v (.slice none 0 0)),(3,.osl m 0 0 73 0),(10,.osl n4 0 0 74 0),(11,.int .i64 0),(12,.int .i64 0)],j⟩,H2,[]⟩) ?_ ?_
  ·exact into_keep [(2,.v (.slice none 0 0)),(3,.osl m 0 0 73 0),(10,.osl n4 0 0 74 0),(11,.int .i64 0),(12,.int .i64 0)] (by simp [sameT,slot,lkL]) fun j=>⟨0,j,rfl⟩
  rintro z st ⟨j,rfl⟩
  simp -implicitDefEqProofs (maxSteps:=1000000) (disch:=omega) only [↓zzP,zzA,zzL,reduceIte,reduceCtorEq,Nat.reduceLT,↓reduceIte,Nat.reduceEqDiff,Int.reduceLT,↓gd,↓opP,↓qv,slot,putS,putO,binH,binS2,binS]
  repeat (refine ⟨by omega,?_⟩)
  exact intoR_refl hE3.1 ((hK _ hE3).1 m)
 ·simp -implicitDefEqProofs (maxSteps:=1000000) (disch:=omega) only [↓zzP,zzA,zzL,zzB,Nat.reduceSub,reduceIte,reduceCtorEq,Nat.reduceLT,↓reduceIte,Nat.reduceEqDiff,Nat.reduceLeDiff,↓gd,↓opP,↓qv,slot,putS,putO,ofV,fldA,lenS,rdF,Ent.row,ldS,sz,e0]
  repeat (refine ⟨by omega,?_⟩)
  refine codeP_loop (pl:=pl146) tabOk follows_mixed (by kernel_rfl) (fun z st=>∃ (j:Nat→Value),st = ⟨⟨26,[(2,.v (.slice none 0 0)),(3,.v (.slice none 0 0)),(10,.osl n4 0 0 74 0),(11,.int .i64 0),(12,.int .i64 0)],j⟩,H1,[]⟩) ?_ ?_
  ·exact into_keep [(2,.v (.slice none 0 0)),(3,.v (.slice none 0 0)),(10,.osl n4 0 0 74 0),(11,.int .i64 0),(12,.int .i64 0)] (by simp [sameT,slot,lkL]) fun j=>⟨0,j,rfl⟩
  rintro z st ⟨j,rfl⟩
  simp -implicitDefEqProofs (maxSteps:=1000000) (disch:=omega) only [↓zzP,zzA,zzL,reduceIte,reduceCtorEq,Nat.reduceLT,↓reduceIte,Nat.reduceEqDiff,Int.reduceLT,↓gd,↓opP,↓qv,slot,putS,putO,binH,binS2,binS]
  repeat (refine ⟨by omega,?_⟩)
  exact intoR_refl hE1.1 (hK _ hE1).2
end Go.Proofs.Ytgocfglmideobaa
set_option linter.all false
set_option maxRecDepth 40000
namespace Go.Proofs.Ytgocfglmideobaa
open Go Go.Sx
theorem res100:Try.f100.results.toList = [.tmp 4]:=rfl
theorem res50:Try.f50.results.toList = [.tmp 4]:=rfl
def pl100:Nat→Plan
 | 3=>(.q 0 (.q 1 (.q 2 (.q 3 (.q 4 (.q 5 (.q 6 (.q 7 (.q 8 (.q 9 (.q 10 (.q 11 (.q 12 (.q 13 (.q 14 (.q 15 (.q 17 (.e1 16 [15] (.e1 18 [14,15,16] (.q 19 (.q 20 .nil)))))))))))))))))))))
 | _=>.nil
theorem sA_eq:famEq 32 (fun i=>.int .u8 (nat (sA i))) (fun i=>.int .u8 (nat (S.shaD (9+bA.length) (S.sigT 2 fun i=>bA.getD i 0) i))) = true:=S.famEq_refl _ _
set_option maxHeartbeats 4000000 in
theorem c100f (h:List Chunk) (n1 n2 n3 n4:Nat) (w1 w2 w3 w4:Bool) (F3:Nat→SV) (f2 f4:Nat→List SV) (hb:lookH h n1 = .row w1 0 1 (bt [])) (hbs:lookH h n3 = .row w3 0 1 F3) (hp:lookH h n2 = .row w2 0 73 fun i=>.agg (f2 i)) (hq:lookH h n4 = .row w4 0 74 fun i=>.agg (f4 i)) (K:Tok→SV→List Chunk→Prop) (hK:∀ (H:List Chunk),Ext (fun _=>False) h H→K .mk (.bool false) H):callP Try.prog 100 [.agg [.int .i64 4,.int .i64 2,.int .i64 0,.int .i64 1,.fam 32 1 fun _=>.int .u8 0,.osl n1 0 0 1 0,.osl n3 0 0 1 0,.osl n2 0 0 73 0,.osl n4 0 0 74 0,.int .i64 2,.fam 32 1 fun i=>.int .u8 (nat (sA i))],.int .i64 2] h K:=by
 have l1:=lookH_lt hb (by simp)
 have l2:=lookH_lt hp (by simp)
 have l3:=lookH_lt hbs (by simp)
 have l4:=lookH_lt hq (by simp)
 refine callP_of_code tabOk Try.func100 (by kernel_rfl) rfl (Nat.le_of_ble_eq_true rfl) (codeP_of_vc (pl:=pl100) tabOk follows_mixed (by kernel_rfl) ?_)
 rw [Try.ntmps100]
 have z1:((4:Int) == 1) = false:=rfl
 have z2:decide ((2:Int) ≥ 2) = true:=rfl
 simp -implicitDefEqProofs (maxSteps:=1000000) (disch:=omega) only [↓zzP,zzA,zzL,zzB,reduceIte,reduceCtorEq,Nat.reduceLT,↓reduceIte,Nat.reduceEqDiff,Nat.reduceLeDiff,Nat.reduceAdd,Array.reduceGetElem?,↓gd,↓opP,↓qv,↓ef,slot,putS,putO,ofV,fldA,rdF,Ent.row,ldS,sz,binH,binS2,binS,tupS,stor,res100,pl100,z1]
 repeat (refine ⟨by omega,?_⟩)
 exact intoR_refl (by simp) (hK _ ((Ext.refl _ _).app _))
set_option maxHeartbeats 4000000 in
theorem c100t (h:List Chunk) (n1 n2 n3 n4:Nat) (w1 w2 w3 w4:Bool) (F3:Nat→SV) (f2 f4:Nat→List SV) (hb:lookH h n1 = .row w1 0 1 (bt [])) (hbs:lookH h n3 = .row w3 0 1 F3) (hp:lookH h n2 = .row w2 0 73 fun i=>.agg (f2 i)) (hq:lookH h n4 = .row w4 0 74 fun i=>.agg (f4 i)) (K:Tok→SV→List Chunk→Prop) (hK:∀ (H:List Chunk),Ext (fun _=>False) h H→K .mk (.bool true) H):callP Try.prog 100 [.agg [.int .i64 4,.int .i64 2,.int .i64 0,.int .i64 1,.fam 32 1 fun _=>.int .u8 0,.osl n1 0 0 1 0,.osl n3 0 0 1 0,.osl n2 0 0 73 0,.osl n4 0 0 74 0,.int .i64 2,.fam 32 1 fun i=>.int .u8 (nat (sA i))],.int .i64 4] h K:=by
 have l1:=lookH_lt hb (by simp)
 have l2:=lookH_lt hp (by simp)
 have l3:=lookH_lt hbs (by simp)
 have l4:=lookH_lt hq (by simp)
 refine callP_of_code tabOk Try.func100 (by kernel_rfl) rfl (Nat.le_of_ble_eq_true rfl) (codeP_of_vc (pl:=pl100) tabOk follows_mixed (by kernel_rfl) ?_)
 rw [Try.ntmps100]
 have z1:((4:Int) == 1) = false:=rfl
 have z2:decide ((2:Int) ≥ 4) = false:=rfl
 have z3:((2:Int) != 2) = false:=rfl
 simp -implicitDefEqProofs (maxSteps:=1000000) (disch:=omega) only [↓zzP,zzA,zzL,zzB,Nat.reduceSub,reduceIte,reduceCtorEq,Nat.reduceLT,↓reduceIte,Nat.reduceEqDiff,Nat.reduceLeDiff,Nat.reduceAdd,Array.reduceGetElem?,↓gd,↓opP,↓qv,↓ef,slot,putS,putO,ofV,fldA,oslN,rdF,Ent.row,ldS,sz,binH,binS2,binS,tupS,stor,qn,ldN,res100,pl100,z1,z2,z3]
 repeat (refine ⟨by omega,?_⟩)
 obtain ⟨H1,hH1⟩:∃ H1,H1 = h++[.cells true [.int .i64 4,.int .i64 2,.int .i64 0,.int .i64 1,.fam 32 1 fun _=>.int .u8 0,.osl n1 0 0 1 0,.osl n3 0 0 1 0,.osl n2 0 0 73 0,.osl n4 0 0 74 0,.int .i64 2,.fam 32 1 fun i=>.int .u8 (nat (sA i))]]:=⟨_,rfl⟩
 have hE1:Ext (fun _=>False) h H1:=by rw [hH1]; exact (Ext.refl _ _).app _
 have e0:lookH H1 h.length = .cells true [.int .i64 4,.int .i64 2,.int .i64 0,.int .i64 1,.fam 32 1 fun _=>.int .u8 0,.osl n1 0 0 1 0,.osl n3 0 0 1 0,.osl n2 0 0 73 0,.osl n4 0 0 74 0,.int .i64 2,.fam 32 1 fun i=>.int .u8 (nat (sA i))]:=by rw [hH1]; exact lookH_app0 _ _
 rw [← hH1]
 have b1:=hE1.look hb (by simp) fun h=>h
 have b2:=hE1.look hp (by simp) fun h=>h
 have b3:=hE1.look hbs (by simp) fun h=>h
 have b4:=hE1.look hq (by simp) fun h=>h
 have hw0:wfM (mA 2 sA):=mA_wf (by unfold rng; omega) sA
 have hlen:bA.length≤70368744177000:=by
  have:=body_small hw0 (mA_may 2 sA)
  rw [mA_body] at this
  omega
 refine c62 (mA 2 sA) hw0 _ _ (mA_H b1 b3 b2 b4) (Nat.le_trans (body_small hw0 (mA_may 2 sA)) (by decide)) _ ?_
 rw [mA_body]
 intro H2 k2 hE2 hk2 hr2
 have f0:=hE2.look e0 (by simp) fun h=>h
 have hlt2:=lookH_lt hr2 (by simp)
 refine ⟨f0,?_⟩
 simp -implicitDefEqProofs (maxSteps:=1000000) (disch:=omega) only [↓zzP,zzA,reduceIte,Nat.reduceLT,↓reduceIte,Nat.reduceEqDiff,Array.reduceGetElem?,↓gd,↓opP,slot,putS,putO,f0]
 repeat (refine ⟨by omega,?_⟩)
 refine S.c27 2 4 sA (fun i=>.int .u8 (nat (sA i))) rfl bA.length bA.length (fun i=>bA.getD i 0) _ (fun i _=>rfl) (Nat.le_refl _) hlen true hr2 hlt2 true ?_ _ ?_
 ·show S.vOk 2 4 _ = true
  rw [sA_eq]
  rfl
 have hE3:=hE1.trans hE2
 simp -implicitDefEqProofs (maxSteps:=1000000) (disch:=omega) only [↓zzP,zzA,zzL,Nat.reduceSub,reduceIte,reduceCtorEq,Nat.reduceLT,↓reduceIte,Nat.reduceEqDiff,Nat.reduceLeDiff,Array.reduceGetElem?,↓gd,↓opP,↓qv,slot,putS,putO,ofV,unS,rdF,Ent.row,ldS,sz,f0]
 repeat (refine ⟨by omega,?_⟩)
 refine c146e H2 n1 n2 n3 n4 w1 w2 w3 w4 F3 f2 f4 (hE2.look b1 (by simp) fun h=>h) (hE2.look b3 (by simp) fun h=>h) (hE2.look b2 (by simp) fun h=>h) (hE2.look b4 (by simp) fun h=>h) _ ?_
 intro H3 hE4
 have hE5:=hE3.trans hE4
 refine ⟨fun m=>?_,?_⟩
 ·simp -implicitDefEqProofs (maxSteps:=1000000) (disch:=omega) only [↓zzP,zzA,zzB,reduceIte,reduceCtorEq,Nat.reduceLT,↓reduceIte,↓gd,↓opP,↓qv,slot,putS,putO,ofV,lenS]
  repeat (refine ⟨by omega,?_⟩)
  refine codeP_loop (pl:=pl100) tabOk follows_mixed (by kernel_rfl) (fun z st=>∃ (j:Nat→Value),st = ⟨⟨43,[(1,.int .i64 4),(2,.ptr h.length 0),(32,.osl m 0 0 73 0),(33,.int .i64 0),(34,.int .i64 0)],j⟩,H3,[]⟩) ?_ ?_
  ·exact into_keep [(1,.int .i64 4),(2,.ptr h.length 0),(32,.osl m 0 0 73 0),(33,.int .i64 0),(34,.int .i64 0)] (by simp [sameT,slot,lkL]) fun j=>⟨0,j,rfl⟩
  rintro z st ⟨j,rfl⟩
  simp -implicitDefEqProofs (maxSteps:=1000000) (disch:=omega) only [↓zzP,zzA,zzL,reduceIte,reduceCtorEq,Nat.reduceLT,↓reduceIte,Nat.reduceEqDiff,Int.reduceLT,↓gd,↓opP,↓qv,slot,putS,putO,ofV,binH,binS2,binS]
  repeat (refine ⟨by omega,?_⟩)
  exact intoR_refl hE5.1 (hK _ hE5)
 ·simp -implicitDefEqProofs (maxSteps:=1000000) (disch:=omega) only [↓zzP,zzA,zzB,reduceIte,reduceCtorEq,Nat.reduceLT,↓reduceIte,↓gd,↓opP,↓qv,slot,putS,putO,ofV,lenS]
  repeat (refine ⟨by omega,?_⟩)
  refine codeP_loop (pl:=pl100) tabOk follows_mixed (by kernel_rfl) (fun z st=>∃ (j:Nat→Value),st = ⟨⟨43,[(1,.int .i64 4),(2,.ptr h.length 0),(32,.v (.slice none 0 0)),(33,.int .i64 0),(34,.int .i64 0)],j⟩,H3,[]⟩) ?_ ?_
  ·exact into_keep [(1,.int .i64 4),(2,.ptr h.length 0),(32,.v (.slice none 0 0)),(33,.int .i64 0),(34,.int .i64 0)] (by simp [sameT,slot,lkL]) fun j=>⟨0,j,rfl⟩
  rintro z st ⟨j,rfl⟩
  simp -implicitDefEqProofs (maxSteps:=1000000) (disch:=omega) only [↓zzP,zzA,zzL,reduceIte,reduceCtorEq,Nat.reduceLT,↓reduceIte,Nat.reduceEqDiff,Int.reduceLT,↓gd,↓opP,↓qv,slot,putS,putO,ofV,binH,binS2,binS]
  repeat (refine ⟨by omega,?_⟩)
  exact intoR_refl hE5.1 (hK _ hE5)
set_option maxHeartbeats 4000000 in
theorem c50e (n:Int) (r:Bool) (hn:(n = 4∧r = true) ∨ (n = 2∧r = false)) (h:List Chunk) (n1 n2 n3 n4:Nat) (w1 w2 w3 w4:Bool) (F3:Nat→SV) (f2 f4:Nat→List SV) (hb:lookH h n1 = .row w1 0 1 (bt [])) (hbs:lookH h n3 = .row w3 0 1 F3) (hp:lookH h n2 = .row w2 0 73 fun i=>.agg (f2 i)) (hq:lookH h n4 = .row w4 0 74 fun i=>.agg (f4 i)) (K:Tok→SV→List Chunk→Prop) (hK:∀ (H:List Chunk),Ext (fun _=>False) h H→K .mk (.bool r) H):callP Try.prog 50 [.agg [.int .i64 4,.int .i64 2,.int .i64 0,.int .i64 1,.fam 32 1 fun _=>.int .u8 0,.osl n1 0 0 1 0,.osl n3 0 0 1 0,.osl n2 0 0 73 0,.osl n4 0 0 74 0,.int .i64 2,.fam 32 1 fun i=>.int .u8 (nat (sA i))],.int .i64 n] h K:=by
 have l1:=lookH_lt hb (by simp)
 have l2:=lookH_lt hp (by simp)
 have l3:=lookH_lt hbs (by simp)
 have l4:=lookH_lt hq (by simp)
 refine callP_of_code tabOk Try.func50 (by kernel_rfl) rfl (Nat.le_of_ble_eq_true rfl) (codeP_of_vc (pl:=np) tabOk follows_mixed (by kernel_rfl) ?_)
 rw [Try.ntmps50]
 simp -implicitDefEqProofs (maxSteps:=1000000) (disch:=omega) only [↓zzP,zzA,zzL,zzB,Nat.reduceSub,reduceIte,reduceCtorEq,Nat.reduceLT,↓reduceIte,Nat.reduceEqDiff,Nat.reduceLeDiff,Nat.reduceAdd,↓gd,↓opP,↓qv,↓ef,slot,putS,putO,ofV,rdF,Ent.row,ldS,sz,tupS,stor,res50]
 repeat (refine ⟨by omega,?_⟩)
 obtain ⟨H1,hH1⟩:∃ H1,H1 = h++[.cells true [.int .i64 4,.int .i64 2,.int .i64 0,.int .i64 1,.fam 32 1 fun _=>.int .u8 0,.osl n1 0 0 1 0,.osl n3 0 0 1 0,.osl n2 0 0 73 0,.osl n4 0 0 74 0,.int .i64 2,.fam 32 1 fun i=>.int .u8 (nat (sA i))]]:=⟨_,rfl⟩
 have hE1:Ext (fun _=>False) h H1:=by rw [hH1]; exact (Ext.refl _ _).app _
 have e0:lookH H1 h.length = .cells true [.int .i64 4,.int .i64 2,.int .i64 0,.int .i64 1,.fam 32 1 fun _=>.int .u8 0,.osl n1 0 0 1 0,.osl n3 0 0 1 0,.osl n2 0 0 73 0,.osl n4 0 0 74 0,.int .i64 2,.fam 32 1 fun i=>.int .u8 (nat (sA i))]:=by rw [hH1]; exact lookH_app0 _ _
 rw [← hH1]
 have b1:=hE1.look hb (by simp) fun h=>h
 have b2:=hE1.look hp (by simp) fun h=>h
 have b3:=hE1.look hbs (by simp) fun h=>h
 have b4:=hE1.look hq (by simp) fun h=>h
 refine c15 (mA 2 sA) _ _ (mA_H b1 b3 b2 b4) _ ?_
 rw [mA_may]
 have z1:((0:Int) == 0) = true:=rfl
 simp -implicitDefEqProofs (maxSteps:=1000000) (disch:=omega) only [↓zzP,zzA,Nat.reduceSub,reduceIte,reduceCtorEq,Nat.reduceLT,↓reduceIte,Nat.reduceEqDiff,Nat.reduceLeDiff,Array.reduceGetElem?,↓gd,↓opP,↓qv,slot,putS,putO,ofV,rdF,Ent.row,ldS,sz,binH,binS2,binS,z1,e0]
 repeat (refine ⟨by omega,?_⟩)
 rcases hn with ⟨rfl,rfl⟩ | ⟨rfl,rfl⟩
 ·refine c100t H1 n1 n2 n3 n4 w1 w2 w3 w4 F3 f2 f4 b1 b3 b2 b4 _ ?_
  intro H2 hE2
  have hE3:=hE1.trans hE2
  simp -implicitDefEqProofs (maxSteps:=1000000) (disch:=omega) only [↓zzP,zzA,zzL,reduceIte,Nat.reduceLT,↓reduceIte,Nat.reduceEqDiff,↓gd,↓opP,↓qv,slot,putS,putO,ofV]
  repeat (refine ⟨by omega,?_⟩)
  exact intoR_refl hE3.1 (hK _ hE3)
 ·refine c100f H1 n1 n2 n3 n4 w1 w2 w3 w4 F3 f2 f4 b1 b3 b2 b4 _ ?_
  intro H2 hE2
  have hE3:=hE1.trans hE2
  simp -implicitDefEqProofs (maxSteps:=1000000) (disch:=omega) only [↓zzP,zzA,zzL,reduceIte,Nat.reduceLT,↓reduceIte,Nat.reduceEqDiff,↓gd,↓opP,↓qv,slot,putS,putO,ofV]
  repeat (refine ⟨by omega,?_⟩)
  exact intoR_refl hE3.1 (hK _ hE3)
end Go.Proofs.Ytgocfglmideobaa
set_option linter.all false
set_option maxRecDepth 40000
namespace Go.Proofs.Ytgocfglmideobaa
open Go Go.Sx
theorem res12:Try.f12.results.toList = [.tmp 0]:=rfl
set_option maxHeartbeats 4000000 in
theorem c12 (h:List Chunk) (K:Tok→SV→List Chunk→Prop) (hK:∀ (H:List Chunk),Ext (fun _=>False) h H→K .mk (.bool true) H):callP Try.prog 12 [] h K:=by
 refine callP_of_code tabOk Try.func12 (by kernel_rfl) rfl (Nat.le_of_ble_eq_true rfl) (codeP_of_vc (pl:=np) tabOk follows_mixed (by kernel_rfl) ?_)
 rw [Try.ntmps12]
 simp -implicitDefEqProofs (maxSteps:=1000000) (disch:=omega) only [↓zzP,zzA,zzB,Nat.reduceSub,reduceIte,reduceCtorEq,Nat.reduceLT,↓reduceIte,Nat.reduceLeDiff,↓gd,↓opP,↓qv,slot,putS,putO,ofV,sz,wrF,plT,bldS,tupS,res12]
 repeat (refine ⟨by omega,?_⟩)
 refine c49e h _ ?_
 intro H1 n1 n2 f2 hE1 r1 r2
 simp -implicitDefEqProofs (maxSteps:=1000000) (disch:=omega) only [↓zzP,zzA,zzL,zzB,Nat.reduceSub,reduceIte,reduceCtorEq,Nat.reduceLT,↓reduceIte,Nat.reduceEqDiff,Nat.reduceLeDiff,Nat.reduceAdd,↓gd,↓opP,↓qv,↓ef,↓stS,slot,putS,putO,ofV,rdF,Ent.row,ldS,sz,wrF,stor,Value.oneCell']
 repeat (refine ⟨by omega,?_⟩)
 obtain ⟨H2,hH2⟩:∃ H2,H2 = H1++[.cells true [.int .i64 4,.int .i64 2,.int .i64 0,.int .i64 1,.fam 32 1 fun _=>.int .u8 0,.osl n1 0 0 1 0,.v (.slice none 0 0),.osl n2 0 0 73 0,.v (.slice none 0 0),.int .i64 2,.fam 32 1 fun i=>.int .u8 (nat (sA i))]]:=⟨_,rfl⟩
 have hE2:Ext (fun _=>False) H1 H2:=by rw [hH2]; exact (Ext.refl _ _).app _
 have e0:lookH H2 H1.length = .cells true [.int .i64 4,.int .i64 2,.int .i64 0,.int .i64 1,.fam 32 1 fun _=>.int .u8 0,.osl n1 0 0 1 0,.v (.slice none 0 0),.osl n2 0 0 73 0,.v (.slice none 0 0),.int .i64 2,.fam 32 1 fun i=>.int .u8 (nat (sA i))]:=by rw [hH2]; exact lookH_app0 _ _
 have b1:=hE2.look r1 (by simp) fun h=>h
 have b2:=hE2.look r2 (by simp) fun h=>h
 rw [← hH2]
 have hE3:=hE1.trans hE2
 refine callP_n2 (fun n=>by simp [okL,ok,sz]) (lookH_lt b1 (by simp)) (lookH_lt b2 (by simp)) ?_
 refine c50e 4 true (.inl ⟨rfl,rfl⟩) _ n1 n2 _ _ true true true true _ f2 _ (lookH_old _ _ _ b1 (by simp)) (lookH_app0 _ _) (lookH_old _ _ _ b2 (by simp)) (lookH_app _ 1 _) _ ?_
 intro H3 hE4
 have hE5:Ext (fun _=>False) H2 H3:=((Ext.refl _ _).app _).trans hE4
 have f0:=hE5.look e0 (by simp) fun h=>h
 have b3:=hE5.look b1 (by simp) fun h=>h
 have b4:=hE5.look b2 (by simp) fun h=>h
 simp -implicitDefEqProofs (maxSteps:=1000000) (disch:=omega) only [↓zzP,zzA,zzB,Nat.reduceSub,reduceIte,reduceCtorEq,Nat.reduceLT,↓reduceIte,Nat.reduceEqDiff,Nat.reduceLeDiff,Array.reduceGetElem?,↓gd,↓opP,↓qv,slot,putS,putO,ofV,rdF,Ent.row,ldS,sz,f0]
 repeat (refine ⟨by omega,?_⟩)
 refine callP_n2 (fun n=>by simp [okL,ok,sz]) (lookH_lt b3 (by simp)) (lookH_lt b4 (by simp)) ?_
 refine c50e 2 false (.inr ⟨rfl,rfl⟩) _ n1 n2 _ _ true true true true _ f2 _ (lookH_old _ _ _ b3 (by simp)) (lookH_app0 _ _) (lookH_old _ _ _ b4 (by simp)) (lookH_app _ 1 _) _ ?_
 intro H4 hE6
 have hE7:Ext (fun _=>False) H3 H4:=((Ext.refl _ _).app _).trans hE6
 have g0:=hE7.look f0 (by simp) fun h=>h
 simp -implicitDefEqProofs (maxSteps:=1000000) (disch:=omega) only [↓zzP,zzA,zzL,zzB,reduceIte,reduceCtorEq,Nat.reduceLT,↓reduceIte,Nat.reduceEqDiff,Nat.reduceLeDiff,Array.reduceGetElem?,↓gd,↓opP,↓qv,slot,putS,putO,ofV,fldA,unS,rdF,Ent.row,ldS,sz,binH,binS2,binS,g0]
 repeat (refine ⟨by omega,?_⟩)
 have hE8:=hE3.trans (hE5.trans hE7)
 exact intoR_refl (v:=.bool true) hE8.1 (hK _ hE8)
end Go.Proofs.Ytgocfglmideobaa
