/- Texts put together: Contracts of functions that the laws reach, by the symbolic executor. No condition. -/
import Derived.Test.YtgocfglmideobaaMc
import Derived.Test.YtgocfglmideobaaMg
import Derived.Test.YtgocfglmideobaaMf
set_option linter.all false
set_option maxRecDepth 40000
namespace Go.Proofs.Ytgocfglmideobaa
open Go Go.Sx
theorem res86:Try.f86.results.toList = [.cell 4 31,.tmp 5]:=rfl
def pl86:Nat→Plan
 | 8=>(.q 0 (.q 1 (.q 2 (.e1 3 [] (.e1 4 [3] (.e1 5 [1,3] (.q 6 (.e1 7 [1,3,5] .nil))))))))
 | 13=>(.q 0 (.q 1 (.q 2 (.q 3 (.e1 4 [] (.e1 5 [4] (.e1 6 [1,4] (.q 7 (.e1 8 [1,4,6] .nil)))))))))
 | 21=>(.q 0 (.q 1 (.q 2 (.q 3 (.e1 4 [] (.e1 5 [4] (.e1 6 [1,4] (.q 7 (.e1 8 [1,4,6] .nil)))))))))
 | 30=>(.q 0 (.q 1 (.q 2 (.q 3 (.q 4 (.e1 5 [] (.q 6 .nil)))))))
 | _=>.nil
def bndM {α β:Type} (x:Except Int α) (g:α→Except Int β):Except Int β:=match x with | .error e=>.error e | .ok a=>g a
theorem into_cellG {nf:Nat} {t:Slots} {h:List Chunk} {d:List Deferred} {J:St→Prop} {km:Nat} {fs:List SV} (fs':List SV) (s:Nat) (F:Nat→SV) (hk:lookH h km = .cells true fs) (hd:∀ ρ:Env,ρ h.length = ⟨0,0,0,true,none⟩→denC ρ fs' = denC ρ fs) (ho:okL (h.length+1) fs→okL (h.length+1) fs') (hst:storL fs→storL fs') (hJ:Into nf ⟨t,putH h km (.cells true fs')++[.row true 0 s F],d⟩ J):Into nf ⟨t,h,d⟩ J:=fun C ρ w hC hM hok=>into_cell fs' s F hk hd (ho (okL_mono (Nat.le_succ _) _ (hM.okc _ _ (lookH_some hk (by simp))).1)) (hst (hM.okc _ _ (lookH_some hk (by simp))).2) hJ C ρ w hC hM hok
theorem extR_nm {n km:Nat} {H:List Chunk} {w:Bool} {fs:List SV} (hkm:lookH H km = .cells w fs) (c x:Chunk):ExtR (fresh n H) (fresh n (putH (putH H km c++[x]) H.length .none)):=fun k w b s f hh=>by
 rw [fresh_look] at hh ⊢
 split at hh
 ·cases hh
 ·rename_i c2
  rw [if_neg c2]
  have hlt:=lookH_lt hh (by simp)
  have e2:k ≠ km:=fun e2=>by rw [e2,hkm] at hh; cases hh
  rw [lookH_put_ne _ (by omega),lookH_at _ (by rw [putH_len]; exact hlt),lookH_put_ne _ e2]
  exact hh
theorem extR_pk {n kr m:Nat} {H H1:List Chunk} {wr:Bool} {fs:List SV} (hE:Ext (fun j=>j = kr) H H1) (hk:lookH H kr = .cells wr fs):ExtR (fresh n (putH H m .none)) (fresh n (putH H1 m .none)):=fun k w a s f hh=>by
 rw [fresh_look] at hh ⊢
 split at hh
 ·cases hh
 ·rename_i c2
  rw [if_neg c2]
  have e:k ≠ m:=fun e=>by
   have h1:=extR_unput _ _ _ _ _ hh
   subst e
   rw [lookH_put_same _ (lookH_lt h1 (by simp))] at hh
   cases hh
  rw [lookH_put_ne _ e] at hh ⊢
  exact ext_rd hE hk _ _ _ _ _ hh
theorem tlN_e {α:Type} {q:List By→Except Int (α × Nat)} {most:Nat} {bs:List By} {er:Int} (h:pNumM most 18 bs = .error er):tl q most bs = .error er:=by
 unfold pNumM at h
 unfold tl
 split at h
 ·rename_i e he
  try simp only [he]
  cases h
  rfl
 ·rename_i n u he
  try simp only [he]
  split at h
  ·rename_i c
   rw [if_pos c]
   cases h
   rfl
  ·cases h
theorem tlN_o {α:Type} {q:List By→Except Int (α × Nat)} {most:Nat} {bs r:List By} {n:BitVec 64} (h:pNumM most 18 bs = .ok (n,r)):tl q most bs = lp q n.toNat r∧n.toNat≤most∧r.length≤bs.length:=by
 unfold pNumM at h
 unfold tl
 split at h
 ·cases h
 ·rename_i m u he
  try simp only [he]
  split at h
  ·cases h
  ·rename_i c
   rw [if_neg c]
   cases h
   rw [List.length_drop]
   exact ⟨rfl,by omega,by omega⟩
theorem pNumM_ne {most:Nat} {over:Int} {bs:List By} {er:Int} (ho:over ≠ 0) (h:pNumM most over bs = .error er):er ≠ 0:=by
 unfold pNumM at h
 split at h
 ·rename_i e he
  cases h
  exact tk_ne he
 ·split at h
  ·cases h; exact ho
  ·cases h
theorem r6_bnd (qm:List By→Except Int (Msg × Nat)) (k f v s:Int) (d:Nat→By) (b:List By) (r:List By):r6 qm k f v s d b r = bndM (tl (fun b=>tb b 8192) 512 r) (fun x=>r7 qm k f v s d b x.1 x.2):=by
 unfold r6 bndM
 cases tl (fun b=>tb b 8192) 512 r <;> rfl
theorem r7_bnd (qm:List By→Except Int (Msg × Nat)) (k f v s:Int) (d:Nat→By) (b:List By) (bs:List (List By)) (r:List By):r7 qm k f v s d b bs r = bndM (tl qm 64 r) (fun x=>r8 qm k f v s d b bs x.1 x.2):=by
 unfold r7 bndM
 cases tl qm 64 r <;> rfl
theorem r8_bnd (qm:List By→Except Int (Msg × Nat)) (k f v s:Int) (d:Nat→By) (b:List By) (bs:List (List By)) (p:List Msg) (r:List By):r8 qm k f v s d b bs p r = bndM (tl (qPf qm) 64 r) (fun x=>r9 k f v s d b bs p x.1 x.2):=by
 unfold r8 bndM
 cases tl (qPf qm) 64 r <;> rfl
theorem extR_lp1 {n kr m km:Nat} {H H1:List Chunk} {wr w2:Bool} {fs gs:List SV} (hE:Ext (fun j=>j = kr) H H1) (hk:lookH H kr = .cells wr fs) (hkm:lookH H1 km = .cells w2 gs) (c:Chunk) (x:List Chunk):ExtR (fresh n (putH H m .none)) (fresh n (putH (putH H1 m .none) km c++x)):=fun k w a s f hh=>by
 rw [fresh_look] at hh ⊢
 split at hh
 ·cases hh
 ·rename_i c2
  rw [if_neg c2]
  have e:k ≠ m:=fun e=>by
   have h1:=extR_unput _ _ _ _ _ hh
   subst e
   rw [lookH_put_same _ (lookH_lt h1 (by simp))] at hh
   cases hh
  rw [lookH_put_ne _ e] at hh
  have h1:=ext_rd hE hk _ _ _ _ _ hh
  have e2:k ≠ km:=fun e2=>by rw [e2,hkm] at h1; cases h1
  rw [lookH_at _ (by rw [putH_len,putH_len]; exact lookH_lt h1 (by simp)),lookH_put_ne _ e2,lookH_put_ne _ e]
  exact h1
theorem extR_lp2 {n a m km:Nat} {H1:List Chunk} {w2:Bool} {gs:List SV} (hn:n≤a) (hm:m < a) (hkm:lookH H1 km = .cells w2 gs) (c:Chunk) (x:List Chunk):ExtR (fresh a H1) (fresh n (putH (putH H1 m .none) km c++x)):=fun k w b s f hh=>by
 rw [fresh_look] at hh ⊢
 split at hh
 ·cases hh
 ·rename_i c2
  rw [if_neg (by omega)]
  have e2:k ≠ km:=fun e2=>by rw [e2,hkm] at hh; cases hh
  rw [lookH_at _ (by rw [putH_len,putH_len]; exact lookH_lt hh (by simp)),lookH_put_ne _ e2,lookH_put_ne _ (by omega)]
  exact hh
theorem putH_two (l:List Chunk) (c d x:Chunk) (h:List Chunk) (m k j:Nat):putH (putH (putH h m c) k d++l) (h.length+j) x = putH (putH h m c) k d++putH l j x:=by
 have:=putH_app l x j (putH (putH h m c) k d)
 rwa [putH_len,putH_len] at this
theorem lookH_two (l:List Chunk) (c d:Chunk) (h:List Chunk) (m k j:Nat):lookH (putH (putH h m c) k d++l) (h.length+j) = lookH l j:=by
 have:=lookH_app l j (putH (putH h m c) k d)
 rwa [putH_len,putH_len] at this
theorem lp_drop {α:Type} {q:List By→Except Int (α × Nat)}:∀ {n:Nat} {bs r:List By} {X:List α},lp q n bs = .ok (X,r)→∃ k,r = bs.drop k
 | 0,bs,r,X,h=>by rw [lp] at h; cases h; exact ⟨0,rfl⟩
 | n+1,bs,r,X,h=>by
  rw [lp] at h
  split at h
  ·cases h
  ·rename_i x k he
   split at h
   ·cases h
   ·rename_i xs r' he2
    cases h
    obtain ⟨k2,hk2⟩:=lp_drop he2
    exact ⟨k+k2,by rw [hk2,List.drop_drop]⟩
theorem tl_drop {α:Type} {q:List By→Except Int (α × Nat)} {most:Nat} {bs r:List By} {X:List α} (h:tl q most bs = .ok (X,r)):∃ k,r = bs.drop k:=by
 unfold tl at h
 split at h
 ·cases h
 ·rename_i n u he
  split at h
  ·cases h
  ·obtain ⟨k2,hk2⟩:=lp_drop h
   exact ⟨u+k2,by rw [hk2,List.drop_drop]⟩
theorem lp_pf {β:Type} {qm:List By→Except Int (Msg × Nat)} {z u:Nat} {r:List By} {c:Msg} (X:List (Msg × List Msg)) (he:qm r = .ok (c,u)) (g:List (Msg × List Msg) × List By→Except Int β):bndM (pre X (lp (qPf qm) (z+1) r)) g = bndM (tl qm 64 (r.drop u)) (fun y=>bndM (pre (X++[(c,y.1)]) (lp (qPf qm) z y.2)) g):=by
 cases ht:tl qm 64 (r.drop u) with
 | error e =>
  rw [lp_e X (show qPf qm r = .error e by unfold qPf; simp only [he,ht])]
  rfl
 | ok y =>
  obtain ⟨l,r'⟩:=y
  have hd:r.drop (r.length - r'.length) = r':=by
   obtain ⟨k,hk⟩:=tl_drop ht
   rw [hk,List.drop_drop,List.length_drop]
   by_cases hc:u+k≤r.length
   ·rw [show r.length - (r.length - (u+k)) = u+k by omega]
   ·rw [show r.length - (r.length - (u+k)) = r.length by omega,List.drop_eq_nil_of_le (Nat.le_refl _),List.drop_eq_nil_of_le (by omega)]
  rw [lp_o X (show qPf qm r = .ok ((c,l),r.length - r'.length) by unfold qPf; simp only [he,ht]),hd]
  rfl
theorem extR_fin {a n m km:Nat} {A H:List Chunk} {w0:Bool} {fs:List SV} (hn:n≤a) (hA:∀ k w b s f,a≤k→lookH A k = .row w b s f→lookH H k = .row w b s f∧k ≠ m) (hkm:lookH H km = .cells w0 fs) (c:Chunk) (x:List Chunk):ExtR (fresh a A) (fresh n (putH (putH H m .none) km c++x)):=fun k w b s f hh=>by
 rw [fresh_look] at hh ⊢
 split at hh
 ·cases hh
 ·rename_i c2
  rw [if_neg (by omega)]
  obtain ⟨h1,h2⟩:=hA _ _ _ _ _ (by omega) hh
  have e2:k ≠ km:=fun e=>by rw [e,hkm] at h1; cases h1
  rw [lookH_at _ (by rw [putH_len,putH_len]; exact lookH_lt h1 (by simp)),lookH_put_ne _ e2,lookH_put_ne _ h2]
  exact h1
theorem k142u {kb:Nat} (dp:Int) (D:Nat) (hdp:dp = 3 - (D:Int)) (hD:D≤5) (hq:∀ D',D = D'+1→ReadRAt D') (bs:List By) (h:List Chunk) (kr:Nat) (sv:SV) (hk:lookH h kr = .cells true [sv,.int .i64 0]) (hB:RdK kb h sv bs) (hl:bs.length≤35184372088832) (K:Tok→SV→List Chunk→Prop) (hE:∀ e2,qM D bs = .error e2→∀ H sv' bs' x,Ext (fun j=>j = kr) h H→lookH H kr = .cells true [sv',.int .i64 e2]→RdK kb H sv' bs'→ErrM x→K .mk x H) (hO:∀ m u,qM D bs = .ok (m,u)→∀ H sv' x,Ext (fun j=>j = kr) h H→lookH H kr = .cells true [sv',.int .i64 0]→RdK kb H sv' (bs.drop u)→RelM (fresh h.length H) m x→K .mk x H):callP Try.prog 142 [.ptr kr 0,.int .i64 dp] h K:=by
 subst hdp
 cases D with
 | zero=>exact k142z bs h kr sv hk hB hl K fun H sv' bs' hE1 hk1 hB1=>hE 4 rfl H sv' bs' _ hE1 hk1 hB1 errM_zero
 | succ D'=>exact k142 D' (by omega) (hq D' rfl) bs h kr sv hk hB hl K hE hO
set_option maxHeartbeats 16000000 in
theorem c86 (D:Nat) (hD:D≤5) (hq142:∀ D',D = D'+1→ReadRAt D'):ReadRAt D:=by
 intro bs h k0 d0 e0 w0 N0 F0 hr0 hN0 hF0 hl0 K hE hO
 obtain ⟨dp,hdp⟩:∃ dp:Int,dp = 3 - (D:Int):=⟨_,rfl⟩
 rw [← hdp]
 have hEE:=hE
 have hOO:=hO
 clear hE hO
 refine callP_of_code tabOk Try.func86 (by kernel_rfl) rfl (Nat.le_of_ble_eq_true rfl) ?_
 rw [Try.ntmps86]
 refine codeP_seq (pl:=pl86) tabOk follows_mixed (by kernel_rfl) _ ?_ (fun s h=>h)
 simp -implicitDefEqProofs (maxSteps:=1000000) (disch:=omega) only [↓zzP,zzA,zzB,reduceIte,Nat.reduceLT,↓reduceIte,Nat.reduceAdd,↓gd,↓opP,↓qv,↓ef,slot,putS,putO,ofV,asRow,rdF,Ent.row,ldS,tupS,res86]
 repeat (refine ⟨by omega,?_⟩)
 refine into_refl ?_
 by_cases hbig:1048576 < bs.length
 ·have z1:decide ((bs.length:Int) > 1048576) = true:=decide_eq_true (by omega)
  refine codeP_of_vc (pl:=pl86) tabOk follows_mixed (by kernel_rfl) ?_
  simp -implicitDefEqProofs (maxSteps:=1000000) (disch:=omega) only [↓zzP,zzA,zzL,zzB,Nat.reduceSub,reduceIte,reduceCtorEq,Nat.reduceLT,↓reduceIte,Nat.reduceEqDiff,Nat.reduceLeDiff,Nat.reduceAdd,↓gd,↓opP,↓qv,↓ef,↓stS,slot,putS,putO,ofV,lenS,asRow,sz,wrF,bldS,binH,binS2,binS,stor,Value.oneCell',z1]
  repeat (refine ⟨by omega,?_⟩)
  exact intoR_refl (by simp) (hEE 2 (by unfold rdR; rw [if_pos hbig]) (by decide) _ _ ((Ext.refl _ _).app _) errM_zero)
 have z1:decide ((bs.length:Int) > 1048576) = false:=decide_eq_false (by omega)
 obtain ⟨R,hRdef⟩:∃ R,R = rdMsg (qM D) bs:=⟨_,rfl⟩
 have hrr:rdR D bs = R:=by rw [hRdef]; unfold rdR; rw [if_neg hbig]
 rw [hrr] at hEE hOO
 refine codeP_seq (pl:=pl86) tabOk follows_mixed (by kernel_rfl) _ ?_ (fun s h=>h)
 simp -implicitDefEqProofs (maxSteps:=1000000) (disch:=omega) only [↓zzP,zzA,reduceIte,reduceCtorEq,Nat.reduceLT,↓reduceIte,↓gd,↓opP,↓qv,slot,putS,putO,ofV,lenS,binH,binS2,binS,z1]
 repeat (refine ⟨by omega,?_⟩)
 refine into_refl ?_
 refine codeP_seq (pl:=pl86) tabOk follows_mixed (by kernel_rfl) _ ?_ (fun s h=>h)
 simp -implicitDefEqProofs (maxSteps:=1000000) (disch:=omega) only [↓zzP,zzA,zzB,reduceIte,reduceCtorEq,Nat.reduceLT,↓reduceIte,Nat.reduceLeDiff,↓gd,↓opP,↓qv,↓ef,slot,putS,putO,sz,wrF,plT,bldS,stor]
 repeat (refine ⟨by omega,?_⟩)
 refine into_refl ?_
 obtain ⟨J5,hJ5⟩:∃ J:St→Prop,∀ st,J st ↔ (∃ (H:List Chunk) (km:Nat) (k f v s:Int) (d:Nat→By) (s5 s6 s7 s8:Sl) (key:Int) (of:Nat→By) (sv:SV) (r:List By) (er:Int) (j:Nat→Value),Ext (fun _=>False) h H∧lookH H h.length = Chunk.cells true [.int .i64 0,.int .i64 0,.int .i64 0,.int .i64 0,.fam 32 1 fun _=>.int .u8 0,.v (.slice none 0 0),.v (.slice none 0 0),.v (.slice none 0 0),.v (.slice none 0 0),.int .i64 0,.fam 32 1 fun _=>.int .u8 0]∧lookH H (h.length+1) = .cells true [sv,.int .i64 er]∧RdB H sv r∧h.length+1 < km∧lookH H km = .cells true [.int .i64 k,.int .i64 f,.int .i64 v,.int .i64 s,.fam 32 1 fun i=>.int .u8 (nat (d i)),Sl.sv 1 s5,Sl.sv 1 s6,Sl.sv 73 s7,Sl.sv 74 s8,.int .i64 key,.fam 32 1 fun i=>.int .u8 (nat (of i))]∧((er ≠ 0∧R = .error er) ∨ (er = 0∧r.length≤1048576∧True∧rng k∧rng f∧rng v∧rng s∧s6 = .nil∧s7 = .nil∧s8 = .nil∧R = r5 (qM D) k f v s d r))∧st = ⟨⟨125,[(1,.int .i64 dp),(4,.ptr h.length 0),(6,.ptr (h.length+1) 0),(7,.ptr km 0)],j⟩,H,[]⟩):=⟨_,fun _=>Iff.rfl⟩
 refine codeP_seq (pl:=pl86) tabOk follows_mixed (by kernel_rfl) J5 ?_ ?_
 ·simp -implicitDefEqProofs (maxSteps:=1000000) (disch:=omega) only [↓zzP,zzA,reduceIte,Nat.reduceLT,↓reduceIte,↓gd,↓opP,↓qv,slot,putS,putO]
  repeat (refine ⟨by omega,?_⟩)
  obtain ⟨H0,hH0⟩:∃ H0,H0 = h++[Chunk.cells true [.int .i64 0,.int .i64 0,.int .i64 0,.int .i64 0,.fam 32 1 fun _=>.int .u8 0,.v (.slice none 0 0),.v (.slice none 0 0),.v (.slice none 0 0),.v (.slice none 0 0),.int .i64 0,.fam 32 1 fun _=>.int .u8 0],.cells true [.osl k0 d0 e0 1 bs.length,.int .i64 0]]:=⟨_,rfl⟩
  have hEh0:Ext (fun _=>False) h H0:=by rw [hH0]; exact (Ext.refl _ _).app _
  have hz0:lookH H0 h.length = Chunk.cells true [.int .i64 0,.int .i64 0,.int .i64 0,.int .i64 0,.fam 32 1 fun _=>.int .u8 0,.v (.slice none 0 0),.v (.slice none 0 0),.v (.slice none 0 0),.v (.slice none 0 0),.int .i64 0,.fam 32 1 fun _=>.int .u8 0]:=by rw [hH0]; exact lookH_app0 _ _
  have hk0:lookH H0 (h.length+1) = .cells true [.osl k0 d0 e0 1 bs.length,.int .i64 0]:=by rw [hH0]; exact lookH_app _ 1 _
  have hB0:RdB H0 (.osl k0 d0 e0 1 bs.length) bs:=⟨k0,d0,e0,w0,N0,F0,rfl,hEh0.look hr0 (by simp) fun h=>h,hN0,hF0⟩
  rw [← hH0]
  clear hH0
  have hR:R = rdMsg (qM D) bs:=hRdef
  have wz:IntKind.i64.wrap 0 = 0:=rfl
  refine c137 bs H0 _ _ hk0 hB0 hl0 _ (fun e2 he H1 sv1 ra1 hE1 hk1 hB1=>?_) (fun y0 ra1 he H1 sv1 hE1 hk1 hB1=>?_)
  ·have hpe:=pK_e he
   have hne:=pKind_ne hpe
   have hR2:R = .error e2:=by rw [hR]; simp only [rdMsg,hpe]
   have hEn:=ext_new hEh0 hE1 (Nat.le_succ _)
   have hzn:=hE1.look hz0 (by simp) fun h=>absurd h (by omega)
   obtain ⟨k1,d1,x1,w1,N1,F1,rfl,hr1,hN1,hF1⟩:=id hB1
   have hkx:=hk1
   simp -implicitDefEqProofs (maxSteps:=1000000) (disch:=omega) only [↓zzP,zzA,reduceIte,Nat.reduceLT,↓reduceIte,Nat.reduceEqDiff,↓gd,↓opP,↓qv,slot,putS,putO,convS,wz]
   repeat (refine ⟨by omega,?_⟩)
   refine c138x H1 _ k1 d1 x1 _ e2 hkx hne _ ?_
   simp -implicitDefEqProofs (maxSteps:=1000000) (disch:=omega) only [↓zzP,zzA,reduceIte,Nat.reduceLT,↓reduceIte,Nat.reduceEqDiff,↓gd,↓opP,↓qv,slot,putS,putO,ofV]
   repeat (refine ⟨by omega,?_⟩)
   refine c139x H1 _ k1 d1 x1 _ e2 hkx hne 4611686018427387904 4 _ ?_
   simp -implicitDefEqProofs (maxSteps:=1000000) (disch:=omega) only [↓zzP,zzA,reduceIte,Nat.reduceLT,↓reduceIte,Nat.reduceEqDiff,↓gd,↓opP,↓qv,slot,putS,putO,ofV,convS,wz]
   repeat (refine ⟨by omega,?_⟩)
   refine c139x H1 _ k1 d1 x1 _ e2 hkx hne 4611686018427387904 4 _ ?_
   simp -implicitDefEqProofs (maxSteps:=1000000) (disch:=omega) only [↓zzP,zzA,reduceIte,Nat.reduceLT,↓reduceIte,Nat.reduceEqDiff,↓gd,↓opP,↓qv,slot,putS,putO,convS,wz]
   repeat (refine ⟨by omega,?_⟩)
   refine c140x H1 _ k1 d1 x1 _ e2 hkx hne _ (fun H6 hE6=>?_)
   simp -implicitDefEqProofs (maxSteps:=1000000) (disch:=omega) only [↓zzP,zzA,zzL,zzB,Nat.reduceSub,reduceIte,reduceCtorEq,Nat.reduceLT,↓reduceIte,Nat.reduceEqDiff,Nat.reduceLeDiff,Nat.reduceAdd,↓gd,↓opP,↓qv,↓ef,↓stS,slot,putS,putO,sz,wrF,plT,bldS,stor,Value.oneCell']
   repeat (refine ⟨by omega,?_⟩)
   have hE7:=hEn.trans hE6
   have hz7:=hE6.look hzn (by simp) fun h=>h
   have hk7:=hE6.look hkx (by simp) fun h=>h
   have hB7:=RdB.ext hB1 (ext_rows hE6 fun _ h=>h.elim)
   exact into_keep [(1,.int .i64 dp),(4,.ptr h.length 0),(6,.ptr (h.length+1) 0),(7,.ptr (H6).length 0)] (by simp [sameT,slot,lkL]) fun j=>(hJ5 _).2 ⟨_,(H6).length,0,0,0,0,fun _=>0,.nil,.nil,.nil,.nil,0,fun _=>0,_,_,_,j,(hE7).app _,by rw [lookH_at _ (lookH_lt hz7 (by simp))]; exact hz7,by rw [lookH_at _ (lookH_lt hk7 (by simp))]; exact hk7,RdB.ext hB7 (extR_app _ _),lookH_lt hk7 (by simp),lookH_app0 _ _,.inl ⟨hne,hR2⟩,rfl⟩
  ·have hp0:=pK_o he
   have hpo:=pKind_ok hp0
   obtain ⟨x0,hx0⟩:∃ x:Int,x = ((y0.toNat:Nat):Int):=⟨_,rfl⟩
   rw [← hx0] at hp0 hpo
   have wx0:IntKind.i64.wrap (nat y0) = x0:=by rw [hx0]; have:=hpo.1; unfold rng at this; exact wrap64 (by unfold nat; omega) (by unfold nat; omega)
   simp only [rdMsg,hp0] at hR
   have hEh1:=ext_new hEh0 hE1 (Nat.le_succ _)
   have hz1:=hE1.look hz0 (by simp) fun h=>absurd h (by omega)
   have hrg0:=hpo.1
   have hln1:ra1.length≤1048576:=by have:=hpo.2; omega
   clear hpo he hp0
   simp -implicitDefEqProofs (maxSteps:=1000000) (disch:=omega) only [↓zzP,zzA,reduceIte,Nat.reduceLT,↓reduceIte,Nat.reduceEqDiff,↓gd,↓opP,↓qv,slot,putS,putO,convS,wx0]
   repeat (refine ⟨by omega,?_⟩)
   refine c138 ra1 H1 _ _ hk1 hB1 (by omega) _ (fun e2 he H2 sv2 ra2 hE2 hk2 hB2=>?_) (fun x1v ra2 he H2 sv2 hE2 hk2 hB2=>?_)
   ·have hpe:=he
    have hne:=pInt_ne hpe
    have hR2:R = .error e2:=by rw [hR]; simp only [r1,hpe]
    have hEn:=ext_new hEh1 hE2 (Nat.le_succ _)
    have hzn:=hE2.look hz1 (by simp) fun h=>absurd h (by omega)
    obtain ⟨k1,d1,x1,w1,N1,F1,rfl,hr1,hN1,hF1⟩:=id hB2
    have hkx:=hk2
    simp -implicitDefEqProofs (maxSteps:=1000000) (disch:=omega) only [↓zzP,zzA,reduceIte,Nat.reduceLT,↓reduceIte,Nat.reduceEqDiff,↓gd,↓opP,↓qv,slot,putS,putO,ofV]
    repeat (refine ⟨by omega,?_⟩)
    refine c139x H2 _ k1 d1 x1 _ e2 hkx hne 4611686018427387904 4 _ ?_
    simp -implicitDefEqProofs (maxSteps:=1000000) (disch:=omega) only [↓zzP,zzA,reduceIte,Nat.reduceLT,↓reduceIte,Nat.reduceEqDiff,↓gd,↓opP,↓qv,slot,putS,putO,ofV,convS,wz]
    repeat (refine ⟨by omega,?_⟩)
    refine c139x H2 _ k1 d1 x1 _ e2 hkx hne 4611686018427387904 4 _ ?_
    simp -implicitDefEqProofs (maxSteps:=1000000) (disch:=omega) only [↓zzP,zzA,reduceIte,Nat.reduceLT,↓reduceIte,Nat.reduceEqDiff,↓gd,↓opP,↓qv,slot,putS,putO,convS,wz]
    repeat (refine ⟨by omega,?_⟩)
    refine c140x H2 _ k1 d1 x1 _ e2 hkx hne _ (fun H6 hE6=>?_)
    simp -implicitDefEqProofs (maxSteps:=1000000) (disch:=omega) only [↓zzP,zzA,zzL,zzB,Nat.reduceSub,reduceIte,reduceCtorEq,Nat.reduceLT,↓reduceIte,Nat.reduceEqDiff,Nat.reduceLeDiff,Nat.reduceAdd,↓gd,↓opP,↓qv,↓ef,↓stS,slot,putS,putO,sz,wrF,plT,bldS,stor,Value.oneCell']
    repeat (refine ⟨by omega,?_⟩)
    have hE7:=hEn.trans hE6
    have hz7:=hE6.look hzn (by simp) fun h=>h
    have hk7:=hE6.look hkx (by simp) fun h=>h
    have hB7:=RdB.ext hB2 (ext_rows hE6 fun _ h=>h.elim)
    exact into_keep [(1,.int .i64 dp),(4,.ptr h.length 0),(6,.ptr (h.length+1) 0),(7,.ptr (H6).length 0)] (by simp [sameT,slot,lkL]) fun j=>(hJ5 _).2 ⟨_,(H6).length,x0,0,0,0,fun _=>0,.nil,.nil,.nil,.nil,0,fun _=>0,_,_,_,j,(hE7).app _,by rw [lookH_at _ (lookH_lt hz7 (by simp))]; exact hz7,by rw [lookH_at _ (lookH_lt hk7 (by simp))]; exact hk7,RdB.ext hB7 (extR_app _ _),lookH_lt hk7 (by simp),lookH_app0 _ _,.inl ⟨hne,hR2⟩,rfl⟩
   ·have hp1:=he
    have hpo:=pInt_ok hp1
    simp only [r1,hp1] at hR
    have hEh2:=ext_new hEh1 hE2 (Nat.le_succ _)
    have hz2:=hE2.look hz1 (by simp) fun h=>absurd h (by omega)
    have hrg1:=hpo.1
    have hln2:ra2.length≤1048576:=by have:=hpo.2; omega
    clear hpo he hp1
    simp -implicitDefEqProofs (maxSteps:=1000000) (disch:=omega) only [↓zzP,zzA,reduceIte,Nat.reduceLT,↓reduceIte,Nat.reduceEqDiff,↓gd,↓opP,↓qv,slot,putS,putO,ofV]
    repeat (refine ⟨by omega,?_⟩)
    refine c139 ra2 H2 _ _ hk2 hB2 (by omega) 4611686018427387904 4 (by decide) _ (fun e2 he H3 sv3 ra3 hE3 hk3 hB3=>?_) (fun y2 ra3 he H3 sv3 hE3 hk3 hB3=>?_)
    ·have hpe:=pN_e he
     have hne:=pNum_ne hpe
     have hR2:R = .error e2:=by rw [hR]; simp only [r2,hpe]
     have hEn:=ext_new hEh2 hE3 (Nat.le_succ _)
     have hzn:=hE3.look hz2 (by simp) fun h=>absurd h (by omega)
     obtain ⟨k1,d1,x1,w1,N1,F1,rfl,hr1,hN1,hF1⟩:=id hB3
     have hkx:=hk3
     simp -implicitDefEqProofs (maxSteps:=1000000) (disch:=omega) only [↓zzP,zzA,reduceIte,Nat.reduceLT,↓reduceIte,Nat.reduceEqDiff,↓gd,↓opP,↓qv,slot,putS,putO,ofV,convS,wz]
     repeat (refine ⟨by omega,?_⟩)
     refine c139x H3 _ k1 d1 x1 _ e2 hkx hne 4611686018427387904 4 _ ?_
     simp -implicitDefEqProofs (maxSteps:=1000000) (disch:=omega) only [↓zzP,zzA,reduceIte,Nat.reduceLT,↓reduceIte,Nat.reduceEqDiff,↓gd,↓opP,↓qv,slot,putS,putO,convS,wz]
     repeat (refine ⟨by omega,?_⟩)
     refine c140x H3 _ k1 d1 x1 _ e2 hkx hne _ (fun H6 hE6=>?_)
     simp -implicitDefEqProofs (maxSteps:=1000000) (disch:=omega) only [↓zzP,zzA,zzL,zzB,Nat.reduceSub,reduceIte,reduceCtorEq,Nat.reduceLT,↓reduceIte,Nat.reduceEqDiff,Nat.reduceLeDiff,Nat.reduceAdd,↓gd,↓opP,↓qv,↓ef,↓stS,slot,putS,putO,sz,wrF,plT,bldS,stor,Value.oneCell']
     repeat (refine ⟨by omega,?_⟩)
     have hE7:=hEn.trans hE6
     have hz7:=hE6.look hzn (by simp) fun h=>h
     have hk7:=hE6.look hkx (by simp) fun h=>h
     have hB7:=RdB.ext hB3 (ext_rows hE6 fun _ h=>h.elim)
     exact into_keep [(1,.int .i64 dp),(4,.ptr h.length 0),(6,.ptr (h.length+1) 0),(7,.ptr (H6).length 0)] (by simp [sameT,slot,lkL]) fun j=>(hJ5 _).2 ⟨_,(H6).length,x0,x1v,0,0,fun _=>0,.nil,.nil,.nil,.nil,0,fun _=>0,_,_,_,j,(hE7).app _,by rw [lookH_at _ (lookH_lt hz7 (by simp))]; exact hz7,by rw [lookH_at _ (lookH_lt hk7 (by simp))]; exact hk7,RdB.ext hB7 (extR_app _ _),lookH_lt hk7 (by simp),lookH_app0 _ _,.inl ⟨hne,hR2⟩,rfl⟩
    ·have hp2:=pN_o he
     have hpo:=pNum_ok hp2
     obtain ⟨x2,hx2⟩:∃ x:Int,x = ((y2.toNat:Nat):Int):=⟨_,rfl⟩
     rw [← hx2] at hp2 hpo
     have wx2:IntKind.i64.wrap (nat y2) = x2:=by rw [hx2]; have:=hpo.1; unfold rng at this; exact wrap64 (by unfold nat; omega) (by unfold nat; omega)
     simp only [r2,hp2] at hR
     have hEh3:=ext_new hEh2 hE3 (Nat.le_succ _)
     have hz3:=hE3.look hz2 (by simp) fun h=>absurd h (by omega)
     have hrg2:=hpo.1
     have hln3:ra3.length≤1048576:=by have:=hpo.2; omega
     clear hpo he hp2
     simp -implicitDefEqProofs (maxSteps:=1000000) (disch:=omega) only [↓zzP,zzA,reduceIte,Nat.reduceLT,↓reduceIte,Nat.reduceEqDiff,↓gd,↓opP,↓qv,slot,putS,putO,ofV,convS,wx2]
     repeat (refine ⟨by omega,?_⟩)
     refine c139 ra3 H3 _ _ hk3 hB3 (by omega) 4611686018427387904 4 (by decide) _ (fun e2 he H4 sv4 ra4 hE4 hk4 hB4=>?_) (fun y3 ra4 he H4 sv4 hE4 hk4 hB4=>?_)
     ·have hpe:=pN_e he
      have hne:=pNum_ne hpe
      have hR2:R = .error e2:=by rw [hR]; simp only [r3,hpe]
      have hEn:=ext_new hEh3 hE4 (Nat.le_succ _)
      have hzn:=hE4.look hz3 (by simp) fun h=>absurd h (by omega)
      obtain ⟨k1,d1,x1,w1,N1,F1,rfl,hr1,hN1,hF1⟩:=id hB4
      have hkx:=hk4
      simp -implicitDefEqProofs (maxSteps:=1000000) (disch:=omega) only [↓zzP,zzA,reduceIte,Nat.reduceLT,↓reduceIte,Nat.reduceEqDiff,↓gd,↓opP,↓qv,slot,putS,putO,convS,wz]
      repeat (refine ⟨by omega,?_⟩)
      refine c140x H4 _ k1 d1 x1 _ e2 hkx hne _ (fun H6 hE6=>?_)
      simp -implicitDefEqProofs (maxSteps:=1000000) (disch:=omega) only [↓zzP,zzA,zzL,zzB,Nat.reduceSub,reduceIte,reduceCtorEq,Nat.reduceLT,↓reduceIte,Nat.reduceEqDiff,Nat.reduceLeDiff,Nat.reduceAdd,↓gd,↓opP,↓qv,↓ef,↓stS,slot,putS,putO,sz,wrF,plT,bldS,stor,Value.oneCell']
      repeat (refine ⟨by omega,?_⟩)
      have hE7:=hEn.trans hE6
      have hz7:=hE6.look hzn (by simp) fun h=>h
      have hk7:=hE6.look hkx (by simp) fun h=>h
      have hB7:=RdB.ext hB4 (ext_rows hE6 fun _ h=>h.elim)
      exact into_keep [(1,.int .i64 dp),(4,.ptr h.length 0),(6,.ptr (h.length+1) 0),(7,.ptr (H6).length 0)] (by simp [sameT,slot,lkL]) fun j=>(hJ5 _).2 ⟨_,(H6).length,x0,x1v,x2,0,fun _=>0,.nil,.nil,.nil,.nil,0,fun _=>0,_,_,_,j,(hE7).app _,by rw [lookH_at _ (lookH_lt hz7 (by simp))]; exact hz7,by rw [lookH_at _ (lookH_lt hk7 (by simp))]; exact hk7,RdB.ext hB7 (extR_app _ _),lookH_lt hk7 (by simp),lookH_app0 _ _,.inl ⟨hne,hR2⟩,rfl⟩
     ·have hp3:=pN_o he
      have hpo:=pNum_ok hp3
      obtain ⟨x3,hx3⟩:∃ x:Int,x = ((y3.toNat:Nat):Int):=⟨_,rfl⟩
      rw [← hx3] at hp3 hpo
      have wx3:IntKind.i64.wrap (nat y3) = x3:=by rw [hx3]; have:=hpo.1; unfold rng at this; exact wrap64 (by unfold nat; omega) (by unfold nat; omega)
      simp only [r3,hp3] at hR
      have hEh4:=ext_new hEh3 hE4 (Nat.le_succ _)
      have hz4:=hE4.look hz3 (by simp) fun h=>absurd h (by omega)
      have hrg3:=hpo.1
      have hln4:ra4.length≤1048576:=by have:=hpo.2; omega
      clear hpo he hp3
      simp -implicitDefEqProofs (maxSteps:=1000000) (disch:=omega) only [↓zzP,zzA,reduceIte,Nat.reduceLT,↓reduceIte,Nat.reduceEqDiff,↓gd,↓opP,↓qv,slot,putS,putO,convS,wx3]
      repeat (refine ⟨by omega,?_⟩)
      refine c140 ra4 H4 _ _ hk4 hB4 (by omega) _ (fun e2 he H5 sv5 ra5 hE5 hk5 hB5=>?_) (fun x4 ra5 he H5 sv5 hE5 hk5 hB5=>?_)
      ·have hpe:=he
       have hne:=pDig_ne hpe
       have hR2:R = .error e2:=by rw [hR]; simp only [r4,hpe]
       have hEn:=ext_new hEh4 hE5 (Nat.le_succ _)
       have hzn:=hE5.look hz4 (by simp) fun h=>absurd h (by omega)
       simp -implicitDefEqProofs (maxSteps:=1000000) (disch:=omega) only [↓zzP,zzA,zzL,zzB,Nat.reduceSub,reduceIte,reduceCtorEq,Nat.reduceLT,↓reduceIte,Nat.reduceEqDiff,Nat.reduceLeDiff,Nat.reduceAdd,↓gd,↓opP,↓qv,↓ef,↓stS,slot,putS,putO,sz,wrF,plT,bldS,stor,Value.oneCell']
       repeat (refine ⟨by omega,?_⟩)
       exact into_keep [(1,.int .i64 dp),(4,.ptr h.length 0),(6,.ptr (h.length+1) 0),(7,.ptr (H5).length 0)] (by simp [sameT,slot,lkL]) fun j=>(hJ5 _).2 ⟨_,(H5).length,x0,x1v,x2,x3,fun _=>0,.nil,.nil,.nil,.nil,0,fun _=>0,_,_,_,j,(hEn).app _,by rw [lookH_at _ (lookH_lt hzn (by simp))]; exact hzn,by rw [lookH_at _ (lookH_lt hk5 (by simp))]; exact hk5,RdB.ext hB5 (extR_app _ _),lookH_lt hk5 (by simp),lookH_app0 _ _,.inl ⟨hne,hR2⟩,rfl⟩
      ·have hp4:=he
       have hpo:=pDig_ok hp4
       simp only [r4,hp4] at hR
       have hEh5:=ext_new hEh4 hE5 (Nat.le_succ _)
       have hz5:=hE5.look hz4 (by simp) fun h=>absurd h (by omega)
       have hln5:ra5.length≤1048576:=by omega
       clear hpo he hp4
       unfold dig32
       simp -implicitDefEqProofs (maxSteps:=1000000) (disch:=omega) only [↓zzP,zzA,zzL,zzB,Nat.reduceSub,reduceIte,reduceCtorEq,Nat.reduceLT,↓reduceIte,Nat.reduceEqDiff,Nat.reduceLeDiff,Nat.reduceAdd,↓gd,↓opP,↓qv,↓ef,↓stS,slot,putS,putO,sz,wrF,plT,bldS,stor,Value.oneCell']
       repeat (refine ⟨by omega,?_⟩)
       exact into_keep [(1,.int .i64 dp),(4,.ptr h.length 0),(6,.ptr (h.length+1) 0),(7,.ptr (H5).length 0)] (by simp [sameT,slot,lkL]) fun j=>(hJ5 _).2 ⟨_,(H5).length,x0,x1v,x2,x3,x4,.nil,.nil,.nil,.nil,0,fun _=>0,_,_,_,j,(hEh5).app _,by rw [lookH_at _ (lookH_lt hz5 (by simp))]; exact hz5,by rw [lookH_at _ (lookH_lt hk5 (by simp))]; exact hk5,RdB.ext hB5 (extR_app _ _),lookH_lt hk5 (by simp),lookH_app0 _ _,.inr ⟨rfl,hln5,trivial,hrg0,hrg1,hrg2,hrg3,rfl,rfl,rfl,hR⟩,rfl⟩
 intro st hst
 obtain ⟨H,km,k,f,v,s,d,s5,s6,s7,s8,key,of,sv,r,er,j,hE,hz,hk,hB,hkm,hm,hcase,rfl⟩:=(hJ5 st).1 hst
 clear hst
 have hzl:=lookH_lt hz (by simp)
 have hkl:=lookH_lt hk (by simp)
 have hml:=lookH_lt hm (by simp)
 obtain ⟨J6,hJ6⟩:∃ J:St→Prop,∀ st,J st ↔ (∃ (H:List Chunk) (km:Nat) (k f v s:Int) (d:Nat→By) (s5 s6 s7 s8:Sl) (key:Int) (of:Nat→By) (sv:SV) (r:List By) (er:Int) (j:Nat→Value),Ext (fun _=>False) h H∧lookH H h.length = Chunk.cells true [.int .i64 0,.int .i64 0,.int .i64 0,.int .i64 0,.fam 32 1 fun _=>.int .u8 0,.v (.slice none 0 0),.v (.slice none 0 0),.v (.slice none 0 0),.v (.slice none 0 0),.int .i64 0,.fam 32 1 fun _=>.int .u8 0]∧lookH H (h.length+1) = .cells true [sv,.int .i64 er]∧RdB H sv r∧h.length+1 < km∧lookH H km = .cells true [.int .i64 k,.int .i64 f,.int .i64 v,.int .i64 s,.fam 32 1 fun i=>.int .u8 (nat (d i)),Sl.sv 1 s5,Sl.sv 1 s6,Sl.sv 73 s7,Sl.sv 74 s8,.int .i64 key,.fam 32 1 fun i=>.int .u8 (nat (of i))]∧((er ≠ 0∧R = .error er) ∨ (er = 0∧r.length≤1048576∧True∧rng k∧rng f∧rng v∧rng s∧s7 = .nil∧s8 = .nil∧∃ (X:List (List By)) (m:Nat) (G:Nat→SV),X = []∧s6 = .at m X.length∧h.length≤m∧lookH H m = .row true X.length 1 (fun i=>G i)∧(∀ i (hi:i < X.length),RelBs (fresh h.length (putH H m .none)) X[i] (G i))∧(∃ kb,kb < m∧RdK kb H sv r)∧∃ b,rowB (fresh h.length (putH H m .none)) (Sl.sv 1 s5) b∧R = r6 (qM D) k f v s d b r))∧st = ⟨⟨125,[(1,.int .i64 dp),(4,.ptr h.length 0),(6,.ptr (h.length+1) 0),(7,.ptr km 0)],j⟩,H,[]⟩):=⟨_,fun _=>Iff.rfl⟩
 refine codeP_seq (pl:=pl86) tabOk follows_mixed (by kernel_rfl) J6 ?_ ?_
 ·rcases hcase with ⟨hne,hR⟩ | ⟨rfl,hln,-,hg1,hg2,hg3,hg4,rfl,rfl,rfl,hR⟩
  ·obtain ⟨k1,d1,x1,w1,N1,F1,rfl,hr1,hN1,hF1⟩:=id hB
   simp -implicitDefEqProofs (maxSteps:=1000000) (disch:=omega) only [↓zzP,zzA,reduceIte,Nat.reduceLT,↓reduceIte,Nat.reduceEqDiff,↓gd,↓opP,↓qv,slot,putS,putO,ofV]
   repeat (refine ⟨by omega,?_⟩)
   refine c141x H _ k1 d1 x1 _ er hk hne 8192 _ ?_
   simp -implicitDefEqProofs (maxSteps:=1000000) (disch:=omega) only [↓zzP,zzA,zzL,zzB,Nat.reduceSub,reduceIte,reduceCtorEq,Nat.reduceLT,↓reduceIte,Nat.reduceEqDiff,Nat.reduceLeDiff,↓gd,↓opP,↓qv,↓ef,↓stS,slot,putS,putO,fldA,sz,wrF,stor,Value.oneCell',hm,Sl.sz]
   repeat (refine ⟨by omega,?_⟩)
   exact into_keep [(1,.int .i64 dp),(4,.ptr h.length 0),(6,.ptr (h.length+1) 0),(7,.ptr km 0)] (by simp [sameT,slot,lkL]) fun j=>(hJ6 _).2 ⟨_,km,k,f,v,s,d,.nil,s6,s7,s8,key,of,_,_,_,j,hE.put (p:=km) _ (.inr (by omega)),by rw [lookH_put_ne _ (by omega)]; exact hz,by rw [lookH_put_ne _ (by omega)]; exact hk,RdB.put hB hm _,hkm,lookH_put_same _ (lookH_lt hm (by simp)),.inl ⟨hne,hR⟩,rfl⟩
  ·simp -implicitDefEqProofs (maxSteps:=1000000) (disch:=omega) only [↓zzP,zzA,reduceIte,Nat.reduceLT,↓reduceIte,Nat.reduceEqDiff,↓gd,↓opP,↓qv,slot,putS,putO,ofV]
   repeat (refine ⟨by omega,?_⟩)
   refine c141 r H _ _ hk hB (by omega) 8192 (by omega) _ (fun e2 he H1 sv1 ra hE1 hk1 hB1=>?_) (fun c ra he H1 sv1 k' hE1 hk1 hB1 hkl' hrow=>?_)
   ·have ht:=pB_e he
    have hne:=tb_err ht
    have hR2:R = .error e2:=by rw [hR]; simp only [r5,ht]
    have hEn:=ext_new hE hE1 (Nat.le_succ _)
    have hz1:=hE1.look hz (by simp) fun h=>absurd h (by omega)
    have hm1:=hE1.look hm (by simp) fun h=>absurd h (by omega)
    have hX:ExtR (fresh h.length H) (fresh h.length H1):=extR_fk hE1 hk
    have hle:=hE.1
    have hle1:=hE1.1
    have hkl1:=lookH_lt hk1 (by simp)
    have hml1:=lookH_lt hm1 (by simp)
    simp -implicitDefEqProofs (maxSteps:=1000000) (disch:=omega) only [↓zzP,zzA,zzL,zzB,Nat.reduceSub,reduceIte,reduceCtorEq,Nat.reduceLT,↓reduceIte,Nat.reduceEqDiff,Nat.reduceLeDiff,↓gd,↓opP,↓qv,↓ef,↓stS,slot,putS,putO,fldA,sz,wrF,stor,Value.oneCell',hm1,Sl.sz]
    repeat (refine ⟨by omega,?_⟩)
    exact into_keep [(1,.int .i64 dp),(4,.ptr h.length 0),(6,.ptr (h.length+1) 0),(7,.ptr km 0)] (by simp [sameT,slot,lkL]) fun j=>(hJ6 _).2 ⟨_,km,k,f,v,s,d,.nil,.nil,.nil,.nil,key,of,_,_,_,j,hEn.put (p:=km) _ (.inr (by omega)),by rw [lookH_put_ne _ (by omega)]; exact hz1,by rw [lookH_put_ne _ (by omega)]; exact hk1,RdB.put hB1 hm1 _,hkm,lookH_put_same _ (lookH_lt hm1 (by simp)),.inl ⟨hne,hR2⟩,rfl⟩
   ·obtain ⟨u,ht,rfl⟩:=pB_o he
    simp only [r5,ht] at hR
    have hu:=tb_ok ht
    have hEn:=ext_new hE hE1 (Nat.le_succ _)
    have hz1:=hE1.look hz (by simp) fun h=>absurd h (by omega)
    have hm1:=hE1.look hm (by simp) fun h=>absurd h (by omega)
    have hX:ExtR (fresh h.length H) (fresh h.length H1):=extR_fk hE1 hk
    have hle:=hE.1
    have hle1:=hE1.1
    have hkl1:=lookH_lt hk1 (by simp)
    have hml1:=lookH_lt hm1 (by simp)
    simp -implicitDefEqProofs (maxSteps:=1000000) (disch:=omega) only [↓zzP,zzA,zzL,zzB,Nat.reduceSub,reduceIte,reduceCtorEq,Nat.reduceLT,↓reduceIte,Nat.reduceEqDiff,Nat.reduceLeDiff,↓gd,↓opP,↓qv,↓ef,↓stS,slot,putS,putO,fldA,sz,wrF,stor,hm1,Sl.sz]
    repeat (refine ⟨by omega,?_⟩)
    obtain ⟨H2,hH2⟩:∃ H2,H2 = putH H1 km (.cells true [.int .i64 k,.int .i64 f,.int .i64 v,.int .i64 s,.fam 32 1 fun i=>.int .u8 (nat (d i)),.osl k' 0 0 1 c.length,Sl.sv 1 .nil,Sl.sv 73 .nil,Sl.sv 74 .nil,.int .i64 key,.fam 32 1 fun i=>.int .u8 (nat (of i))]):=⟨_,rfl⟩
    have hE2:Ext (fun _=>False) h H2:=by rw [hH2]; exact hEn.put (p:=km) _ (.inr (by omega))
    have hz2:lookH H2 h.length = Chunk.cells true [.int .i64 0,.int .i64 0,.int .i64 0,.int .i64 0,.fam 32 1 fun _=>.int .u8 0,.v (.slice none 0 0),.v (.slice none 0 0),.v (.slice none 0 0),.v (.slice none 0 0),.int .i64 0,.fam 32 1 fun _=>.int .u8 0]:=by rw [hH2,lookH_put_ne _ (by omega)]; exact hz1
    have hk2:lookH H2 (h.length+1) = .cells true [sv1,.int .i64 0]:=by rw [hH2,lookH_put_ne _ (by omega)]; exact hk1
    have hB2:=RdB.put hB1 hm1 (.cells true [.int .i64 k,.int .i64 f,.int .i64 v,.int .i64 s,.fam 32 1 fun i=>.int .u8 (nat (d i)),.osl k' 0 0 1 c.length,Sl.sv 1 .nil,Sl.sv 73 .nil,Sl.sv 74 .nil,.int .i64 key,.fam 32 1 fun i=>.int .u8 (nat (of i))])
    rw [← hH2] at hB2
    have hm2:lookH H2 km = .cells true [.int .i64 k,.int .i64 f,.int .i64 v,.int .i64 s,.fam 32 1 fun i=>.int .u8 (nat (d i)),.osl k' 0 0 1 c.length,Sl.sv 1 .nil,Sl.sv 73 .nil,Sl.sv 74 .nil,.int .i64 key,.fam 32 1 fun i=>.int .u8 (nat (of i))]:=by rw [hH2]; exact lookH_put_same _ hml1
    have hlen2:H2.length = H1.length:=by rw [hH2,putH_len]
    rw [← hH2]
    have hrow2:lookH H2 k' = .row true c.length 1 (bt c):=by rw [hH2,lookH_put_ne _ (fun e=>by rw [e,hm1] at hrow; cases hrow)]; exact hrow
    have hzl2:=lookH_lt hz2 (by simp)
    have hkl2:=lookH_lt hk2 (by simp)
    have hml2:=lookH_lt hm2 (by simp)
    obtain ⟨kb,hkb,hBk⟩:=hB2.k
    refine into_cellG ([.int .i64 k,.int .i64 f,.int .i64 v,.int .i64 s,.fam 32 1 fun i=>.int .u8 (nat (d i)),.osl k' 0 0 1 c.length,.osl H2.length 0 0 1 0,Sl.sv 73 .nil,Sl.sv 74 .nil,.int .i64 key,.fam 32 1 fun i=>.int .u8 (nat (of i))]) 1 (fun _=>.bool false) hm2 ?_ ?_ ?_ ?_
    ·intro ρ hρ
     simp [denC,den,hρ,Sl.sv,Sl.sz,Sl.parts,Sl.single]
    ·exact fun q=>⟨q.1,q.2.1,q.2.2.1,q.2.2.2.1,q.2.2.2.2.1,q.2.2.2.2.2.1,(by simp [ok]),q.2.2.2.2.2.2.2.1,q.2.2.2.2.2.2.2.2.1,q.2.2.2.2.2.2.2.2.2.1,q.2.2.2.2.2.2.2.2.2.2.1,trivial⟩
    ·exact fun q=>⟨q.1,q.2.1,q.2.2.1,q.2.2.2.1,q.2.2.2.2.1,q.2.2.2.2.2.1,(by simp [stor]),q.2.2.2.2.2.2.2.1,q.2.2.2.2.2.2.2.2.1,q.2.2.2.2.2.2.2.2.2.1,q.2.2.2.2.2.2.2.2.2.2.1,trivial⟩
    exact into_keep [(1,.int .i64 dp),(4,.ptr h.length 0),(6,.ptr (h.length+1) 0),(7,.ptr km 0)] (by simp [sameT,slot,lkL]) fun j=>(hJ6 _).2 ⟨_,km,k,f,v,s,d,(.at k' c.length),(.at H2.length 0),.nil,.nil,key,of,_,_,_,j,(hE2.put (p:=km) _ (.inr (by omega))).app _,by rw [lookH_at _ (by rw [putH_len]; exact hzl2),lookH_put_ne _ (by omega)]; exact hz2,by rw [lookH_at _ (by rw [putH_len]; exact hkl2),lookH_put_ne _ (by omega)]; exact hk2,RdB.ext (RdB.put hB2 hm2 _) (extR_app _ _),hkm,(lookH_at _ (by rw [putH_len]; exact hml2)).trans (lookH_put_same _ hml2),.inr ⟨rfl,by rw [List.length_drop]; omega,trivial,hg1,hg2,hg3,hg4,rfl,rfl,[],H2.length,fun _=>.bool false,rfl,rfl,by omega,lookH_pA0 _ _ _ _,fun i hi=>absurd hi (Nat.not_lt_zero _),⟨kb,hkb,RdK.ext (RdK.put hBk hm2 _) (extR_app _ _)⟩,c,⟨k',true,rfl,extR_nm hm2 _ _ _ _ _ _ _ (by rw [fresh_look,if_neg (by omega)]; exact hrow2)⟩,hR⟩,rfl⟩
 clear hzl hkl hml hcase hm hkm hB hk hz hE
 clear H km k f v s d s5 s6 s7 s8 key of sv r er j
 clear hJ5 J5
 intro st hst
 obtain ⟨H,km,k,f,v,s,d,s5,s6,s7,s8,key,of,sv,r,er,j,hE,hz,hk,hB,hkm,hm,hcase,rfl⟩:=(hJ6 st).1 hst
 clear hst
 have hzl:=lookH_lt hz (by simp)
 have hkl:=lookH_lt hk (by simp)
 have hml:=lookH_lt hm (by simp)
 obtain ⟨J7,hJ7⟩:∃ J:St→Prop,∀ st,J st ↔ (∃ (H:List Chunk) (km:Nat) (k f v s:Int) (d:Nat→By) (s5 s6 s7 s8:Sl) (key:Int) (of:Nat→By) (sv:SV) (r:List By) (er:Int) (j:Nat→Value),Ext (fun _=>False) h H∧lookH H h.length = Chunk.cells true [.int .i64 0,.int .i64 0,.int .i64 0,.int .i64 0,.fam 32 1 fun _=>.int .u8 0,.v (.slice none 0 0),.v (.slice none 0 0),.v (.slice none 0 0),.v (.slice none 0 0),.int .i64 0,.fam 32 1 fun _=>.int .u8 0]∧lookH H (h.length+1) = .cells true [sv,.int .i64 er]∧RdB H sv r∧h.length+1 < km∧lookH H km = .cells true [.int .i64 k,.int .i64 f,.int .i64 v,.int .i64 s,.fam 32 1 fun i=>.int .u8 (nat (d i)),Sl.sv 1 s5,Sl.sv 1 s6,Sl.sv 73 s7,Sl.sv 74 s8,.int .i64 key,.fam 32 1 fun i=>.int .u8 (nat (of i))]∧((er ≠ 0∧R = .error er) ∨ (er = 0∧r.length≤1048576∧True∧rng k∧rng f∧rng v∧rng s∧s8 = .nil∧∃ (X:List Msg) (m:Nat) (G:Nat→List SV),X = []∧s7 = .at m X.length∧h.length≤m∧lookH H m = .row true X.length 73 (fun i=>.agg (G i))∧(∀ i (hi:i < X.length),RelM (fresh h.length (putH H m .none)) X[i] (.agg (G i)))∧(∃ kb,kb < m∧RdK kb H sv r)∧∃ b bs2,rowB (fresh h.length (putH H m .none)) (Sl.sv 1 s5) b∧rowBs (fresh h.length (putH H m .none)) (Sl.sv 1 s6) bs2∧R = r7 (qM D) k f v s d b bs2 r))∧st = ⟨⟨125,[(1,.int .i64 dp),(4,.ptr h.length 0),(6,.ptr (h.length+1) 0),(7,.ptr km 0)],j⟩,H,[]⟩):=⟨_,fun _=>Iff.rfl⟩
 refine codeP_seq (pl:=pl86) tabOk follows_mixed (by kernel_rfl) J7 ?_ ?_
 ·rcases hcase with ⟨hne,hR⟩ | ⟨rfl,hln,-,hg1,hg2,hg3,hg4,rfl,rfl,X,m,G,rfl,rfl,hmm,hrow,hrel,⟨kb,hkb,hBk⟩,b,hb,hR⟩
  ·obtain ⟨k1,d1,x1,w1,N1,F1,rfl,hr1,hN1,hF1⟩:=id hB
   simp -implicitDefEqProofs (maxSteps:=1000000) (disch:=omega) only [↓zzP,zzA,zzL,reduceIte,Nat.reduceLT,↓reduceIte,Nat.reduceEqDiff,↓gd,↓opP,↓qv,slot,putS,putO,ofV]
   repeat (refine ⟨by omega,?_⟩)
   refine c139x H _ k1 d1 x1 _ er hk hne 512 18 _ ?_
   simp -implicitDefEqProofs (maxSteps:=1000000) (disch:=omega) only [↓zzP,zzA,reduceIte,reduceCtorEq,Nat.reduceLT,↓reduceIte,↓gd,↓opP,↓qv,putS,putO,ofV]
   repeat (refine ⟨by omega,?_⟩)
   refine codeP_loop (pl:=pl86) tabOk follows_mixed (by kernel_rfl) (fun z st=>∃ j:Nat→Value,st = ⟨⟨125,[(1,.int .i64 dp),(4,.ptr h.length 0),(6,.ptr (h.length+1) 0),(7,.ptr km 0),(34,.int .u64 0),(35,.int .u64 0)],j⟩,H,[]⟩) (into_keep [(1,.int .i64 dp),(4,.ptr h.length 0),(6,.ptr (h.length+1) 0),(7,.ptr km 0),(34,.int .u64 0),(35,.int .u64 0)] (by simp [sameT,slot,lkL]) fun j=>⟨0,j,rfl⟩) ?_
   rintro _ _ ⟨j,rfl⟩
   simp -implicitDefEqProofs (maxSteps:=1000000) (disch:=omega) only [↓zzP,zzA,zzL,reduceIte,reduceCtorEq,Nat.reduceLT,↓reduceIte,Nat.reduceEqDiff,Int.reduceLT,↓gd,↓opP,↓qv,slot,putS,putO,binH,binS2,binS]
   repeat (refine ⟨by omega,?_⟩)
   exact into_keep [(1,.int .i64 dp),(4,.ptr h.length 0),(6,.ptr (h.length+1) 0),(7,.ptr km 0)] (by simp [sameT,slot,lkL]) fun j=>(hJ7 _).2 ⟨_,km,k,f,v,s,d,s5,s6,s7,s8,key,of,_,_,_,j,hE,hz,hk,hB,hkm,hm,.inl ⟨hne,hR⟩,rfl⟩
  ·simp -implicitDefEqProofs (maxSteps:=1000000) (disch:=omega) only [↓zzP,zzA,zzL,reduceIte,Nat.reduceLT,↓reduceIte,Nat.reduceEqDiff,↓gd,↓opP,↓qv,slot,putS,putO,ofV]
   repeat (refine ⟨by omega,?_⟩)
   rw [r6_bnd] at hR
   refine k139 r H _ _ hk hBk (by omega) 512 18 (by decide) _ (fun e2 he H1 sv1 ra hE1 hk1 hB1=>?_) (fun y ra he H1 sv1 hE1 hk1 hB1=>?_)
   ·have hne:=pNumM_ne (by decide) he
    have hR2:R = .error e2:=by rw [hR,tlN_e he]; rfl
    have hEn:=ext_new hE hE1 (Nat.le_succ _)
    have hz1:=hE1.look hz (by simp) fun h=>absurd h (by omega)
    have hm1:=hE1.look hm (by simp) fun h=>absurd h (by omega)
    have hX:ExtR (fresh h.length H) (fresh h.length H1):=extR_fk hE1 hk
    have hle:=hE.1
    have hle1:=hE1.1
    have hkl1:=lookH_lt hk1 (by simp)
    have hml1:=lookH_lt hm1 (by simp)
    simp -implicitDefEqProofs (maxSteps:=1000000) (disch:=omega) only [↓zzP,zzA,reduceIte,reduceCtorEq,Nat.reduceLT,↓reduceIte,↓gd,↓opP,↓qv,putS,putO,ofV]
    repeat (refine ⟨by omega,?_⟩)
    refine codeP_loop (pl:=pl86) tabOk follows_mixed (by kernel_rfl) (fun z st=>∃ j:Nat→Value,st = ⟨⟨125,[(1,.int .i64 dp),(4,.ptr h.length 0),(6,.ptr (h.length+1) 0),(7,.ptr km 0),(34,.int .u64 0),(35,.int .u64 0)],j⟩,H1,[]⟩) (into_keep [(1,.int .i64 dp),(4,.ptr h.length 0),(6,.ptr (h.length+1) 0),(7,.ptr km 0),(34,.int .u64 0),(35,.int .u64 0)] (by simp [sameT,slot,lkL]) fun j=>⟨0,j,rfl⟩) ?_
    rintro _ _ ⟨j,rfl⟩
    simp -implicitDefEqProofs (maxSteps:=1000000) (disch:=omega) only [↓zzP,zzA,zzL,reduceIte,reduceCtorEq,Nat.reduceLT,↓reduceIte,Nat.reduceEqDiff,Int.reduceLT,↓gd,↓opP,↓qv,slot,putS,putO,binH,binS2,binS]
    repeat (refine ⟨by omega,?_⟩)
    exact into_keep [(1,.int .i64 dp),(4,.ptr h.length 0),(6,.ptr (h.length+1) 0),(7,.ptr km 0)] (by simp [sameT,slot,lkL]) fun j=>(hJ7 _).2 ⟨_,km,k,f,v,s,d,s5,_,_,_,key,of,_,_,_,j,hEn,hz1,hk1,hB1.b,hkm,hm1,.inl ⟨hne,hR2⟩,rfl⟩
   ·obtain ⟨ht,hy,hle2⟩:=tlN_o (q:=(fun b=>tb b 8192)) he
    rw [ht] at hR
    clear ht
    have hEn:=ext_new hE hE1 (Nat.le_succ _)
    have hz1:=hE1.look hz (by simp) fun h=>absurd h (by omega)
    have hm1:=hE1.look hm (by simp) fun h=>absurd h (by omega)
    have hX:ExtR (fresh h.length H) (fresh h.length H1):=extR_fk hE1 hk
    have hle:=hE.1
    have hle1:=hE1.1
    have hkl1:=lookH_lt hk1 (by simp)
    have hml1:=lookH_lt hm1 (by simp)
    obtain ⟨n,hn⟩:∃ n,n = y.toNat:=⟨_,rfl⟩
    rw [show nat y = ((y.toNat:Nat):Int) from rfl,← hn]
    rw [← hn] at hR hy
    simp -implicitDefEqProofs (maxSteps:=1000000) (disch:=omega) only [↓zzP,zzA,reduceIte,reduceCtorEq,Nat.reduceLT,↓reduceIte,↓gd,↓opP,↓qv,putS,putO,ofV]
    repeat (refine ⟨by omega,?_⟩)
    refine codeP_loop (pl:=pl86) tabOk follows_mixed (by kernel_rfl) (fun z st=>∃ (n i:Nat) (H:List Chunk) (km:Nat) (k f v s:Int) (d:Nat→By) (s5 s6:Sl) (key:Int) (of:Nat→By) (sv:SV) (r:List By) (j:Nat→Value),i+z = n∧n≤512∧Ext (fun _=>False) h H∧lookH H h.length = Chunk.cells true [.int .i64 0,.int .i64 0,.int .i64 0,.int .i64 0,.fam 32 1 fun _=>.int .u8 0,.v (.slice none 0 0),.v (.slice none 0 0),.v (.slice none 0 0),.v (.slice none 0 0),.int .i64 0,.fam 32 1 fun _=>.int .u8 0]∧lookH H (h.length+1) = .cells true [sv,.int .i64 0]∧h.length+1 < km∧lookH H km = .cells true [.int .i64 k,.int .i64 f,.int .i64 v,.int .i64 s,.fam 32 1 fun i=>.int .u8 (nat (d i)),Sl.sv 1 s5,Sl.sv 1 s6,Sl.sv 73 .nil,Sl.sv 74 .nil,.int .i64 key,.fam 32 1 fun i=>.int .u8 (nat (of i))]∧r.length≤1048576∧rng k∧rng f∧rng v∧rng s∧∃ (X:List (List By)) (m:Nat) (G:Nat→SV),X.length = i∧s6 = .at m X.length∧h.length≤m∧lookH H m = .row true X.length 1 (fun i=>G i)∧(∀ i (hi:i < X.length),RelBs (fresh h.length (putH H m .none)) X[i] (G i))∧∃ kb,kb < m∧RdK kb H sv r∧∃ b,rowB (fresh h.length (putH H m .none)) (Sl.sv 1 s5) b∧R = bndM (pre X (lp (fun b=>tb b 8192) z r)) (fun x:List (List By) × List By=>r7 (qM D) k f v s d b x.1 x.2)∧st = ⟨⟨125,[(1,.int .i64 dp),(4,.ptr h.length 0),(6,.ptr (h.length+1) 0),(7,.ptr km 0),(34,.int .u64 (n:Nat)),(35,.int .u64 (i:Nat))],j⟩,H,[]⟩) ?_ ?_
    ·exact into_keep [(1,.int .i64 dp),(4,.ptr h.length 0),(6,.ptr (h.length+1) 0),(7,.ptr km 0),(34,.int .u64 (n:Nat)),(35,.int .u64 0)] (by simp [sameT,slot,lkL]) fun j=>⟨n,n,0,H1,km,k,f,v,s,d,s5,_,key,of,sv1,ra,j,by omega,hy,hEn,hz1,hk1,hkm,hm1,by omega,hg1,hg2,hg3,hg4,[],m,G,rfl,rfl,hmm,ext_rd hE1 hk _ _ _ _ _ hrow,fun i hi=>absurd hi (Nat.not_lt_zero _),kb,hkb,hB1,b,hb.extR (extR_pk hE1 hk),by rw [pre_nil]; exact hR,rfl⟩
    clear hE hz hk hB hBk hkb hkm hm hzl hkl hml hEn hz1 hm1 hle1 hkl1 hml1 hE1 hk1 hB1 hX hle hb hrow hrel hmm hR he hy hn hle2 hln hg1 hg2 hg3 hg4
    rintro z st ⟨n,i,H,km,k,f,v,s,d,s5,s6,key,of,sv,r,j,hin,hn5,hE,hz,hk,hkm,hm,hln,hg1,hg2,hg3,hg4,X,m,G,hXi,rfl,hmm,hrow,hrel,kb,hkb,hBk,b,hb,hR,rfl⟩
    have hB:=hBk.b
    have hs:Sl.sv 1 (Sl.at m X.length) = .osl m 0 0 1 X.length:=rfl
    have hzl:=lookH_lt hz (by simp)
    have hkl:=lookH_lt hk (by simp)
    have hml:=lookH_lt hm (by simp)
    have hle0:=hE.1
    by_cases cz:0 < z
    ·obtain ⟨z,rfl⟩:∃ y,z = y+1:=⟨z - 1,by omega⟩
     have g1:decide ((i:Int) < (n:Int)) = true:=decide_eq_true (by omega)
     have g2:IntKind.u64.wrap ((i:Int)+1) = ((i+1:Nat):Int):=by
      rw [show (i:Int)+1 = ((i+1:Nat):Int) by omega]
      exact Go.Sx.wrap_small rfl (by omega) (by rw [show IntKind.u64.bits = 64 from rfl]; omega)
     simp -implicitDefEqProofs (maxSteps:=1000000) (disch:=omega) only [↓zzP,zzA,zzL,Nat.reduceSub,reduceIte,reduceCtorEq,Nat.reduceLT,↓reduceIte,Nat.reduceEqDiff,Nat.reduceLeDiff,Array.reduceGetElem?,↓gd,↓opP,↓qv,slot,putS,putO,ofV,fldA,rdF,Ent.row,ldS,sz,binH,binS2,binS,qn,ldN,pl86,g1,hm,Sl.sz,Sl.single]
     repeat (refine ⟨by omega,?_⟩)
     refine k141 r H _ _ hk hBk (by omega) 8192 (by omega) _ (fun e2 he H1 sv1 ra hE1 hk1 hB1=>?_) (fun c ra he H1 sv1 k' hE1 hk1 hB1 hkl' hrow'=>?_)
     ·have hEn:=ext_new hE hE1 (Nat.le_succ _)
      have hz1:=hE1.look hz (by simp) fun h=>absurd h (by omega)
      have hm1:=hE1.look hm (by simp) fun h=>absurd h (by omega)
      have hX:ExtR (fresh h.length H) (fresh h.length H1):=extR_fk hE1 hk
      have hle:=hE.1
      have hle1:=hE1.1
      have hkl1:=lookH_lt hk1 (by simp)
      have hml1:=lookH_lt hm1 (by simp)
      have hrow1:=ext_rd hE1 hk _ _ _ _ _ hrow
      have hrl1:=lookH_lt hrow1 (by simp)
      have ht:=pB_e he
      have hne:=tb_err ht
      have z1:(e2 != 0) = true:=bne_iff_ne.2 hne
      have hR2:R = .error e2:=by rw [hR,lp_e X ht]; rfl
      obtain ⟨k2,d2,x2,w2,N2,F2,rfl,hkb2,hr2,hN2,hF2⟩:=id hB1
      have hmk:m ≠ km:=fun e=>by rw [e,hm1] at hrow1; cases hrow1
      have hmr:m ≠ h.length+1:=fun e=>by rw [e,hk1] at hrow1; cases hrow1
      have hp1:=(lookH_put_ne .none (Ne.symm hmk)).trans hm1
      have hp2:∀ c l,lookH (putH (putH H1 m .none) km c++l) (h.length+1) = .cells true [.osl k2 d2 x2 1 ra.length,.int .i64 e2]:=fun c l=>by rw [lookH_at _ (by rw [putH_len,putH_len]; exact hkl1),lookH_put_ne _ (by omega),lookH_put_ne _ (Ne.symm hmr)]; exact hk1
      simp -implicitDefEqProofs (maxSteps:=1000000) (disch:=omega) only [↓zzP,zzA,zzL,zzB,Nat.reduceSub,reduceIte,reduceCtorEq,Nat.reduceLT,↓reduceIte,Nat.reduceEqDiff,Nat.reduceLeDiff,Array.reduceGetElem?,↓gd,↓opP,↓qv,↓ef,↓bslS,↓stS,↓appS,slot,putS,putO,ofV,fldA,rdF,Ent.row,ldS,sz,wrF,srcS,binH,binS2,binS,stor,Value.oneCell',qn,notInt,hs,z1,hm1,hrow1,hp1,hp2,putH_pC,lookH_at,putH_at,lookH_pB,Sl.sz]
      repeat (refine ⟨by omega,?_⟩)
      have hmz:m ≠ h.length:=fun e=>by rw [e,hz1] at hrow1; cases hrow1
      have hB1m:RdK kb (putH H1 m .none) _ _:=⟨k2,d2,x2,w2,N2,F2,rfl,hkb2,by rw [lookH_put_ne _ (by omega)]; exact hr2,hN2,hF2⟩
      have hz2:∀ c l,lookH (putH (putH H1 m .none) km c++l) h.length = Chunk.cells true [.int .i64 0,.int .i64 0,.int .i64 0,.int .i64 0,.fam 32 1 fun _=>.int .u8 0,.v (.slice none 0 0),.v (.slice none 0 0),.v (.slice none 0 0),.v (.slice none 0 0),.int .i64 0,.fam 32 1 fun _=>.int .u8 0]:=fun c l=>by rw [lookH_at _ (by rw [putH_len,putH_len]; exact lookH_lt hz1 (by simp)),lookH_put_ne _ (by omega),lookH_put_ne _ (Ne.symm hmz)]; exact hz1
      have hB2:=fun c l=>RdK.ext (RdK.put hB1m hp1 c) (extR_app _ l)
      have hE2:=fun c l=>((hEn.put (p:=m) .none (.inr hmm)).put (p:=km) c (.inr (by omega))).app l
      exact into_keep [(1,.int .i64 dp),(4,.ptr h.length 0),(6,.ptr (h.length+1) 0),(7,.ptr km 0)] (by simp [sameT,slot,lkL]) fun j=>(hJ7 _).2 ⟨_,km,k,f,v,s,d,s5,(.at (H1.length+1) (X.length+1)),.nil,.nil,key,of,_,_,_,j,hE2 _ _,hz2 _ _,hp2 _ _,(hB2 _ _).b,hkm,lookH_pD _ _ _ hml1,.inl ⟨hne,hR2⟩,rfl⟩
     ·have hEn:=ext_new hE hE1 (Nat.le_succ _)
      have hz1:=hE1.look hz (by simp) fun h=>absurd h (by omega)
      have hm1:=hE1.look hm (by simp) fun h=>absurd h (by omega)
      have hX:ExtR (fresh h.length H) (fresh h.length H1):=extR_fk hE1 hk
      have hle:=hE.1
      have hle1:=hE1.1
      have hkl1:=lookH_lt hk1 (by simp)
      have hml1:=lookH_lt hm1 (by simp)
      have hrow1:=ext_rd hE1 hk _ _ _ _ _ hrow
      have hrl1:=lookH_lt hrow1 (by simp)
      obtain ⟨u,ht,rfl⟩:=pB_o he
      have z1:((0:Int) != 0) = false:=rfl
      obtain ⟨k2,d2,x2,w2,N2,F2,rfl,hkb2,hr2,hN2,hF2⟩:=id hB1
      have hmk:m ≠ km:=fun e=>by rw [e,hm1] at hrow1; cases hrow1
      have hmr:m ≠ h.length+1:=fun e=>by rw [e,hk1] at hrow1; cases hrow1
      have hp1:=(lookH_put_ne .none (Ne.symm hmk)).trans hm1
      have hp2:∀ c l,lookH (putH (putH H1 m .none) km c++l) (h.length+1) = .cells true [.osl k2 d2 x2 1 (r.drop u).length,.int .i64 0]:=fun c l=>by rw [lookH_at _ (by rw [putH_len,putH_len]; exact hkl1),lookH_put_ne _ (by omega),lookH_put_ne _ (Ne.symm hmr)]; exact hk1
      simp -implicitDefEqProofs (maxSteps:=1000000) (disch:=omega) only [↓zzP,zzA,zzL,zzB,Nat.reduceSub,reduceIte,reduceCtorEq,Nat.reduceLT,↓reduceIte,Nat.reduceEqDiff,Nat.reduceLeDiff,Array.reduceGetElem?,↓gd,↓opP,↓qv,↓ef,↓bslS,↓stS,↓appS,slot,putS,putO,ofV,fldA,rdF,Ent.row,ldS,sz,wrF,srcS,binH,binS2,binS,stor,qn,notInt,hs,z1,g2,hm1,hrow1,hp1,hp2,putH_pC,lookH_at,putH_at,lookH_pB,Sl.sz]
      repeat (refine ⟨by omega,?_⟩)
      have hmz:m ≠ h.length:=fun e=>by rw [e,hz1] at hrow1; cases hrow1
      have hB1m:RdK kb (putH H1 m .none) _ _:=⟨k2,d2,x2,w2,N2,F2,rfl,hkb2,by rw [lookH_put_ne _ (by omega)]; exact hr2,hN2,hF2⟩
      have hz2:∀ c l,lookH (putH (putH H1 m .none) km c++l) h.length = Chunk.cells true [.int .i64 0,.int .i64 0,.int .i64 0,.int .i64 0,.fam 32 1 fun _=>.int .u8 0,.v (.slice none 0 0),.v (.slice none 0 0),.v (.slice none 0 0),.v (.slice none 0 0),.int .i64 0,.fam 32 1 fun _=>.int .u8 0]:=fun c l=>by rw [lookH_at _ (by rw [putH_len,putH_len]; exact lookH_lt hz1 (by simp)),lookH_put_ne _ (by omega),lookH_put_ne _ (Ne.symm hmz)]; exact hz1
      have hB2:=fun c l=>RdK.ext (RdK.put hB1m hp1 c) (extR_app _ l)
      have hE2:=fun c l=>((hEn.put (p:=m) .none (.inr hmm)).put (p:=km) c (.inr (by omega))).app l
      rw [lp_o X ht] at hR
      obtain ⟨LX,hLX⟩:∃ LX:SV,LX = .osl k' 0 0 1 c.length:=⟨_,rfl⟩
      refine into_sim (sim_two (c':=.row true (X.length+1) 1 (fun j=>if j < X.length then G j else LX)) (chSim_row rfl fun j hj=>?_)) ?_
      ·by_cases c3:j < X.length
       ·rw [if_pos c3,if_pos c3]
       ·rw [if_neg c3,if_neg c3,hLX,show j - X.length = 0 by omega]; rfl
      obtain ⟨X2,hX2⟩:∃ X2,X2 = X++[c]:=⟨_,rfl⟩
      have hXl:X.length+1 = X2.length:=by rw [hX2,List.length_append]; rfl
      have hrelN:RelBs (fresh H.length H1) c LX:=⟨k',true,hLX,by rw [fresh_look,if_neg (by omega)]; exact hrow'⟩
      have hmH:=lookH_lt hrow (by simp)
      rw [hXl]
      rw [← hX2] at hR
      exact into_keep [(1,.int .i64 dp),(4,.ptr h.length 0),(6,.ptr (h.length+1) 0),(7,.ptr km 0),(34,.int .u64 (n:Nat)),(35,.int .u64 ((i+1:Nat):Int))] (by simp [sameT,slot,lkL]) fun j=>⟨z,by omega,n,i+1,_,km,k,f,v,s,d,s5,(.at (H1.length+1) X2.length),key,of,_,_,j,by omega,hn5,hE2 _ _,hz2 _ _,hp2 _ _,hkm,lookH_pD _ _ _ hml1,by rw [List.length_drop]; omega,hg1,hg2,hg3,hg4,X2,H1.length+1,_,by omega,rfl,by omega,lookH_two _ _ _ H1 m km 1,fun i hi=>by
       rw [putH_two]
       by_cases c3:i < X.length
       ·have e:X2[i] = X[i]:=by simp [hX2,List.getElem_append_left c3]
        rw [e,if_pos c3]
        exact RelBs.mono _ _ _ _ (extR_lp1 hE1 hk hm1 _ _) (hrel i c3)
       ·have e:X2[i] = c:=by
         simp only [hX2]
         rw [List.getElem_append_right (by omega)]
         simp
        rw [e,if_neg c3]
        exact RelBs.mono _ _ _ _ (extR_lp2 hle0 hmH hm1 _ _) hrelN,kb,by omega,hB2 _ _,b,by rw [putH_two]; exact hb.extR (extR_lp1 hE1 hk hm1 _ _),hR,rfl⟩
    ·obtain rfl:z = 0:=by omega
     have g1:decide ((i:Int) < (n:Int)) = false:=decide_eq_false (by omega)
     simp -implicitDefEqProofs (maxSteps:=1000000) (disch:=omega) only [↓zzP,zzA,zzL,reduceIte,reduceCtorEq,Nat.reduceLT,↓reduceIte,Nat.reduceEqDiff,↓gd,↓opP,↓qv,slot,putS,putO,binH,binS2,binS,g1]
     repeat (refine ⟨by omega,?_⟩)
     have hR2:R = r7 (qM D) k f v s d b X r:=by rw [hR,lp]; simp only [pre,List.append_nil]; rfl
     have hzl2:=lookH_lt hz (by simp)
     have hkl2:=lookH_lt hk (by simp)
     have hml2:=lookH_lt hm (by simp)
     obtain ⟨kb,hkb,hBk⟩:=hB.k
     refine into_cellG ([.int .i64 k,.int .i64 f,.int .i64 v,.int .i64 s,.fam 32 1 fun i=>.int .u8 (nat (d i)),Sl.sv 1 s5,Sl.sv 1 (.at m X.length),.osl H.length 0 0 73 0,Sl.sv 74 .nil,.int .i64 key,.fam 32 1 fun i=>.int .u8 (nat (of i))]) 73 (fun i=>.agg ((fun _=>[]) i)) hm ?_ ?_ ?_ ?_
     ·intro ρ hρ
      simp [denC,den,hρ,Sl.sv,Sl.sz,Sl.parts,Sl.single]
     ·exact fun q=>⟨q.1,q.2.1,q.2.2.1,q.2.2.2.1,q.2.2.2.2.1,q.2.2.2.2.2.1,q.2.2.2.2.2.2.1,(by simp [ok]),q.2.2.2.2.2.2.2.2.1,q.2.2.2.2.2.2.2.2.2.1,q.2.2.2.2.2.2.2.2.2.2.1,trivial⟩
     ·exact fun q=>⟨q.1,q.2.1,q.2.2.1,q.2.2.2.1,q.2.2.2.2.1,q.2.2.2.2.2.1,q.2.2.2.2.2.2.1,(by simp [stor]),q.2.2.2.2.2.2.2.2.1,q.2.2.2.2.2.2.2.2.2.1,q.2.2.2.2.2.2.2.2.2.2.1,trivial⟩
     exact into_keep [(1,.int .i64 dp),(4,.ptr h.length 0),(6,.ptr (h.length+1) 0),(7,.ptr km 0)] (by simp [sameT,slot,lkL]) fun j=>(hJ7 _).2 ⟨_,km,k,f,v,s,d,s5,(.at m X.length),(.at H.length 0),.nil,key,of,_,_,_,j,(hE.put (p:=km) _ (.inr (by omega))).app _,by rw [lookH_at _ (by rw [putH_len]; exact hzl2),lookH_put_ne _ (by omega)]; exact hz,by rw [lookH_at _ (by rw [putH_len]; exact hkl2),lookH_put_ne _ (by omega)]; exact hk,RdB.ext (RdB.put hB hm _) (extR_app _ _),hkm,(lookH_at _ (by rw [putH_len]; exact hml2)).trans (lookH_put_same _ hml2),.inr ⟨rfl,hln,trivial,hg1,hg2,hg3,hg4,rfl,[],H.length,fun _=>[],rfl,rfl,by omega,lookH_pA0 _ _ _ _,fun i hi=>absurd hi (Nat.not_lt_zero _),⟨kb,hkb,RdK.ext (RdK.put hBk hm _) (extR_app _ _)⟩,b,X,hb.extR (extT extR_f1 (extR_nm hm _ _)),⟨m,true,G,rfl,extR_nm hm _ _ _ _ _ _ _ (by rw [fresh_look,if_neg (by omega)]; exact hrow),fun i hi=>by rw [show X.getD i [] = X[i] from by simp [hi]]; exact RelBs.mono _ _ _ _ (extT extR_f1 (extR_nm hm _ _)) (hrel i hi)⟩,hR2⟩,rfl⟩
 clear hzl hkl hml hcase hm hkm hB hk hz hE
 clear H km k f v s d s5 s6 s7 s8 key of sv r er j
 clear hJ6 J6
 intro st hst
 obtain ⟨H,km,k,f,v,s,d,s5,s6,s7,s8,key,of,sv,r,er,j,hE,hz,hk,hB,hkm,hm,hcase,rfl⟩:=(hJ7 st).1 hst
 clear hst
 have hzl:=lookH_lt hz (by simp)
 have hkl:=lookH_lt hk (by simp)
 have hml:=lookH_lt hm (by simp)
 obtain ⟨J8,hJ8⟩:∃ J:St→Prop,∀ st,J st ↔ (∃ (H:List Chunk) (km:Nat) (k f v s:Int) (d:Nat→By) (s5 s6 s7 s8:Sl) (key:Int) (of:Nat→By) (sv:SV) (r:List By) (er:Int) (j:Nat→Value),Ext (fun _=>False) h H∧lookH H h.length = Chunk.cells true [.int .i64 0,.int .i64 0,.int .i64 0,.int .i64 0,.fam 32 1 fun _=>.int .u8 0,.v (.slice none 0 0),.v (.slice none 0 0),.v (.slice none 0 0),.v (.slice none 0 0),.int .i64 0,.fam 32 1 fun _=>.int .u8 0]∧lookH H (h.length+1) = .cells true [sv,.int .i64 er]∧RdB H sv r∧h.length+1 < km∧lookH H km = .cells true [.int .i64 k,.int .i64 f,.int .i64 v,.int .i64 s,.fam 32 1 fun i=>.int .u8 (nat (d i)),Sl.sv 1 s5,Sl.sv 1 s6,Sl.sv 73 s7,Sl.sv 74 s8,.int .i64 key,.fam 32 1 fun i=>.int .u8 (nat (of i))]∧((er ≠ 0∧R = .error er) ∨ (er = 0∧r.length≤1048576∧True∧rng k∧rng f∧rng v∧rng s∧∃ (X:List (Msg × List Msg)) (m:Nat) (G:Nat→List SV),X = []∧s8 = .at m X.length∧h.length≤m∧lookH H m = .row true X.length 74 (fun i=>.agg (G i))∧(∀ i (hi:i < X.length),RelP (fresh h.length (putH H m .none)) X[i] (.agg (G i)))∧(∃ kb,kb < m∧RdK kb H sv r)∧∃ b bs2 p m7 f7,rowB (fresh h.length (putH H m .none)) (Sl.sv 1 s5) b∧rowBs (fresh h.length (putH H m .none)) (Sl.sv 1 s6) bs2∧s7 = .at m7 p.length∧lookH (fresh h.length (putH H m .none)) m7 = .row true p.length 73 (fun i=>.agg (f7 i))∧MsgsH (fresh h.length (putH H m .none)) p f7∧wfL p∧R = r8 (qM D) k f v s d b bs2 p r))∧st = ⟨⟨125,[(1,.int .i64 dp),(4,.ptr h.length 0),(6,.ptr (h.length+1) 0),(7,.ptr km 0)],j⟩,H,[]⟩):=⟨_,fun _=>Iff.rfl⟩
 refine codeP_seq (pl:=pl86) tabOk follows_mixed (by kernel_rfl) J8 ?_ ?_
 ·rcases hcase with ⟨hne,hR⟩ | ⟨rfl,hln,-,hg1,hg2,hg3,hg4,rfl,X,m,G,rfl,rfl,hmm,hrow,hrel,⟨kb,hkb,hBk⟩,b,bs2,hb,hbs,hR⟩
  ·obtain ⟨k1,d1,x1,w1,N1,F1,rfl,hr1,hN1,hF1⟩:=id hB
   simp -implicitDefEqProofs (maxSteps:=1000000) (disch:=omega) only [↓zzP,zzA,zzL,reduceIte,Nat.reduceLT,↓reduceIte,Nat.reduceEqDiff,↓gd,↓opP,↓qv,slot,putS,putO,ofV]
   repeat (refine ⟨by omega,?_⟩)
   refine c139x H _ k1 d1 x1 _ er hk hne 64 18 _ ?_
   simp -implicitDefEqProofs (maxSteps:=1000000) (disch:=omega) only [↓zzP,zzA,reduceIte,reduceCtorEq,Nat.reduceLT,↓reduceIte,↓gd,↓opP,↓qv,putS,putO,ofV]
   repeat (refine ⟨by omega,?_⟩)
   refine codeP_loop (pl:=pl86) tabOk follows_mixed (by kernel_rfl) (fun z st=>∃ j:Nat→Value,st = ⟨⟨125,[(1,.int .i64 dp),(4,.ptr h.length 0),(6,.ptr (h.length+1) 0),(7,.ptr km 0),(51,.int .u64 0),(52,.int .u64 0)],j⟩,H,[]⟩) (into_keep [(1,.int .i64 dp),(4,.ptr h.length 0),(6,.ptr (h.length+1) 0),(7,.ptr km 0),(51,.int .u64 0),(52,.int .u64 0)] (by simp [sameT,slot,lkL]) fun j=>⟨0,j,rfl⟩) ?_
   rintro _ _ ⟨j,rfl⟩
   simp -implicitDefEqProofs (maxSteps:=1000000) (disch:=omega) only [↓zzP,zzA,zzL,reduceIte,reduceCtorEq,Nat.reduceLT,↓reduceIte,Nat.reduceEqDiff,Int.reduceLT,↓gd,↓opP,↓qv,slot,putS,putO,binH,binS2,binS]
   repeat (refine ⟨by omega,?_⟩)
   exact into_keep [(1,.int .i64 dp),(4,.ptr h.length 0),(6,.ptr (h.length+1) 0),(7,.ptr km 0)] (by simp [sameT,slot,lkL]) fun j=>(hJ8 _).2 ⟨_,km,k,f,v,s,d,s5,s6,s7,s8,key,of,_,_,_,j,hE,hz,hk,hB,hkm,hm,.inl ⟨hne,hR⟩,rfl⟩
  ·simp -implicitDefEqProofs (maxSteps:=1000000) (disch:=omega) only [↓zzP,zzA,zzL,reduceIte,Nat.reduceLT,↓reduceIte,Nat.reduceEqDiff,↓gd,↓opP,↓qv,slot,putS,putO,ofV]
   repeat (refine ⟨by omega,?_⟩)
   rw [r7_bnd] at hR
   refine k139 r H _ _ hk hBk (by omega) 64 18 (by decide) _ (fun e2 he H1 sv1 ra hE1 hk1 hB1=>?_) (fun y ra he H1 sv1 hE1 hk1 hB1=>?_)
   ·have hne:=pNumM_ne (by decide) he
    have hR2:R = .error e2:=by rw [hR,tlN_e he]; rfl
    have hEn:=ext_new hE hE1 (Nat.le_succ _)
    have hz1:=hE1.look hz (by simp) fun h=>absurd h (by omega)
    have hm1:=hE1.look hm (by simp) fun h=>absurd h (by omega)
    have hX:ExtR (fresh h.length H) (fresh h.length H1):=extR_fk hE1 hk
    have hle:=hE.1
    have hle1:=hE1.1
    have hkl1:=lookH_lt hk1 (by simp)
    have hml1:=lookH_lt hm1 (by simp)
    simp -implicitDefEqProofs (maxSteps:=1000000) (disch:=omega) only [↓zzP,zzA,reduceIte,reduceCtorEq,Nat.reduceLT,↓reduceIte,↓gd,↓opP,↓qv,putS,putO,ofV]
    repeat (refine ⟨by omega,?_⟩)
    refine codeP_loop (pl:=pl86) tabOk follows_mixed (by kernel_rfl) (fun z st=>∃ j:Nat→Value,st = ⟨⟨125,[(1,.int .i64 dp),(4,.ptr h.length 0),(6,.ptr (h.length+1) 0),(7,.ptr km 0),(51,.int .u64 0),(52,.int .u64 0)],j⟩,H1,[]⟩) (into_keep [(1,.int .i64 dp),(4,.ptr h.length 0),(6,.ptr (h.length+1) 0),(7,.ptr km 0),(51,.int .u64 0),(52,.int .u64 0)] (by simp [sameT,slot,lkL]) fun j=>⟨0,j,rfl⟩) ?_
    rintro _ _ ⟨j,rfl⟩
    simp -implicitDefEqProofs (maxSteps:=1000000) (disch:=omega) only [↓zzP,zzA,zzL,reduceIte,reduceCtorEq,Nat.reduceLT,↓reduceIte,Nat.reduceEqDiff,Int.reduceLT,↓gd,↓opP,↓qv,slot,putS,putO,binH,binS2,binS]
    repeat (refine ⟨by omega,?_⟩)
    exact into_keep [(1,.int .i64 dp),(4,.ptr h.length 0),(6,.ptr (h.length+1) 0),(7,.ptr km 0)] (by simp [sameT,slot,lkL]) fun j=>(hJ8 _).2 ⟨_,km,k,f,v,s,d,s5,s6,_,_,key,of,_,_,_,j,hEn,hz1,hk1,hB1.b,hkm,hm1,.inl ⟨hne,hR2⟩,rfl⟩
   ·obtain ⟨ht,hy,hle2⟩:=tlN_o (q:=qM D) he
    rw [ht] at hR
    clear ht
    have hEn:=ext_new hE hE1 (Nat.le_succ _)
    have hz1:=hE1.look hz (by simp) fun h=>absurd h (by omega)
    have hm1:=hE1.look hm (by simp) fun h=>absurd h (by omega)
    have hX:ExtR (fresh h.length H) (fresh h.length H1):=extR_fk hE1 hk
    have hle:=hE.1
    have hle1:=hE1.1
    have hkl1:=lookH_lt hk1 (by simp)
    have hml1:=lookH_lt hm1 (by simp)
    obtain ⟨n,hn⟩:∃ n,n = y.toNat:=⟨_,rfl⟩
    rw [show nat y = ((y.toNat:Nat):Int) from rfl,← hn]
    rw [← hn] at hR hy
    simp -implicitDefEqProofs (maxSteps:=1000000) (disch:=omega) only [↓zzP,zzA,reduceIte,reduceCtorEq,Nat.reduceLT,↓reduceIte,↓gd,↓opP,↓qv,putS,putO,ofV]
    repeat (refine ⟨by omega,?_⟩)
    refine codeP_loop (pl:=pl86) tabOk follows_mixed (by kernel_rfl) (fun z st=>∃ (n i:Nat) (H:List Chunk) (km:Nat) (k f v s:Int) (d:Nat→By) (s5 s6 s7:Sl) (key:Int) (of:Nat→By) (sv:SV) (r:List By) (j:Nat→Value),i+z = n∧n≤64∧Ext (fun _=>False) h H∧lookH H h.length = Chunk.cells true [.int .i64 0,.int .i64 0,.int .i64 0,.int .i64 0,.fam 32 1 fun _=>.int .u8 0,.v (.slice none 0 0),.v (.slice none 0 0),.v (.slice none 0 0),.v (.slice none 0 0),.int .i64 0,.fam 32 1 fun _=>.int .u8 0]∧lookH H (h.length+1) = .cells true [sv,.int .i64 0]∧h.length+1 < km∧lookH H km = .cells true [.int .i64 k,.int .i64 f,.int .i64 v,.int .i64 s,.fam 32 1 fun i=>.int .u8 (nat (d i)),Sl.sv 1 s5,Sl.sv 1 s6,Sl.sv 73 s7,Sl.sv 74 .nil,.int .i64 key,.fam 32 1 fun i=>.int .u8 (nat (of i))]∧r.length≤1048576∧rng k∧rng f∧rng v∧rng s∧∃ (X:List Msg) (m:Nat) (G:Nat→List SV),X.length = i∧s7 = .at m X.length∧h.length≤m∧lookH H m = .row true X.length 73 (fun i=>.agg (G i))∧(∀ i (hi:i < X.length),RelM (fresh h.length (putH H m .none)) X[i] (.agg (G i)))∧∃ kb,kb < m∧RdK kb H sv r∧∃ b bs2,rowB (fresh h.length (putH H m .none)) (Sl.sv 1 s5) b∧rowBs (fresh h.length (putH H m .none)) (Sl.sv 1 s6) bs2∧R = bndM (pre X (lp (qM D) z r)) (fun x:List Msg × List By=>r8 (qM D) k f v s d b bs2 x.1 x.2)∧st = ⟨⟨125,[(1,.int .i64 dp),(4,.ptr h.length 0),(6,.ptr (h.length+1) 0),(7,.ptr km 0),(51,.int .u64 (n:Nat)),(52,.int .u64 (i:Nat))],j⟩,H,[]⟩) ?_ ?_
    ·exact into_keep [(1,.int .i64 dp),(4,.ptr h.length 0),(6,.ptr (h.length+1) 0),(7,.ptr km 0),(51,.int .u64 (n:Nat)),(52,.int .u64 0)] (by simp [sameT,slot,lkL]) fun j=>⟨n,n,0,H1,km,k,f,v,s,d,s5,s6,_,key,of,sv1,ra,j,by omega,hy,hEn,hz1,hk1,hkm,hm1,by omega,hg1,hg2,hg3,hg4,[],m,G,rfl,rfl,hmm,ext_rd hE1 hk _ _ _ _ _ hrow,fun i hi=>absurd hi (Nat.not_lt_zero _),kb,hkb,hB1,b,bs2,hb.extR (extR_pk hE1 hk),hbs.extR (extR_pk hE1 hk),by rw [pre_nil]; exact hR,rfl⟩
    clear hE hz hk hB hBk hkb hkm hm hzl hkl hml hEn hz1 hm1 hle1 hkl1 hml1 hE1 hk1 hB1 hX hle hb hbs hrow hrel hmm hR he hy hn hle2 hln hg1 hg2 hg3 hg4
    rintro z st ⟨n,i,H,km,k,f,v,s,d,s5,s6,s7,key,of,sv,r,j,hin,hn5,hE,hz,hk,hkm,hm,hln,hg1,hg2,hg3,hg4,X,m,G,hXi,rfl,hmm,hrow,hrel,kb,hkb,hBk,b,bs2,hb,hbs,hR,rfl⟩
    have hB:=hBk.b
    have hs:Sl.sv 73 (Sl.at m X.length) = .osl m 0 0 73 X.length:=rfl
    have hzl:=lookH_lt hz (by simp)
    have hkl:=lookH_lt hk (by simp)
    have hml:=lookH_lt hm (by simp)
    have hle0:=hE.1
    by_cases cz:0 < z
    ·obtain ⟨z,rfl⟩:∃ y,z = y+1:=⟨z - 1,by omega⟩
     have g1:decide ((i:Int) < (n:Int)) = true:=decide_eq_true (by omega)
     have g2:IntKind.u64.wrap ((i:Int)+1) = ((i+1:Nat):Int):=by
      rw [show (i:Int)+1 = ((i+1:Nat):Int) by omega]
      exact Go.Sx.wrap_small rfl (by omega) (by rw [show IntKind.u64.bits = 64 from rfl]; omega)
     simp -implicitDefEqProofs (maxSteps:=1000000) (disch:=omega) only [↓zzP,zzA,zzL,Nat.reduceSub,reduceIte,reduceCtorEq,Nat.reduceLT,↓reduceIte,Nat.reduceEqDiff,Nat.reduceLeDiff,Array.reduceGetElem?,↓gd,↓opP,↓qv,slot,putS,putO,fldA,rdF,Ent.row,ldS,sz,binH,binS2,binS,qn,ldN,pl86,g1,hm,Sl.sz,Sl.single]
     repeat (refine ⟨by omega,?_⟩)
     refine k142u dp D hdp hD hq142 r H _ _ hk hBk (by omega) _ (fun e2 he H1 sv1 ra x hE1 hk1 hB1 hx=>?_) (fun c u he H1 sv1 x hE1 hk1 hB1 hrel'=>?_)
     ·have hEn:=ext_new hE hE1 (Nat.le_succ _)
      have hz1:=hE1.look hz (by simp) fun h=>absurd h (by omega)
      have hm1:=hE1.look hm (by simp) fun h=>absurd h (by omega)
      have hX:ExtR (fresh h.length H) (fresh h.length H1):=extR_fk hE1 hk
      have hle:=hE.1
      have hle1:=hE1.1
      have hkl1:=lookH_lt hk1 (by simp)
      have hml1:=lookH_lt hm1 (by simp)
      have hne:=qM_ne D _ _ he
      have hR2:R = .error e2:=by rw [hR,lp_e X he]; rfl
      have hrow1:=ext_rd hE1 hk _ _ _ _ _ hrow
      have hrl1:=lookH_lt hrow1 (by simp)
      have z1:(e2 != 0) = true:=bne_iff_ne.2 hne
      obtain ⟨k2,d2,x2,w2,N2,F2,rfl,hkb2,hr2,hN2,hF2⟩:=id hB1
      have hmk:m ≠ km:=fun e=>by rw [e,hm1] at hrow1; cases hrow1
      have hmr:m ≠ h.length+1:=fun e=>by rw [e,hk1] at hrow1; cases hrow1
      have hmz:m ≠ h.length:=fun e=>by rw [e,hz1] at hrow1; cases hrow1
      have hp1:=(lookH_put_ne .none (Ne.symm hmk)).trans hm1
      have hp2:∀ c l,lookH (putH (putH H1 m .none) km c++l) (h.length+1) = .cells true [.osl k2 d2 x2 1 ra.length,.int .i64 e2]:=fun c l=>by rw [lookH_at _ (by rw [putH_len,putH_len]; exact hkl1),lookH_put_ne _ (by omega),lookH_put_ne _ (Ne.symm hmr)]; exact hk1
      obtain ⟨lx,rfl,yk,yf,yv,ys,yd,t5,t6,t7,t8,ykey,yof,rfl⟩:=hx
      simp -implicitDefEqProofs (maxSteps:=1000000) (disch:=omega) only [↓zzP,zzA,zzL,zzB,Nat.reduceSub,reduceIte,reduceCtorEq,Nat.reduceMul,Nat.reduceLT,↓reduceIte,Nat.reduceEqDiff,Nat.reduceLeDiff,Nat.reduceAdd,Array.reduceGetElem?,↓gd,↓opP,↓qv,↓ef,↓bslS,↓stS,↓appS,slot,putS,putO,ofV,fldA,rdF,Ent.row,ldS,sz,wrF,srcS,binH,binS2,binS,stor,qn,notInt,hs,z1,hm1,hrow1,hp1,hp2,putH_pC,lookH_at,putH_at,lookH_pB,Sl.sz,Sl.stor]
      repeat (refine ⟨by omega,?_⟩)
      have hB1m:RdK kb (putH H1 m .none) _ _:=⟨k2,d2,x2,w2,N2,F2,rfl,hkb2,by rw [lookH_put_ne _ (by omega)]; exact hr2,hN2,hF2⟩
      have hz2:∀ c l,lookH (putH (putH H1 m .none) km c++l) h.length = Chunk.cells true [.int .i64 0,.int .i64 0,.int .i64 0,.int .i64 0,.fam 32 1 fun _=>.int .u8 0,.v (.slice none 0 0),.v (.slice none 0 0),.v (.slice none 0 0),.v (.slice none 0 0),.int .i64 0,.fam 32 1 fun _=>.int .u8 0]:=fun c l=>by rw [lookH_at _ (by rw [putH_len,putH_len]; exact lookH_lt hz1 (by simp)),lookH_put_ne _ (by omega),lookH_put_ne _ (Ne.symm hmz)]; exact hz1
      have hB2:=fun c l=>RdK.ext (RdK.put hB1m hp1 c) (extR_app _ l)
      have hE2:=fun c l=>((hEn.put (p:=m) .none (.inr hmm)).put (p:=km) c (.inr (by omega))).app l
      exact into_keep [(1,.int .i64 dp),(4,.ptr h.length 0),(6,.ptr (h.length+1) 0),(7,.ptr km 0)] (by simp [sameT,slot,lkL]) fun j=>(hJ8 _).2 ⟨_,km,k,f,v,s,d,s5,s6,(.at (H1.length+1) (X.length+1)),.nil,key,of,_,_,_,j,hE2 _ _,hz2 _ _,hp2 _ _,(hB2 _ _).b,hkm,lookH_pD _ _ _ hml1,.inl ⟨hne,hR2⟩,rfl⟩
     ·have hEn:=ext_new hE hE1 (Nat.le_succ _)
      have hz1:=hE1.look hz (by simp) fun h=>absurd h (by omega)
      have hm1:=hE1.look hm (by simp) fun h=>absurd h (by omega)
      have hX:ExtR (fresh h.length H) (fresh h.length H1):=extR_fk hE1 hk
      have hle:=hE.1
      have hle1:=hE1.1
      have hkl1:=lookH_lt hk1 (by simp)
      have hml1:=lookH_lt hm1 (by simp)
      have hrow1:=ext_rd hE1 hk _ _ _ _ _ hrow
      have hrl1:=lookH_lt hrow1 (by simp)
      have z1:((0:Int) != 0) = false:=rfl
      obtain ⟨k2,d2,x2,w2,N2,F2,rfl,hkb2,hr2,hN2,hF2⟩:=id hB1
      have hmk:m ≠ km:=fun e=>by rw [e,hm1] at hrow1; cases hrow1
      have hmr:m ≠ h.length+1:=fun e=>by rw [e,hk1] at hrow1; cases hrow1
      have hmz:m ≠ h.length:=fun e=>by rw [e,hz1] at hrow1; cases hrow1
      have hp1:=(lookH_put_ne .none (Ne.symm hmk)).trans hm1
      have hp2:∀ c l,lookH (putH (putH H1 m .none) km c++l) (h.length+1) = .cells true [.osl k2 d2 x2 1 (r.drop u).length,.int .i64 0]:=fun c l=>by rw [lookH_at _ (by rw [putH_len,putH_len]; exact hkl1),lookH_put_ne _ (by omega),lookH_put_ne _ (Ne.symm hmr)]; exact hk1
      obtain ⟨lx,rfl,hmx,hwx⟩:=id hrel'
      obtain ⟨xk,xf,xv,xs,xd,xkb,xnb,xkbs,xnbs,xkp,xnp,xkq,xnq,xkey,xof,rfl⟩:=hmx.open
      simp -implicitDefEqProofs (maxSteps:=1000000) (disch:=omega) only [↓zzP,zzA,zzL,zzB,Nat.reduceSub,reduceIte,reduceCtorEq,Nat.reduceMul,Nat.reduceLT,↓reduceIte,Nat.reduceEqDiff,Nat.reduceLeDiff,Nat.reduceAdd,Array.reduceGetElem?,↓gd,↓opP,↓qv,↓ef,↓bslS,↓stS,↓appS,slot,putS,putO,ofV,fldA,rdF,Ent.row,ldS,sz,wrF,srcS,binH,binS2,binS,stor,qn,notInt,hs,z1,g2,hm1,hrow1,hp1,hp2,putH_pC,lookH_at,putH_at,lookH_pB,Sl.sz]
      repeat (refine ⟨by omega,?_⟩)
      have hB1m:RdK kb (putH H1 m .none) _ _:=⟨k2,d2,x2,w2,N2,F2,rfl,hkb2,by rw [lookH_put_ne _ (by omega)]; exact hr2,hN2,hF2⟩
      have hz2:∀ c l,lookH (putH (putH H1 m .none) km c++l) h.length = Chunk.cells true [.int .i64 0,.int .i64 0,.int .i64 0,.int .i64 0,.fam 32 1 fun _=>.int .u8 0,.v (.slice none 0 0),.v (.slice none 0 0),.v (.slice none 0 0),.v (.slice none 0 0),.int .i64 0,.fam 32 1 fun _=>.int .u8 0]:=fun c l=>by rw [lookH_at _ (by rw [putH_len,putH_len]; exact lookH_lt hz1 (by simp)),lookH_put_ne _ (by omega),lookH_put_ne _ (Ne.symm hmz)]; exact hz1
      have hB2:=fun c l=>RdK.ext (RdK.put hB1m hp1 c) (extR_app _ l)
      have hE2:=fun c l=>((hEn.put (p:=m) .none (.inr hmm)).put (p:=km) c (.inr (by omega))).app l
      rw [lp_o X he] at hR
      obtain ⟨LX,hLX⟩:∃ LX:List SV,LX = [.int .i64 xk,.int .i64 xf,.int .i64 xv,.int .i64 xs,.fam 32 1 fun i=>.int .u8 (nat (xd i)),.osl xkb 0 0 1 xnb,.osl xkbs 0 0 1 xnbs,.osl xkp 0 0 73 xnp,.osl xkq 0 0 74 xnq,.int .i64 xkey,.fam 32 1 fun i=>.int .u8 (nat (xof i))]:=⟨_,rfl⟩
      refine into_sim (sim_two (c':=.row true (X.length+1) 73 (fun j=>.agg (if j < X.length then G j else LX))) (chSim_row rfl fun j hj=>?_)) ?_
      ·by_cases c3:j < X.length
       ·rw [if_pos c3,if_pos c3]
       ·rw [if_neg c3,if_neg c3,hLX,show j - X.length = 0 by omega]; rfl
      rw [← hLX] at hrel'
      obtain ⟨X2,hX2⟩:∃ X2,X2 = X++[c]:=⟨_,rfl⟩
      have hXl:X.length+1 = X2.length:=by rw [hX2,List.length_append]; rfl
      have hmH:=lookH_lt hrow (by simp)
      rw [hXl]
      rw [← hX2] at hR
      exact into_keep [(1,.int .i64 dp),(4,.ptr h.length 0),(6,.ptr (h.length+1) 0),(7,.ptr km 0),(51,.int .u64 (n:Nat)),(52,.int .u64 ((i+1:Nat):Int))] (by simp [sameT,slot,lkL]) fun j=>⟨z,by omega,n,i+1,_,km,k,f,v,s,d,s5,s6,(.at (H1.length+1) X2.length),key,of,_,_,j,by omega,hn5,hE2 _ _,hz2 _ _,hp2 _ _,hkm,lookH_pD _ _ _ hml1,by rw [List.length_drop]; omega,hg1,hg2,hg3,hg4,X2,H1.length+1,_,by omega,rfl,by omega,lookH_two _ _ _ H1 m km 1,fun i hi=>by
       rw [putH_two]
       by_cases c3:i < X.length
       ·have e:X2[i] = X[i]:=by simp [hX2,List.getElem_append_left c3]
        rw [e,if_pos c3]
        exact RelM.mono _ _ _ _ (extR_lp1 hE1 hk hm1 _ _) (hrel i c3)
       ·have e:X2[i] = c:=by
         simp only [hX2]
         rw [List.getElem_append_right (by omega)]
         simp
        rw [e,if_neg c3]
        exact RelM.mono _ _ _ _ (extR_lp2 hle0 hmH hm1 _ _) hrel',kb,by omega,hB2 _ _,b,bs2,by rw [putH_two]; exact hb.extR (extR_lp1 hE1 hk hm1 _ _),by rw [putH_two]; exact hbs.extR (extR_lp1 hE1 hk hm1 _ _),hR,rfl⟩
    ·obtain rfl:z = 0:=by omega
     have g1:decide ((i:Int) < (n:Int)) = false:=decide_eq_false (by omega)
     simp -implicitDefEqProofs (maxSteps:=1000000) (disch:=omega) only [↓zzP,zzA,zzL,reduceIte,reduceCtorEq,Nat.reduceLT,↓reduceIte,Nat.reduceEqDiff,↓gd,↓opP,↓qv,slot,putS,putO,binH,binS2,binS,g1]
     repeat (refine ⟨by omega,?_⟩)
     have hR2:R = r8 (qM D) k f v s d b bs2 X r:=by rw [hR,lp]; simp only [pre,List.append_nil]; rfl
     have hXm:MsgsH (fresh h.length (putH H m .none)) X G:=MsgsH.mk fun i hi=>by
      obtain ⟨l,e1,hm3,_⟩:=hrel i hi
      cases e1
      exact hm3
     have hXw:wfL X:=wfL.mk fun i hi=>by
      obtain ⟨l,e1,_,hw1⟩:=hrel i hi
      exact hw1
     have hzl2:=lookH_lt hz (by simp)
     have hkl2:=lookH_lt hk (by simp)
     have hml2:=lookH_lt hm (by simp)
     obtain ⟨kb,hkb,hBk⟩:=hB.k
     refine into_cellG ([.int .i64 k,.int .i64 f,.int .i64 v,.int .i64 s,.fam 32 1 fun i=>.int .u8 (nat (d i)),Sl.sv 1 s5,Sl.sv 1 s6,Sl.sv 73 (.at m X.length),.osl H.length 0 0 74 0,.int .i64 key,.fam 32 1 fun i=>.int .u8 (nat (of i))]) 74 (fun i=>.agg ((fun _=>[]) i)) hm ?_ ?_ ?_ ?_
     ·intro ρ hρ
      simp [denC,den,hρ,Sl.sv,Sl.sz,Sl.parts,Sl.single]
     ·exact fun q=>⟨q.1,q.2.1,q.2.2.1,q.2.2.2.1,q.2.2.2.2.1,q.2.2.2.2.2.1,q.2.2.2.2.2.2.1,q.2.2.2.2.2.2.2.1,(by simp [ok]),q.2.2.2.2.2.2.2.2.2.1,q.2.2.2.2.2.2.2.2.2.2.1,trivial⟩
     ·exact fun q=>⟨q.1,q.2.1,q.2.2.1,q.2.2.2.1,q.2.2.2.2.1,q.2.2.2.2.2.1,q.2.2.2.2.2.2.1,q.2.2.2.2.2.2.2.1,(by simp [stor]),q.2.2.2.2.2.2.2.2.2.1,q.2.2.2.2.2.2.2.2.2.2.1,trivial⟩
     exact into_keep [(1,.int .i64 dp),(4,.ptr h.length 0),(6,.ptr (h.length+1) 0),(7,.ptr km 0)] (by simp [sameT,slot,lkL]) fun j=>(hJ8 _).2 ⟨_,km,k,f,v,s,d,s5,s6,(.at m X.length),(.at H.length 0),key,of,_,_,_,j,(hE.put (p:=km) _ (.inr (by omega))).app _,by rw [lookH_at _ (by rw [putH_len]; exact hzl2),lookH_put_ne _ (by omega)]; exact hz,by rw [lookH_at _ (by rw [putH_len]; exact hkl2),lookH_put_ne _ (by omega)]; exact hk,RdB.ext (RdB.put hB hm _) (extR_app _ _),hkm,(lookH_at _ (by rw [putH_len]; exact hml2)).trans (lookH_put_same _ hml2),.inr ⟨rfl,hln,trivial,hg1,hg2,hg3,hg4,[],H.length,fun _=>[],rfl,rfl,by omega,lookH_pA0 _ _ _ _,fun i hi=>absurd hi (Nat.not_lt_zero _),⟨kb,hkb,RdK.ext (RdK.put hBk hm _) (extR_app _ _)⟩,b,bs2,X,m,G,hb.extR (extT extR_f1 (extR_nm hm _ _)),hbs.extR (extT extR_f1 (extR_nm hm _ _)),rfl,extR_nm hm _ _ _ _ _ _ _ (by rw [fresh_look,if_neg (by omega)]; exact hrow),MsgsH.extR (extT extR_f1 (extR_nm hm _ _)) hXm,hXw,hR2⟩,rfl⟩
 clear hzl hkl hml hcase hm hkm hB hk hz hE
 clear H km k f v s d s5 s6 s7 s8 key of sv r er j
 clear hJ7 J7
 intro st hst
 obtain ⟨H,km,k,f,v,s,d,s5,s6,s7,s8,key,of,sv,r,er,j,hE,hz,hk,hB,hkm,hm,hcase,rfl⟩:=(hJ8 st).1 hst
 clear hst
 have hzl:=lookH_lt hz (by simp)
 have hkl:=lookH_lt hk (by simp)
 have hml:=lookH_lt hm (by simp)
 obtain ⟨J9,hJ9⟩:∃ J:St→Prop,∀ st,J st ↔ (∃ (H:List Chunk) (km:Nat) (k f v s:Int) (d:Nat→By) (s5 s6 s7 s8:Sl) (key:Int) (of:Nat→By) (sv:SV) (r:List By) (er:Int) (j:Nat→Value),Ext (fun _=>False) h H∧lookH H h.length = Chunk.cells true [.int .i64 0,.int .i64 0,.int .i64 0,.int .i64 0,.fam 32 1 fun _=>.int .u8 0,.v (.slice none 0 0),.v (.slice none 0 0),.v (.slice none 0 0),.v (.slice none 0 0),.int .i64 0,.fam 32 1 fun _=>.int .u8 0]∧lookH H (h.length+1) = .cells true [sv,.int .i64 er]∧RdB H sv r∧h.length+1 < km∧lookH H km = .cells true [.int .i64 k,.int .i64 f,.int .i64 v,.int .i64 s,.fam 32 1 fun i=>.int .u8 (nat (d i)),Sl.sv 1 s5,Sl.sv 1 s6,Sl.sv 73 s7,Sl.sv 74 s8,.int .i64 key,.fam 32 1 fun i=>.int .u8 (nat (of i))]∧((er ≠ 0∧R = .error er) ∨ (er = 0∧r.length≤1048576∧True∧rng k∧rng f∧rng v∧rng s∧∃ b bs2 p m7 f7 q m8 f8,rowB (fresh h.length H) (Sl.sv 1 s5) b∧rowBs (fresh h.length H) (Sl.sv 1 s6) bs2∧s7 = .at m7 p.length∧lookH (fresh h.length H) m7 = .row true p.length 73 (fun i=>.agg (f7 i))∧MsgsH (fresh h.length H) p f7∧wfL p∧s8 = .at m8 q.length∧lookH (fresh h.length H) m8 = .row true q.length 74 (fun i=>.agg (f8 i))∧PrepsH (fresh h.length H) q f8∧wfQ q∧R = r9 k f v s d b bs2 p q r))∧st = ⟨⟨125,[(1,.int .i64 dp),(4,.ptr h.length 0),(6,.ptr (h.length+1) 0),(7,.ptr km 0)],j⟩,H,[]⟩):=⟨_,fun _=>Iff.rfl⟩
 refine codeP_seq (pl:=pl86) tabOk follows_mixed (by kernel_rfl) J9 ?_ ?_
 ·rcases hcase with ⟨hne,hR⟩ | ⟨rfl,hln,-,hg1,hg2,hg3,hg4,X,m,G,rfl,rfl,hmm,hrow,hrel,⟨kb,hkb,hBk⟩,b,bs2,p,m7,f7,hb,hbs,hp1,hp2,hp3,hp4,hR⟩
  ·obtain ⟨k1,d1,x1,w1,N1,F1,rfl,hr1,hN1,hF1⟩:=id hB
   simp -implicitDefEqProofs (maxSteps:=1000000) (disch:=omega) only [↓zzP,zzA,zzL,reduceIte,Nat.reduceLT,↓reduceIte,Nat.reduceEqDiff,↓gd,↓opP,↓qv,slot,putS,putO,ofV]
   repeat (refine ⟨by omega,?_⟩)
   refine c139x H _ k1 d1 x1 _ er hk hne 64 18 _ ?_
   simp -implicitDefEqProofs (maxSteps:=1000000) (disch:=omega) only [↓zzP,zzA,reduceIte,reduceCtorEq,Nat.reduceLT,↓reduceIte,↓gd,↓opP,↓qv,putS,putO,ofV]
   repeat (refine ⟨by omega,?_⟩)
   refine codeP_loop (pl:=pl86) tabOk follows_mixed (by kernel_rfl) (fun z st=>∃ j:Nat→Value,st = ⟨⟨125,[(1,.int .i64 dp),(4,.ptr h.length 0),(6,.ptr (h.length+1) 0),(7,.ptr km 0),(69,.int .u64 0),(70,.int .u64 0)],j⟩,H,[]⟩) (into_keep [(1,.int .i64 dp),(4,.ptr h.length 0),(6,.ptr (h.length+1) 0),(7,.ptr km 0),(69,.int .u64 0),(70,.int .u64 0)] (by simp [sameT,slot,lkL]) fun j=>⟨0,j,rfl⟩) ?_
   rintro _ _ ⟨j,rfl⟩
   simp -implicitDefEqProofs (maxSteps:=1000000) (disch:=omega) only [↓zzP,zzA,zzL,reduceIte,reduceCtorEq,Nat.reduceLT,↓reduceIte,Nat.reduceEqDiff,Int.reduceLT,↓gd,↓opP,↓qv,slot,putS,putO,binH,binS2,binS]
   repeat (refine ⟨by omega,?_⟩)
   exact into_keep [(1,.int .i64 dp),(4,.ptr h.length 0),(6,.ptr (h.length+1) 0),(7,.ptr km 0)] (by simp [sameT,slot,lkL]) fun j=>(hJ9 _).2 ⟨_,km,k,f,v,s,d,s5,s6,s7,s8,key,of,_,_,_,j,hE,hz,hk,hB,hkm,hm,.inl ⟨hne,hR⟩,rfl⟩
  ·simp -implicitDefEqProofs (maxSteps:=1000000) (disch:=omega) only [↓zzP,zzA,zzL,reduceIte,Nat.reduceLT,↓reduceIte,Nat.reduceEqDiff,↓gd,↓opP,↓qv,slot,putS,putO,ofV]
   repeat (refine ⟨by omega,?_⟩)
   rw [r8_bnd] at hR
   refine k139 r H _ _ hk hBk (by omega) 64 18 (by decide) _ (fun e2 he H1 sv1 ra hE1 hk1 hB1=>?_) (fun y ra he H1 sv1 hE1 hk1 hB1=>?_)
   ·have hne:=pNumM_ne (by decide) he
    have hR2:R = .error e2:=by rw [hR,tlN_e he]; rfl
    have hEn:=ext_new hE hE1 (Nat.le_succ _)
    have hz1:=hE1.look hz (by simp) fun h=>absurd h (by omega)
    have hm1:=hE1.look hm (by simp) fun h=>absurd h (by omega)
    have hX:ExtR (fresh h.length H) (fresh h.length H1):=extR_fk hE1 hk
    have hle:=hE.1
    have hle1:=hE1.1
    have hkl1:=lookH_lt hk1 (by simp)
    have hml1:=lookH_lt hm1 (by simp)
    simp -implicitDefEqProofs (maxSteps:=1000000) (disch:=omega) only [↓zzP,zzA,reduceIte,reduceCtorEq,Nat.reduceLT,↓reduceIte,↓gd,↓opP,↓qv,putS,putO,ofV]
    repeat (refine ⟨by omega,?_⟩)
    refine codeP_loop (pl:=pl86) tabOk follows_mixed (by kernel_rfl) (fun z st=>∃ j:Nat→Value,st = ⟨⟨125,[(1,.int .i64 dp),(4,.ptr h.length 0),(6,.ptr (h.length+1) 0),(7,.ptr km 0),(69,.int .u64 0),(70,.int .u64 0)],j⟩,H1,[]⟩) (into_keep [(1,.int .i64 dp),(4,.ptr h.length 0),(6,.ptr (h.length+1) 0),(7,.ptr km 0),(69,.int .u64 0),(70,.int .u64 0)] (by simp [sameT,slot,lkL]) fun j=>⟨0,j,rfl⟩) ?_
    rintro _ _ ⟨j,rfl⟩
    simp -implicitDefEqProofs (maxSteps:=1000000) (disch:=omega) only [↓zzP,zzA,zzL,reduceIte,reduceCtorEq,Nat.reduceLT,↓reduceIte,Nat.reduceEqDiff,Int.reduceLT,↓gd,↓opP,↓qv,slot,putS,putO,binH,binS2,binS]
    repeat (refine ⟨by omega,?_⟩)
    exact into_keep [(1,.int .i64 dp),(4,.ptr h.length 0),(6,.ptr (h.length+1) 0),(7,.ptr km 0)] (by simp [sameT,slot,lkL]) fun j=>(hJ9 _).2 ⟨_,km,k,f,v,s,d,s5,s6,s7,_,key,of,_,_,_,j,hEn,hz1,hk1,hB1.b,hkm,hm1,.inl ⟨hne,hR2⟩,rfl⟩
   ·obtain ⟨ht,hy,hle2⟩:=tlN_o (q:=qPf (qM D)) he
    rw [ht] at hR
    clear ht
    have hEn:=ext_new hE hE1 (Nat.le_succ _)
    have hz1:=hE1.look hz (by simp) fun h=>absurd h (by omega)
    have hm1:=hE1.look hm (by simp) fun h=>absurd h (by omega)
    have hX:ExtR (fresh h.length H) (fresh h.length H1):=extR_fk hE1 hk
    have hle:=hE.1
    have hle1:=hE1.1
    have hkl1:=lookH_lt hk1 (by simp)
    have hml1:=lookH_lt hm1 (by simp)
    obtain ⟨n,hn⟩:∃ n,n = y.toNat:=⟨_,rfl⟩
    rw [show nat y = ((y.toNat:Nat):Int) from rfl,← hn]
    rw [← hn] at hR hy
    simp -implicitDefEqProofs (maxSteps:=1000000) (disch:=omega) only [↓zzP,zzA,reduceIte,reduceCtorEq,Nat.reduceLT,↓reduceIte,↓gd,↓opP,↓qv,putS,putO,ofV]
    repeat (refine ⟨by omega,?_⟩)
    refine codeP_loop (pl:=pl86) tabOk follows_mixed (by kernel_rfl) (fun z st=>∃ (n i:Nat) (H:List Chunk) (km:Nat) (k f v s:Int) (d:Nat→By) (s5 s6 s7 s8:Sl) (key:Int) (of:Nat→By) (sv:SV) (r:List By) (j:Nat→Value),i+z = n∧n≤64∧Ext (fun _=>False) h H∧lookH H h.length = Chunk.cells true [.int .i64 0,.int .i64 0,.int .i64 0,.int .i64 0,.fam 32 1 fun _=>.int .u8 0,.v (.slice none 0 0),.v (.slice none 0 0),.v (.slice none 0 0),.v (.slice none 0 0),.int .i64 0,.fam 32 1 fun _=>.int .u8 0]∧lookH H (h.length+1) = .cells true [sv,.int .i64 0]∧h.length+1 < km∧lookH H km = .cells true [.int .i64 k,.int .i64 f,.int .i64 v,.int .i64 s,.fam 32 1 fun i=>.int .u8 (nat (d i)),Sl.sv 1 s5,Sl.sv 1 s6,Sl.sv 73 s7,Sl.sv 74 s8,.int .i64 key,.fam 32 1 fun i=>.int .u8 (nat (of i))]∧r.length≤1048576∧rng k∧rng f∧rng v∧rng s∧∃ (X:List (Msg × List Msg)) (m:Nat) (G:Nat→List SV),X.length = i∧s8 = .at m X.length∧h.length≤m∧lookH H m = .row true X.length 74 (fun i=>.agg (G i))∧(∀ i (hi:i < X.length),RelP (fresh h.length (putH H m .none)) X[i] (.agg (G i)))∧∃ kb,kb < m∧RdK kb H sv r∧∃ b bs2 p m7 f7,rowB (fresh h.length (putH H m .none)) (Sl.sv 1 s5) b∧rowBs (fresh h.length (putH H m .none)) (Sl.sv 1 s6) bs2∧s7 = .at m7 p.length∧lookH (fresh h.length (putH H m .none)) m7 = .row true p.length 73 (fun i=>.agg (f7 i))∧MsgsH (fresh h.length (putH H m .none)) p f7∧wfL p∧R = bndM (pre X (lp (qPf (qM D)) z r)) (fun x:List (Msg × List Msg) × List By=>r9 k f v s d b bs2 p x.1 x.2)∧st = ⟨⟨125,[(1,.int .i64 dp),(4,.ptr h.length 0),(6,.ptr (h.length+1) 0),(7,.ptr km 0),(69,.int .u64 (n:Nat)),(70,.int .u64 (i:Nat))],j⟩,H,[]⟩) ?_ ?_
    ·exact into_keep [(1,.int .i64 dp),(4,.ptr h.length 0),(6,.ptr (h.length+1) 0),(7,.ptr km 0),(69,.int .u64 (n:Nat)),(70,.int .u64 0)] (by simp [sameT,slot,lkL]) fun j=>⟨n,n,0,H1,km,k,f,v,s,d,s5,s6,s7,_,key,of,sv1,ra,j,by omega,hy,hEn,hz1,hk1,hkm,hm1,by omega,hg1,hg2,hg3,hg4,[],m,G,rfl,rfl,hmm,ext_rd hE1 hk _ _ _ _ _ hrow,fun i hi=>absurd hi (Nat.not_lt_zero _),kb,hkb,hB1,b,bs2,p,m7,f7,hb.extR (extR_pk hE1 hk),hbs.extR (extR_pk hE1 hk),hp1,extR_pk hE1 hk _ _ _ _ _ hp2,MsgsH.extR (extR_pk hE1 hk) hp3,hp4,by rw [pre_nil]; exact hR,rfl⟩
    clear hE hz hk hB hBk hkb hkm hm hzl hkl hml hEn hz1 hm1 hle1 hkl1 hml1 hE1 hk1 hB1 hX hle hb hbs hp1 hp2 hp3 hp4 hrow hrel hmm hR he hy hn hle2 hln hg1 hg2 hg3 hg4
    rintro z st ⟨n,i,H,km,k,f,v,s,d,s5,s6,s7,s8,key,of,sv,r,j,hin,hn5,hE,hz,hk,hkm,hm,hln,hg1,hg2,hg3,hg4,X,m,G,hXi,hs8,hmm,hrow,hrel,kb,hkb,hBk,b,bs2,p,m7,f7,hb,hbs,hp1,hp2,hp3,hp4,hR,rfl⟩
    have hB:=hBk.b
    have hzl:=lookH_lt hz (by simp)
    have hkl:=lookH_lt hk (by simp)
    have hml:=lookH_lt hm (by simp)
    have hle0:=hE.1
    by_cases cz:0 < z
    ·obtain ⟨z,rfl⟩:∃ y,z = y+1:=⟨z - 1,by omega⟩
     have g1:decide ((i:Int) < (n:Int)) = true:=decide_eq_true (by omega)
     have g2:IntKind.u64.wrap ((i:Int)+1) = ((i+1:Nat):Int):=by
      rw [show (i:Int)+1 = ((i+1:Nat):Int) by omega]
      exact Go.Sx.wrap_small rfl (by omega) (by rw [show IntKind.u64.bits = 64 from rfl]; omega)
     simp -implicitDefEqProofs (maxSteps:=1000000) (disch:=omega) only [↓zzP,zzA,zzL,reduceIte,reduceCtorEq,Nat.reduceLT,↓reduceIte,Nat.reduceEqDiff,↓gd,↓opP,↓qv,slot,putS,putO,binH,binS2,binS,g1]
     repeat (refine ⟨by omega,?_⟩)
     refine k142u dp D hdp hD hq142 r H _ _ hk hBk (by omega) _ (fun e2 he H1 sv1 ra x hE1 hk1 hB1 hx=>?_) (fun c u he H1 sv1 x hE1 hk1 hB1 hrel'=>?_)
     ·have hEn:=ext_new hE hE1 (Nat.le_succ _)
      have hz1:=hE1.look hz (by simp) fun h=>absurd h (by omega)
      have hm1:=hE1.look hm (by simp) fun h=>absurd h (by omega)
      have hX:ExtR (fresh h.length H) (fresh h.length H1):=extR_fk hE1 hk
      have hle:=hE.1
      have hle1:=hE1.1
      have hkl1:=lookH_lt hk1 (by simp)
      have hml1:=lookH_lt hm1 (by simp)
      have hne:=qM_ne D _ _ he
      have hR2:R = .error e2:=by rw [hR,lp_e X (show qPf (qM D) r = .error e2 by unfold qPf; rw [he])]; rfl
      have hrow1:=ext_rd hE1 hk _ _ _ _ _ hrow
      have hrl1:=lookH_lt hrow1 (by simp)
      obtain ⟨k2,d2,x2,w2,N2,F2,rfl,hkb2,hr2,hN2,hF2⟩:=id hB1
      obtain ⟨lx,rfl,yk,yf,yv,ys,yd,t5,t6,t7,t8,ykey,yof,rfl⟩:=hx
      simp -implicitDefEqProofs (maxSteps:=1000000) (disch:=omega) only [↓zzP,zzA,zzL,zzB,Nat.reduceSub,reduceIte,reduceCtorEq,Nat.reduceLT,↓reduceIte,Nat.reduceEqDiff,Nat.reduceLeDiff,Nat.reduceAdd,↓gd,↓opP,↓qv,↓ef,↓stS,slot,putS,putO,ofV,sz,wrF,plT,bldS,stor,Value.oneCell',Sl.sz,Sl.stor]
      repeat (refine ⟨by omega,?_⟩)
      refine c139x _ _ k2 d2 x2 _ e2 (by rw [lookH_at _ hkl1]; exact hk1) hne 64 18 _ ?_
      simp -implicitDefEqProofs (maxSteps:=1000000) (disch:=omega) only [↓zzP,zzA,reduceIte,Nat.reduceLT,↓reduceIte,↓gd,↓opP,↓qv,putS,putO,ofV]
      repeat (refine ⟨by omega,?_⟩)
      obtain ⟨Hc,hHc⟩:∃ Hc,Hc = H1++[.cells true [.int .i64 yk,.int .i64 yf,.int .i64 yv,.int .i64 ys,.fam 32 1 fun i=>.int .u8 (nat (yd i)),Sl.sv 1 t5,Sl.sv 1 t6,Sl.sv 73 t7,Sl.sv 74 t8,.int .i64 ykey,.fam 32 1 fun i=>.int .u8 (nat (yof i)),.v (.slice none 0 0)]]:=⟨_,rfl⟩
      have hc8:lookH Hc H1.length = .cells true [.int .i64 yk,.int .i64 yf,.int .i64 yv,.int .i64 ys,.fam 32 1 fun i=>.int .u8 (nat (yd i)),Sl.sv 1 t5,Sl.sv 1 t6,Sl.sv 73 t7,Sl.sv 74 t8,.int .i64 ykey,.fam 32 1 fun i=>.int .u8 (nat (yof i)),.v (.slice none 0 0)]:=by rw [hHc]; exact lookH_end _ _
      have hmc:lookH Hc km = .cells true [.int .i64 k,.int .i64 f,.int .i64 v,.int .i64 s,.fam 32 1 fun i=>.int .u8 (nat (d i)),Sl.sv 1 s5,Sl.sv 1 s6,Sl.sv 73 s7,Sl.sv 74 s8,.int .i64 key,.fam 32 1 fun i=>.int .u8 (nat (of i))]:=by rw [hHc,lookH_at _ hml1]; exact hm1
      have hkc:lookH Hc (h.length+1) = .cells true [.osl k2 d2 x2 1 ra.length,.int .i64 e2]:=by rw [hHc,lookH_at _ hkl1]; exact hk1
      have hrc:lookH Hc m = .row true X.length 74 (fun i=>.agg (G i)):=by rw [hHc,lookH_at _ hrl1]; exact hrow1
      rw [← hHc]
      have z1:(e2 != 0) = true:=bne_iff_ne.2 hne
      refine codeP_loop (pl:=pl86) tabOk follows_mixed (by kernel_rfl) (fun z st=>∃ j:Nat→Value,st = ⟨⟨125,[(1,.int .i64 dp),(4,.ptr h.length 0),(6,.ptr (h.length+1) 0),(7,.ptr km 0),(8,.ptr H1.length 0),(69,.int .u64 (n:Nat)),(70,.int .u64 (i:Nat)),(77,.int .u64 0),(78,.int .u64 0)],j⟩,Hc,[]⟩) (into_keep [(1,.int .i64 dp),(4,.ptr h.length 0),(6,.ptr (h.length+1) 0),(7,.ptr km 0),(8,.ptr H1.length 0),(69,.int .u64 (n:Nat)),(70,.int .u64 (i:Nat)),(77,.int .u64 0),(78,.int .u64 0)] (by simp [sameT,slot,lkL]) fun j=>⟨0,j,rfl⟩) ?_
      rintro _ _ ⟨j,rfl⟩
      subst hs8
      have hs:Sl.sv 74 (Sl.at m X.length) = .osl m 0 0 74 X.length:=rfl
      have hEc:Ext (fun _=>False) h Hc:=by rw [hHc]; exact hEn.app _
      have hzc:lookH Hc h.length = Chunk.cells true [.int .i64 0,.int .i64 0,.int .i64 0,.int .i64 0,.fam 32 1 fun _=>.int .u8 0,.v (.slice none 0 0),.v (.slice none 0 0),.v (.slice none 0 0),.v (.slice none 0 0),.int .i64 0,.fam 32 1 fun _=>.int .u8 0]:=by rw [hHc,lookH_at _ (lookH_lt hz1 (by simp))]; exact hz1
      have hzlc:=lookH_lt hzc (by simp)
      have hmlc:=lookH_lt hmc (by simp)
      have hklc:=lookH_lt hkc (by simp)
      have hrlc:=lookH_lt hrc (by simp)
      have hmk:m ≠ km:=fun e=>by rw [e,hmc] at hrc; cases hrc
      have hmr:m ≠ h.length+1:=fun e=>by rw [e,hkc] at hrc; cases hrc
      have hmz:m ≠ h.length:=fun e=>by rw [e,hzc] at hrc; cases hrc
      have hp1:=(lookH_put_ne .none (Ne.symm hmk)).trans hmc
      have hp2:∀ c l,lookH (putH (putH Hc m .none) km c++l) (h.length+1) = .cells true [.osl k2 d2 x2 1 ra.length,.int .i64 e2]:=fun c l=>by rw [lookH_at _ (by rw [putH_len,putH_len]; exact hklc),lookH_put_ne _ (by omega),lookH_put_ne _ (Ne.symm hmr)]; exact hkc
      have hB1m:RdK kb (putH Hc m .none) _ _:=⟨k2,d2,x2,w2,N2,F2,rfl,hkb2,by rw [lookH_put_ne _ (by omega),hHc,lookH_at _ (lookH_lt hr2 (by simp))]; exact hr2,hN2,hF2⟩
      simp -implicitDefEqProofs (maxSteps:=1000000) (disch:=omega) only [↓zzP,zzA,zzL,zzB,Nat.reduceSub,reduceIte,reduceCtorEq,Nat.reduceMul,Nat.reduceLT,↓reduceIte,Nat.reduceEqDiff,Nat.reduceLeDiff,Int.reduceLT,Nat.reduceAdd,↓gd,↓opP,↓qv,↓ef,↓bslS,↓stS,↓appS,slot,putS,putO,ofV,fldA,rdF,Ent.row,ldS,sz,wrF,srcS,binH,binS2,binS,stor,Value.oneCell',notInt,hs,z1,hc8,hmc,hrc,hp1,hp2,putH_pC,lookH_at,putH_at,lookH_pB,Sl.sz,Sl.stor]
      repeat (refine ⟨by omega,?_⟩)
      exact into_keep [(1,.int .i64 dp),(4,.ptr h.length 0),(6,.ptr (h.length+1) 0),(7,.ptr km 0)] (by simp [sameT,slot,lkL]) fun j=>(hJ9 _).2 ⟨_,km,k,f,v,s,d,s5,s6,s7,(.at (Hc.length+1) (X.length+1)),key,of,_,_,_,j,((hEc.put (p:=m) .none (.inr hmm)).put (p:=km) _ (.inr (by omega))).app _,by rw [lookH_at _ (by rw [putH_len,putH_len]; exact hzlc),lookH_put_ne _ (by omega),lookH_put_ne _ (Ne.symm hmz)]; exact hzc,hp2 _ _,(RdK.ext (RdK.put hB1m hp1 _) (extR_app _ _)).b,hkm,lookH_pD _ _ _ hmlc,.inl ⟨hne,hR2⟩,rfl⟩
     ·have hEn:=ext_new hE hE1 (Nat.le_succ _)
      have hz1:=hE1.look hz (by simp) fun h=>absurd h (by omega)
      have hm1:=hE1.look hm (by simp) fun h=>absurd h (by omega)
      have hX:ExtR (fresh h.length H) (fresh h.length H1):=extR_fk hE1 hk
      have hle:=hE.1
      have hle1:=hE1.1
      have hkl1:=lookH_lt hk1 (by simp)
      have hml1:=lookH_lt hm1 (by simp)
      have hrow1:=ext_rd hE1 hk _ _ _ _ _ hrow
      have hrl1:=lookH_lt hrow1 (by simp)
      obtain ⟨lx,rfl,hmx,hwx⟩:=id hrel'
      obtain ⟨xk,xf,xv,xs,xd,xkb,xnb,xkbs,xnbs,xkp,xnp,xkq,xnq,xkey,xof,rfl⟩:=hmx.open
      simp -implicitDefEqProofs (maxSteps:=1000000) (disch:=omega) only [↓zzP,zzA,zzL,zzB,Nat.reduceSub,reduceIte,reduceCtorEq,Nat.reduceLT,↓reduceIte,Nat.reduceEqDiff,Nat.reduceLeDiff,Nat.reduceAdd,↓gd,↓opP,↓qv,↓ef,↓stS,slot,putS,putO,ofV,sz,wrF,plT,bldS,stor,Value.oneCell']
      repeat (refine ⟨by omega,?_⟩)
      subst hs8
      have hmk:m ≠ km:=fun e=>by rw [e,hm1] at hrow1; cases hrow1
      have hmr:m ≠ h.length+1:=fun e=>by rw [e,hk1] at hrow1; cases hrow1
      have hmz:m ≠ h.length:=fun e=>by rw [e,hz1] at hrow1; cases hrow1
      have hRq:R = bndM (tl (qM D) 64 (r.drop u)) (fun y:List Msg × List By=>bndM (pre (X++[(c,y.1)]) (lp (qPf (qM D)) z y.2)) (fun x:List (Msg × List Msg) × List By=>r9 k f v s d b bs2 p x.1 x.2)):=by rw [hR,lp_pf X he]
      obtain ⟨kc,hkc0⟩:∃ kc,kc = H1.length:=⟨_,rfl⟩
      obtain ⟨Hc,hHc⟩:∃ Hc,Hc = H1++[.cells true [.int .i64 xk,.int .i64 xf,.int .i64 xv,.int .i64 xs,.fam 32 1 fun i=>.int .u8 (nat (xd i)),.osl xkb 0 0 1 xnb,.osl xkbs 0 0 1 xnbs,.osl xkp 0 0 73 xnp,.osl xkq 0 0 74 xnq,.int .i64 xkey,.fam 32 1 fun i=>.int .u8 (nat (xof i)),.v (.slice none 0 0)]]:=⟨_,rfl⟩
      have hc8:lookH Hc kc = .cells true [.int .i64 xk,.int .i64 xf,.int .i64 xv,.int .i64 xs,.fam 32 1 fun i=>.int .u8 (nat (xd i)),.osl xkb 0 0 1 xnb,.osl xkbs 0 0 1 xnbs,.osl xkp 0 0 73 xnp,.osl xkq 0 0 74 xnq,.int .i64 xkey,.fam 32 1 fun i=>.int .u8 (nat (xof i)),.v (.slice none 0 0)]:=by rw [hHc,hkc0]; exact lookH_end _ _
      have hSc:∀ j,j < kc→lookH Hc j = lookH H1 j:=fun j hj=>by rw [hHc,lookH_at _ (by omega)]
      have hlc:kc < Hc.length:=by rw [hHc,hkc0,List.length_append]; exact Nat.lt_succ_self _
      rw [← hHc,← hkc0]
      have hkc:lookH Hc (h.length+1) = .cells true [sv1,.int .i64 0]:=by rw [hSc _ (by omega)]; exact hk1
      have hBc:RdK kb Hc sv1 (r.drop u):=hB1.ext (by rw [hHc]; exact extR_app _ _)
      clear hHc
      refine k139 (r.drop u) Hc _ _ hkc hBc (by rw [List.length_drop]; omega) 64 18 (by decide) _ (fun e3 he3 H2 sv2 ra hE2 hk2 hB2=>?_) (fun y ra he3 H2 sv2 hE2 hk2 hB2=>?_)
      ·have hS2:∀ j,j < kc→j ≠ h.length+1→lookH H2 j = lookH H1 j:=fun j hj hn=>(hE2.2 j (by omega) hn).trans (hSc j hj)
       have hc2:=hE2.look hc8 (by simp) fun h=>absurd h (by omega)
       have hl2:kc < H2.length:=Nat.lt_of_lt_of_le hlc hE2.1
       have hne:=pNumM_ne (by decide) he3
       have hR2:R = .error e3:=by rw [hRq,tlN_e he3]; rfl
       simp -implicitDefEqProofs (maxSteps:=1000000) only [↓zzP,zzA,reduceIte,Nat.reduceLT,↓reduceIte,↓gd,↓opP,↓qv,putS,putO,ofV]
       repeat (refine ⟨by omega,?_⟩)
       refine codeP_loop (pl:=pl86) tabOk follows_mixed (by kernel_rfl) (fun z st=>∃ j:Nat→Value,st = ⟨⟨125,[(1,.int .i64 dp),(4,.ptr h.length 0),(6,.ptr (h.length+1) 0),(7,.ptr km 0),(8,.ptr kc 0),(69,.int .u64 (n:Nat)),(70,.int .u64 (i:Nat)),(77,.int .u64 0),(78,.int .u64 0)],j⟩,H2,[]⟩) (into_keep [(1,.int .i64 dp),(4,.ptr h.length 0),(6,.ptr (h.length+1) 0),(7,.ptr km 0),(8,.ptr kc 0),(69,.int .u64 (n:Nat)),(70,.int .u64 (i:Nat)),(77,.int .u64 0),(78,.int .u64 0)] (by simp [sameT,slot,lkL]) fun j=>⟨0,j,rfl⟩) ?_
       rintro _ _ ⟨j,rfl⟩
       obtain ⟨k2,d2,x2,w2,N2,F2,rfl,hkb2,hr2,hN2,hF2⟩:=id hB2
       have hs:Sl.sv 74 (Sl.at m X.length) = .osl m 0 0 74 X.length:=rfl
       have hm2:lookH H2 km = .cells true [.int .i64 k,.int .i64 f,.int .i64 v,.int .i64 s,.fam 32 1 fun i=>.int .u8 (nat (d i)),Sl.sv 1 s5,Sl.sv 1 s6,Sl.sv 73 s7,Sl.sv 74 (Sl.at m X.length),.int .i64 key,.fam 32 1 fun i=>.int .u8 (nat (of i))]:=(hS2 _ (by omega) (by omega)).trans hm1
       have hz2:lookH H2 h.length = Chunk.cells true [.int .i64 0,.int .i64 0,.int .i64 0,.int .i64 0,.fam 32 1 fun _=>.int .u8 0,.v (.slice none 0 0),.v (.slice none 0 0),.v (.slice none 0 0),.v (.slice none 0 0),.int .i64 0,.fam 32 1 fun _=>.int .u8 0]:=(hS2 _ (by omega) (by omega)).trans hz1
       have hrow2:lookH H2 m = .row true X.length 74 (fun i=>.agg (G i)):=(hS2 _ (by omega) hmr).trans hrow1
       have hEn2:Ext (fun _=>False) h H2:=⟨by have:=hEn.1; omega,fun k hk1 _=>(hS2 k (by have:=hEn.1; omega) (by omega)).trans (hEn.2 k hk1 fun h=>h)⟩
       have hml2:=lookH_lt hm2 (by simp)
       have hkl2:=lookH_lt hk2 (by simp)
       have hrl2:=lookH_lt hrow2 (by simp)
       have hzl2:=lookH_lt hz2 (by simp)
       have hu1:=(lookH_put_ne .none (Ne.symm hmk)).trans hm2
       have hu2:∀ c l,lookH (putH (putH H2 m .none) km c++l) (h.length+1) = .cells true [.osl k2 d2 x2 1 ra.length,.int .i64 e3]:=fun c l=>by rw [lookH_at _ (by rw [putH_len,putH_len]; exact hkl2),lookH_put_ne _ (by omega),lookH_put_ne _ (Ne.symm hmr)]; exact hk2
       have hB2m:RdK kb (putH H2 m .none) _ _:=⟨k2,d2,x2,w2,N2,F2,rfl,hkb2,by rw [lookH_put_ne _ (by omega)]; exact hr2,hN2,hF2⟩
       have z1:(e3 != 0) = true:=bne_iff_ne.2 hne
       simp -implicitDefEqProofs (maxSteps:=1000000) (disch:=omega) only [↓zzP,zzA,zzL,zzB,Nat.reduceSub,reduceIte,reduceCtorEq,Nat.reduceMul,Nat.reduceLT,↓reduceIte,Nat.reduceEqDiff,Nat.reduceLeDiff,Int.reduceLT,Nat.reduceAdd,↓gd,↓opP,↓qv,↓ef,↓bslS,↓stS,↓appS,slot,putS,putO,ofV,fldA,rdF,Ent.row,ldS,sz,wrF,srcS,binH,binS2,binS,stor,Value.oneCell',notInt,hs,z1,hc2,hm2,hrow2,hu1,hu2,putH_pC,lookH_at,putH_at,lookH_pB,Sl.sz]
       repeat (refine ⟨by omega,?_⟩)
       have hzf:∀ c l,lookH (putH (putH H2 m .none) km c++l) h.length = Chunk.cells true [.int .i64 0,.int .i64 0,.int .i64 0,.int .i64 0,.fam 32 1 fun _=>.int .u8 0,.v (.slice none 0 0),.v (.slice none 0 0),.v (.slice none 0 0),.v (.slice none 0 0),.int .i64 0,.fam 32 1 fun _=>.int .u8 0]:=fun c l=>by rw [lookH_at _ (by rw [putH_len,putH_len]; exact hzl2),lookH_put_ne _ (by omega),lookH_put_ne _ (Ne.symm hmz)]; exact hz2
       have hBf:=fun c l=>RdK.ext (RdK.put hB2m hu1 c) (extR_app _ l)
       have hEf:=fun c l=>((hEn2.put (p:=m) .none (.inr hmm)).put (p:=km) c (.inr (by omega))).app l
       exact into_keep [(1,.int .i64 dp),(4,.ptr h.length 0),(6,.ptr (h.length+1) 0),(7,.ptr km 0)] (by simp [sameT,slot,lkL]) fun j=>(hJ9 _).2 ⟨_,km,k,f,v,s,d,s5,s6,s7,(.at (H2.length+1) (X.length+1)),key,of,_,_,_,j,hEf _ _,hzf _ _,hu2 _ _,(hBf _ _).b,hkm,lookH_pD _ _ _ hml2,.inl ⟨hne,hR2⟩,rfl⟩
      ·have hS2:∀ j,j < kc→j ≠ h.length+1→lookH H2 j = lookH H1 j:=fun j hj hn=>(hE2.2 j (by omega) hn).trans (hSc j hj)
       have hc2:=hE2.look hc8 (by simp) fun h=>absurd h (by omega)
       have hl2:kc < H2.length:=Nat.lt_of_lt_of_le hlc hE2.1
       have hcl2:=lookH_lt hc2 (by simp)
       obtain ⟨ht2,hy2,hle3⟩:=tlN_o (q:=qM D) he3
       rw [ht2] at hRq
       have hdl:(r.drop u).length = r.length - u:=List.length_drop ..
       clear ht2
       obtain ⟨n2,hn2⟩:∃ n2,n2 = y.toNat:=⟨_,rfl⟩
       rw [show nat y = ((y.toNat:Nat):Int) from rfl,← hn2]
       rw [← hn2] at hRq hy2
       simp -implicitDefEqProofs (maxSteps:=1000000) only [↓zzP,zzA,reduceIte,Nat.reduceLT,↓reduceIte,↓gd,↓opP,↓qv,putS,putO,ofV]
       repeat (refine ⟨by omega,?_⟩)
       refine codeP_loop (pl:=pl86) tabOk follows_mixed (by kernel_rfl) (fun z2 st=>∃ (n2 i2:Nat) (H2:List Chunk) (sv2:SV) (r2:List By) (Y:List Msg) (m2:Nat) (G2:Nat→List SV) (j:Nat→Value),i2+z2 = n2∧n2≤64∧kc < H2.length∧(∀ j,j < kc→j ≠ h.length+1→lookH H2 j = lookH H1 j)∧lookH H2 (h.length+1) = .cells true [sv2,.int .i64 0]∧RdK kb H2 sv2 r2∧r2.length≤1048576∧lookH H2 kc = .cells true [.int .i64 xk,.int .i64 xf,.int .i64 xv,.int .i64 xs,.fam 32 1 fun i=>.int .u8 (nat (xd i)),.osl xkb 0 0 1 xnb,.osl xkbs 0 0 1 xnbs,.osl xkp 0 0 73 xnp,.osl xkq 0 0 74 xnq,.int .i64 xkey,.fam 32 1 fun i=>.int .u8 (nat (xof i)),.osl m2 0 0 73 Y.length]∧kc < m2∧lookH H2 m2 = .row true Y.length 73 (fun i=>.agg (G2 i))∧Y.length = i2∧(∀ i (hi:i < Y.length),RelM (fresh kc (putH H2 m2 .none)) Y[i] (.agg (G2 i)))∧R = bndM (pre Y (lp (qM D) z2 r2)) (fun y:List Msg × List By=>bndM (pre (X++[(c,y.1)]) (lp (qPf (qM D)) z y.2)) (fun x:List (Msg × List Msg) × List By=>r9 k f v s d b bs2 p x.1 x.2))∧st = ⟨⟨125,[(1,.int .i64 dp),(4,.ptr h.length 0),(6,.ptr (h.length+1) 0),(7,.ptr km 0),(8,.ptr kc 0),(69,.int .u64 (n:Nat)),(70,.int .u64 (i:Nat)),(77,.int .u64 (n2:Nat)),(78,.int .u64 (i2:Nat))],j⟩,H2,[]⟩) ?_ ?_
       ·refine into_cellG ([.int .i64 xk,.int .i64 xf,.int .i64 xv,.int .i64 xs,.fam 32 1 fun i=>.int .u8 (nat (xd i)),.osl xkb 0 0 1 xnb,.osl xkbs 0 0 1 xnbs,.osl xkp 0 0 73 xnp,.osl xkq 0 0 74 xnq,.int .i64 xkey,.fam 32 1 fun i=>.int .u8 (nat (xof i)),.osl H2.length 0 0 73 0]) 73 (fun i=>.agg ((fun _=>[]) i)) hc2 ?_ ?_ ?_ ?_
        ·intro ρ hρ
         simp [denC,den,hρ,Sl.sv,Sl.sz,Sl.parts,Sl.single]
        ·exact fun q=>⟨q.1,q.2.1,q.2.2.1,q.2.2.2.1,q.2.2.2.2.1,q.2.2.2.2.2.1,q.2.2.2.2.2.2.1,q.2.2.2.2.2.2.2.1,q.2.2.2.2.2.2.2.2.1,q.2.2.2.2.2.2.2.2.2.1,q.2.2.2.2.2.2.2.2.2.2.1,(by simp [ok]),trivial⟩
        ·exact fun q=>⟨q.1,q.2.1,q.2.2.1,q.2.2.2.1,q.2.2.2.2.1,q.2.2.2.2.2.1,q.2.2.2.2.2.2.1,q.2.2.2.2.2.2.2.1,q.2.2.2.2.2.2.2.2.1,q.2.2.2.2.2.2.2.2.2.1,q.2.2.2.2.2.2.2.2.2.2.1,(by simp [stor]),trivial⟩
        exact into_keep [(1,.int .i64 dp),(4,.ptr h.length 0),(6,.ptr (h.length+1) 0),(7,.ptr km 0),(8,.ptr kc 0),(69,.int .u64 (n:Nat)),(70,.int .u64 (i:Nat)),(77,.int .u64 (n2:Nat)),(78,.int .u64 0)] (by simp [sameT,slot,lkL]) fun j=>⟨n2,n2,0,_,sv2,ra,[],H2.length,fun _=>[],j,by omega,hy2,by rw [List.length_append,putH_len]; omega,fun j hj hn=>by rw [lookH_at _ (by rw [putH_len]; omega),lookH_put_ne _ (by omega)]; exact hS2 j hj hn,by rw [lookH_at _ (by rw [putH_len]; omega),lookH_put_ne _ (by omega)]; exact hk2,RdK.ext (RdK.put hB2 hc2 _) (extR_app _ _),by omega,(lookH_at _ (by rw [putH_len]; exact hcl2)).trans (lookH_put_same _ hcl2),hl2,lookH_pA0 _ _ _ _,rfl,fun i hi=>absurd hi (Nat.not_lt_zero _),by rw [pre_nil]; exact hRq,rfl⟩
       clear hE2 hk2 hB2 hS2 hc2 hl2 hcl2 hRq he3 hy2 hn2
       rintro z2 st ⟨n2,i2,H2,sv2,r2,Y,m2,G2,j,hin2,hn6,hl2,hS2,hk2,hB2,hln2,hc2,hm2c,hy2,hYi,hrelY,hRY,rfl⟩
       by_cases cz2:0 < z2
       ·obtain ⟨z2,rfl⟩:∃ y,z2 = y+1:=⟨z2 - 1,by omega⟩
        have g3:decide ((i2:Int) < (n2:Int)) = true:=decide_eq_true (by omega)
        have g4:IntKind.u64.wrap ((i2:Int)+1) = ((i2+1:Nat):Int):=by
         rw [show (i2:Int)+1 = ((i2+1:Nat):Int) by omega]
         exact Go.Sx.wrap_small rfl (by omega) (by rw [show IntKind.u64.bits = 64 from rfl]; omega)
        simp -implicitDefEqProofs (maxSteps:=1000000) only [↓zzP,zzA,zzL,zzB,Nat.reduceSub,reduceIte,reduceCtorEq,Nat.reduceLT,↓reduceIte,Nat.reduceEqDiff,Nat.reduceLeDiff,Array.reduceGetElem?,↓gd,↓opP,↓qv,slot,putS,putO,fldA,rdF,Ent.row,ldS,sz,binH,binS2,binS,qn,ldN,pl86,g3,hc2]
        repeat (refine ⟨by omega,?_⟩)
        refine k142u dp D hdp hD hq142 r2 H2 _ _ hk2 hB2 (by omega) _ (fun e3 he3 H3 sv3 ra3 x3 hE3 hk3 hB3 hx=>?_) (fun c2 u2 he3 H3 sv3 x3 hE3 hk3 hB3 hrel3=>?_)
        ·have hS3:∀ j,j < kc→j ≠ h.length+1→lookH H3 j = lookH H1 j:=fun j hj hn=>(hE3.2 j (by omega) hn).trans (hS2 j hj hn)
         have hc3:=hE3.look hc2 (by simp) fun h=>absurd h (by omega)
         have hy3:=ext_rd hE3 hk2 _ _ _ _ _ hy2
         obtain ⟨k2,d2,x2,w2,N2,F2,rfl,hkb2,hr2,hN2,hF2⟩:=id hB3
         obtain ⟨lx,rfl,yk,yf,yv,ys,yd,t5,t6,t7,t8,ykey,yof,rfl⟩:=hx
         have hcl3:=lookH_lt hc3 (by simp)
         have hyl3:=lookH_lt hy3 (by simp)
         have hkl3:=lookH_lt hk3 (by simp)
         have hu1:=(lookH_put_ne .none (show kc ≠ m2 by omega)).trans hc3
         have hu2:∀ c l,lookH (putH (putH H3 m2 .none) kc c++l) (h.length+1) = .cells true [.osl k2 d2 x2 1 ra3.length,.int .i64 e3]:=fun c l=>by rw [lookH_at _ (by rw [putH_len,putH_len]; exact hkl3),lookH_put_ne _ (by omega),lookH_put_ne _ (by omega)]; exact hk3
         have hB3m:RdK kb (putH H3 m2 .none) _ _:=⟨k2,d2,x2,w2,N2,F2,rfl,hkb2,by rw [lookH_put_ne _ (by omega)]; exact hr2,hN2,hF2⟩
         have hS4:∀ c l j,j < kc→j ≠ h.length+1→lookH (putH (putH H3 m2 .none) kc c++l) j = lookH H1 j:=fun c l j hj hn=>by rw [lookH_at _ (by rw [putH_len,putH_len]; omega),lookH_put_ne _ (by omega),lookH_put_ne _ (by omega)]; exact hS3 j hj hn
         have hB4:=fun c l=>RdK.ext (RdK.put hB3m hu1 c) (extR_app _ l)
         have hne:=qM_ne D _ _ he3
         have hR2:R = .error e3:=by rw [hRY,lp_e Y he3]; rfl
         have z1:(e3 != 0) = true:=bne_iff_ne.2 hne
         have hs:Sl.sv 74 (Sl.at m X.length) = .osl m 0 0 74 X.length:=rfl
         have hmX:=(hS3 km (by omega) (by omega)).trans hm1
         have hzX:=(hS3 h.length (by omega) (by omega)).trans hz1
         have hrX:=(hS3 m (by omega) hmr).trans hrow1
         have a1:=fun c l=>(hS4 c l km (by omega) (by omega)).trans hm1
         have a2:=fun c l=>(hS4 c l m (by omega) hmr).trans hrow1
         have a3:∀ c l,lookH (putH (putH H3 m2 .none) kc c++l) kc = c:=fun c l=>lookH_pD _ _ _ hcl3
         have hml3:=lookH_lt hmX (by simp)
         have hrl3:=lookH_lt hrX (by simp)
         have hzl3:=lookH_lt hzX (by simp)
         have e1:∀ c l,putH (putH (putH H3 m2 .none) kc c++l) m .none = putH (putH (putH H3 m2 .none) kc c) m .none++l:=fun c l=>putH_at _ _ (by rw [putH_len,putH_len]; exact hrl3)
         have e2:∀ c c' l,putH (putH (putH (putH H3 m2 .none) kc c) m .none++l) km c' = putH (putH (putH (putH H3 m2 .none) kc c) m .none) km c'++l:=fun c c' l=>putH_at _ _ (by rw [putH_len,putH_len,putH_len]; exact hml3)
         have b1:∀ c l,lookH (putH (putH (putH H3 m2 .none) kc c) m .none++l) km = .cells true [.int .i64 k,.int .i64 f,.int .i64 v,.int .i64 s,.fam 32 1 fun i=>.int .u8 (nat (d i)),Sl.sv 1 s5,Sl.sv 1 s6,Sl.sv 73 s7,Sl.sv 74 (Sl.at m X.length),.int .i64 key,.fam 32 1 fun i=>.int .u8 (nat (of i))]:=fun c l=>by rw [lookH_at _ (by rw [putH_len,putH_len,putH_len]; exact hml3),lookH_put_ne _ (Ne.symm hmk),lookH_put_ne _ (by omega),lookH_put_ne _ (by omega)]; exact hmX
         have d1:∀ c c' l,lookH (putH (putH (putH (putH H3 m2 .none) kc c) m .none) km c'++l) (h.length+1) = .cells true [.osl k2 d2 x2 1 ra3.length,.int .i64 e3]:=fun c c' l=>by rw [lookH_at _ (by rw [putH_len,putH_len,putH_len,putH_len]; exact hkl3),lookH_put_ne _ (by omega),lookH_put_ne _ (Ne.symm hmr),lookH_put_ne _ (by omega),lookH_put_ne _ (by omega)]; exact hk3
         simp -implicitDefEqProofs (maxSteps:=1000000) (disch:=omega) only [↓zzP,zzA,zzL,zzB,Nat.reduceSub,reduceIte,reduceCtorEq,Nat.reduceMul,Nat.reduceLT,↓reduceIte,Nat.reduceEqDiff,Nat.reduceLeDiff,Nat.reduceAdd,Array.reduceGetElem?,↓gd,↓opP,↓qv,↓ef,↓bslS,↓stS,↓appS,slot,putS,putO,ofV,fldA,rdF,Ent.row,ldS,sz,wrF,srcS,binH,binS2,binS,stor,qn,notInt,hs,z1,hc3,hy3,hu1,hu2,a1,a2,a3,e1,e2,b1,d1,lookH_two,putH_pC,lookH_at,putH_at,putH_len,lookH_pB,Sl.sz,Sl.stor]
         repeat (refine ⟨by omega,?_⟩)
         have hkm2:k2 ≠ km:=fun e=>by rw [e,hmX] at hr2; cases hr2
         have hEx:Ext (fun _=>False) h H3:=⟨by have:=hEn.1; omega,fun k hk1 _=>(hS3 k (by have:=hEn.1; omega) (by omega)).trans (hEn.2 k hk1 fun h=>h)⟩
         exact into_keep [(1,.int .i64 dp),(4,.ptr h.length 0),(6,.ptr (h.length+1) 0),(7,.ptr km 0)] (by simp [sameT,slot,lkL]) fun j=>(hJ9 _).2 ⟨_,km,k,f,v,s,d,s5,s6,s7,(.at (H3.length+3) (X.length+1)),key,of,_,_,_,j,((((hEx.put (p:=m2) .none (.inr (by omega))).put (p:=kc) _ (.inr (by omega))).put (p:=m) .none (.inr hmm)).put (p:=km) _ (.inr (by omega))).app _,by rw [lookH_at _ (by rw [putH_len,putH_len,putH_len,putH_len]; exact hzl3),lookH_put_ne _ (by omega),lookH_put_ne _ (Ne.symm hmz),lookH_put_ne _ (by omega),lookH_put_ne _ (by omega)]; exact hzX,d1 _ _ _,⟨k2,d2,x2,w2,N2,F2,rfl,by rw [lookH_at _ (by rw [putH_len,putH_len,putH_len,putH_len]; exact lookH_lt hr2 (by simp)),lookH_put_ne _ hkm2,lookH_put_ne _ (by omega),lookH_put_ne _ (by omega),lookH_put_ne _ (by omega)]; exact hr2,hN2,hF2⟩,hkm,by rw [lookH_at _ (by rw [putH_len,putH_len,putH_len,putH_len]; exact hml3),lookH_put_same _ (by rw [putH_len,putH_len,putH_len]; exact hml3)]; rfl,.inl ⟨hne,hR2⟩,rfl⟩
        ·have hS3:∀ j,j < kc→j ≠ h.length+1→lookH H3 j = lookH H1 j:=fun j hj hn=>(hE3.2 j (by omega) hn).trans (hS2 j hj hn)
         have hc3:=hE3.look hc2 (by simp) fun h=>absurd h (by omega)
         have hy3:=ext_rd hE3 hk2 _ _ _ _ _ hy2
         obtain ⟨k2,d2,x2,w2,N2,F2,rfl,hkb2,hr2,hN2,hF2⟩:=id hB3
         obtain ⟨lx2,rfl,hmx2,hwx2⟩:=id hrel3
         obtain ⟨yk,yf,yv,ys,yd,ykb,ynb,ykbs,ynbs,ykp,ynp,ykq,ynq,ykey,yof,rfl⟩:=hmx2.open
         have hcl3:=lookH_lt hc3 (by simp)
         have hyl3:=lookH_lt hy3 (by simp)
         have hkl3:=lookH_lt hk3 (by simp)
         have hu1:=(lookH_put_ne .none (show kc ≠ m2 by omega)).trans hc3
         have hu2:∀ c l,lookH (putH (putH H3 m2 .none) kc c++l) (h.length+1) = .cells true [.osl k2 d2 x2 1 (r2.drop u2).length,.int .i64 0]:=fun c l=>by rw [lookH_at _ (by rw [putH_len,putH_len]; exact hkl3),lookH_put_ne _ (by omega),lookH_put_ne _ (by omega)]; exact hk3
         have hB3m:RdK kb (putH H3 m2 .none) _ _:=⟨k2,d2,x2,w2,N2,F2,rfl,hkb2,by rw [lookH_put_ne _ (by omega)]; exact hr2,hN2,hF2⟩
         have hS4:∀ c l j,j < kc→j ≠ h.length+1→lookH (putH (putH H3 m2 .none) kc c++l) j = lookH H1 j:=fun c l j hj hn=>by rw [lookH_at _ (by rw [putH_len,putH_len]; omega),lookH_put_ne _ (by omega),lookH_put_ne _ (by omega)]; exact hS3 j hj hn
         have hB4:=fun c l=>RdK.ext (RdK.put hB3m hu1 c) (extR_app _ l)
         have z1:((0:Int) != 0) = false:=rfl
         simp -implicitDefEqProofs (maxSteps:=1000000) (disch:=omega) only [↓zzP,zzA,zzL,zzB,Nat.reduceSub,reduceIte,reduceCtorEq,Nat.reduceMul,Nat.reduceLT,↓reduceIte,Nat.reduceEqDiff,Nat.reduceLeDiff,Nat.reduceAdd,Array.reduceGetElem?,↓gd,↓opP,↓qv,↓ef,↓bslS,↓stS,↓appS,slot,putS,putO,ofV,fldA,rdF,Ent.row,ldS,sz,wrF,srcS,binH,binS2,binS,stor,qn,notInt,z1,g4,hc3,hy3,hu1,hu2,putH_pC,lookH_at,putH_at,lookH_pB]
         repeat (refine ⟨by omega,?_⟩)
         rw [lp_o Y he3] at hRY
         obtain ⟨LX,hLX⟩:∃ LX:List SV,LX = [.int .i64 yk,.int .i64 yf,.int .i64 yv,.int .i64 ys,.fam 32 1 fun i=>.int .u8 (nat (yd i)),.osl ykb 0 0 1 ynb,.osl ykbs 0 0 1 ynbs,.osl ykp 0 0 73 ynp,.osl ykq 0 0 74 ynq,.int .i64 ykey,.fam 32 1 fun i=>.int .u8 (nat (yof i))]:=⟨_,rfl⟩
         refine into_sim (sim_two (c':=.row true (Y.length+1) 73 (fun j=>.agg (if j < Y.length then G2 j else LX))) (chSim_row rfl fun j hj=>?_)) ?_
         ·by_cases c3:j < Y.length
          ·rw [if_pos c3,if_pos c3]
          ·rw [if_neg c3,if_neg c3,hLX,show j - Y.length = 0 by omega]; rfl
         rw [← hLX] at hrel3
         obtain ⟨Y2,hY2⟩:∃ Y2,Y2 = Y++[c2]:=⟨_,rfl⟩
         have hYl:Y.length+1 = Y2.length:=by rw [hY2,List.length_append]; rfl
         have hyl2:=lookH_lt hy2 (by simp)
         rw [hYl]
         rw [← hY2] at hRY
         exact into_keep [(1,.int .i64 dp),(4,.ptr h.length 0),(6,.ptr (h.length+1) 0),(7,.ptr km 0),(8,.ptr kc 0),(69,.int .u64 (n:Nat)),(70,.int .u64 (i:Nat)),(77,.int .u64 (n2:Nat)),(78,.int .u64 ((i2+1:Nat):Int))] (by simp [sameT,slot,lkL]) fun j=>⟨z2,by omega,n2,i2+1,_,_,r2.drop u2,Y2,H3.length+1,_,j,by omega,hn6,by rw [List.length_append,putH_len,putH_len]; omega,hS4 _ _,hu2 _ _,hB4 _ _,by rw [List.length_drop]; omega,lookH_pD _ _ _ hcl3,by omega,lookH_two _ _ _ H3 m2 kc 1,by omega,fun i hi=>by
          rw [putH_two]
          by_cases c3:i < Y.length
          ·have e:Y2[i] = Y[i]:=by simp [hY2,List.getElem_append_left c3]
           rw [e,if_pos c3]
           exact RelM.mono _ _ _ _ (extR_lp1 hE3 hk2 hc3 _ _) (hrelY i c3)
          ·have e:Y2[i] = c2:=by
            simp only [hY2]
            rw [List.getElem_append_right (by omega)]
            simp
           rw [e,if_neg c3]
           exact RelM.mono _ _ _ _ (extR_lp2 (by omega) hyl2 hc3 _ _) hrel3,hRY,rfl⟩
       ·obtain rfl:z2 = 0:=by omega
        have g3:decide ((i2:Int) < (n2:Int)) = false:=decide_eq_false (by omega)
        have hR3:R = bndM (pre (X++[(c,Y)]) (lp (qPf (qM D)) z r2)) (fun x:List (Msg × List Msg) × List By=>r9 k f v s d b bs2 p x.1 x.2):=by rw [hRY,lp]; simp only [pre,List.append_nil]; rfl
        have hkn:lookH H2 (h.length+1) = .cells true [sv2,.int .i64 0]:=hk2
        obtain ⟨k2,d2,x2,w2,N2,F2,rfl,hkb2,hr2,hN2,hF2⟩:=id hB2
        have hs:Sl.sv 74 (Sl.at m X.length) = .osl m 0 0 74 X.length:=rfl
        have hm2:lookH H2 km = .cells true [.int .i64 k,.int .i64 f,.int .i64 v,.int .i64 s,.fam 32 1 fun i=>.int .u8 (nat (d i)),Sl.sv 1 s5,Sl.sv 1 s6,Sl.sv 73 s7,Sl.sv 74 (Sl.at m X.length),.int .i64 key,.fam 32 1 fun i=>.int .u8 (nat (of i))]:=(hS2 _ (by omega) (by omega)).trans hm1
        have hz2:lookH H2 h.length = Chunk.cells true [.int .i64 0,.int .i64 0,.int .i64 0,.int .i64 0,.fam 32 1 fun _=>.int .u8 0,.v (.slice none 0 0),.v (.slice none 0 0),.v (.slice none 0 0),.v (.slice none 0 0),.int .i64 0,.fam 32 1 fun _=>.int .u8 0]:=(hS2 _ (by omega) (by omega)).trans hz1
        have hrow2:lookH H2 m = .row true X.length 74 (fun i=>.agg (G i)):=(hS2 _ (by omega) hmr).trans hrow1
        have hEn2:Ext (fun _=>False) h H2:=⟨by have:=hEn.1; omega,fun k hk1 _=>(hS2 k (by have:=hEn.1; omega) (by omega)).trans (hEn.2 k hk1 fun h=>h)⟩
        have hml2:=lookH_lt hm2 (by simp)
        have hkl2:=lookH_lt hk2 (by simp)
        have hrl2:=lookH_lt hrow2 (by simp)
        have hzl2:=lookH_lt hz2 (by simp)
        have hu1:=(lookH_put_ne .none (Ne.symm hmk)).trans hm2
        have hu2:∀ c l,lookH (putH (putH H2 m .none) km c++l) (h.length+1) = .cells true [.osl k2 d2 x2 1 r2.length,.int .i64 0]:=fun c l=>by rw [lookH_at _ (by rw [putH_len,putH_len]; exact hkl2),lookH_put_ne _ (by omega),lookH_put_ne _ (Ne.symm hmr)]; exact hk2
        have hB2m:RdK kb (putH H2 m .none) _ _:=⟨k2,d2,x2,w2,N2,F2,rfl,hkb2,by rw [lookH_put_ne _ (by omega)]; exact hr2,hN2,hF2⟩
        have z1:((0:Int) != 0) = false:=rfl
        simp -implicitDefEqProofs (maxSteps:=1000000) (disch:=omega) only [↓zzP,zzA,zzL,zzB,Nat.reduceSub,reduceIte,reduceCtorEq,Nat.reduceMul,Nat.reduceLT,↓reduceIte,Nat.reduceEqDiff,Nat.reduceLeDiff,Nat.reduceAdd,↓gd,↓opP,↓qv,↓ef,↓bslS,↓stS,↓appS,slot,putS,putO,ofV,fldA,rdF,Ent.row,ldS,sz,wrF,srcS,binH,binS2,binS,stor,notInt,hs,z1,g2,g3,hc2,hm2,hrow2,hu1,hu2,putH_pC,lookH_at,putH_at,lookH_pB,Sl.sz]
        repeat (refine ⟨by omega,?_⟩)
        have hzf:∀ c l,lookH (putH (putH H2 m .none) km c++l) h.length = Chunk.cells true [.int .i64 0,.int .i64 0,.int .i64 0,.int .i64 0,.fam 32 1 fun _=>.int .u8 0,.v (.slice none 0 0),.v (.slice none 0 0),.v (.slice none 0 0),.v (.slice none 0 0),.int .i64 0,.fam 32 1 fun _=>.int .u8 0]:=fun c l=>by rw [lookH_at _ (by rw [putH_len,putH_len]; exact hzl2),lookH_put_ne _ (by omega),lookH_put_ne _ (Ne.symm hmz)]; exact hz2
        have hBf:=fun c l=>RdK.ext (RdK.put hB2m hu1 c) (extR_app _ l)
        have hEf:=fun c l=>((hEn2.put (p:=m) .none (.inr hmm)).put (p:=km) c (.inr (by omega))).app l
        have hmH:=lookH_lt hrow (by simp)
        have hle0:=hE.1
        have T1:∀ c x,ExtR (fresh h.length (putH H m .none)) (fresh h.length (putH (putH H2 m .none) km c++x)):=fun c x=>extR_fin (Nat.le_refl _) (fun k w b s f ha hh=>by
         have h0:k ≠ m:=fun e=>by rw [e,lookH_put_same _ hmH] at hh; cases hh
         rw [lookH_put_ne _ h0] at hh
         have h1:=ext_rd hE1 hk _ _ _ _ _ hh
         have h2:=lookH_lt h1 (by simp)
         have h3:k ≠ h.length+1:=fun e=>by rw [e,hk] at hh; cases hh
         exact ⟨(hS2 k (by omega) h3).trans h1,h0⟩) hm2 c x
        have T2:∀ c x,ExtR (fresh H.length H1) (fresh h.length (putH (putH H2 m .none) km c++x)):=fun c x=>extR_fin hle0 (fun k w b s f ha hh=>by
         have h2:=lookH_lt hh (by simp)
         exact ⟨(hS2 k (by omega) (by omega)).trans hh,by omega⟩) hm2 c x
        have T3:∀ c x,ExtR (fresh kc H2) (fresh h.length (putH (putH H2 m .none) km c++x)):=fun c x=>extR_fin (by omega) (fun k w b s f ha hh=>⟨hh,by omega⟩) hm2 c x
        have hYm:MsgsH (fresh kc H2) Y G2:=MsgsH.mk fun i hi=>by
         obtain ⟨l,e1,hm3,_⟩:=hrelY i hi
         cases e1
         exact hm3.extR extR_f1
        have hYw:wfL Y:=wfL.mk fun i hi=>by
         obtain ⟨l,e1,_,hw1⟩:=hrelY i hi
         exact hw1
        obtain ⟨LX,hLX⟩:∃ LX:List SV,LX = [.int .i64 xk,.int .i64 xf,.int .i64 xv,.int .i64 xs,.fam 32 1 fun i=>.int .u8 (nat (xd i)),.osl xkb 0 0 1 xnb,.osl xkbs 0 0 1 xnbs,.osl xkp 0 0 73 xnp,.osl xkq 0 0 74 xnq,.int .i64 xkey,.fam 32 1 fun i=>.int .u8 (nat (xof i)),.osl m2 0 0 73 Y.length]:=⟨_,rfl⟩
        refine into_sim (sim_two (c':=.row true (X.length+1) 74 (fun j=>.agg (if j < X.length then G j else LX))) (chSim_row rfl fun j hj=>?_)) ?_
        ·by_cases c3:j < X.length
         ·rw [if_pos c3,if_pos c3]
         ·rw [if_neg c3,if_neg c3,hLX,show j - X.length = 0 by omega]; rfl
        obtain ⟨X2,hX2⟩:∃ X2,X2 = X++[(c,Y)]:=⟨_,rfl⟩
        have hXl:X.length+1 = X2.length:=by rw [hX2,List.length_append]; rfl
        rw [hXl]
        rw [← hX2] at hR3
        exact into_keep [(1,.int .i64 dp),(4,.ptr h.length 0),(6,.ptr (h.length+1) 0),(7,.ptr km 0),(69,.int .u64 (n:Nat)),(70,.int .u64 ((i+1:Nat):Int))] (by simp [sameT,slot,lkL]) fun j=>⟨z,by omega,n,i+1,_,km,k,f,v,s,d,s5,s6,s7,(.at (H2.length+1) X2.length),key,of,_,r2,j,by omega,hn5,hEf _ _,hzf _ _,hu2 _ _,hkm,lookH_pD _ _ _ hml2,hln2,hg1,hg2,hg3,hg4,X2,H2.length+1,_,by omega,rfl,by omega,lookH_two _ _ _ H2 m km 1,fun i hi=>by
         rw [putH_two]
         by_cases c3:i < X.length
         ·have e:X2[i] = X[i]:=by simp [hX2,List.getElem_append_left c3]
          rw [e,if_pos c3]
          exact RelP.mono _ _ _ _ (T1 _ _) (hrel i c3)
         ·have e:X2[i] = (c,Y):=by
           simp only [hX2]
           rw [List.getElem_append_right (by omega)]
           simp
          rw [e,if_neg c3,hLX]
          exact ⟨_,rfl,⟨[.int .i64 xk,.int .i64 xf,.int .i64 xv,.int .i64 xs,.fam 32 1 fun i=>.int .u8 (nat (xd i)),.osl xkb 0 0 1 xnb,.osl xkbs 0 0 1 xnbs,.osl xkp 0 0 73 xnp,.osl xkq 0 0 74 xnq,.int .i64 xkey,.fam 32 1 fun i=>.int .u8 (nat (xof i))],m2,true,G2,rfl,hmx.extR (T2 _ _),T3 _ _ _ _ _ _ _ (by rw [fresh_look,if_neg (by omega)]; exact hy2),MsgsH.extR (T3 _ _) hYm⟩,hwx,hYw⟩,kb,by omega,hBf _ _,b,bs2,p,m7,f7,by rw [putH_two]; exact hb.extR (T1 _ _),by rw [putH_two]; exact hbs.extR (T1 _ _),hp1,by rw [putH_two]; exact T1 _ _ _ _ _ _ _ hp2,by rw [putH_two]; exact MsgsH.extR (T1 _ _) hp3,hp4,hR3,rfl⟩
    ·obtain rfl:z = 0:=by omega
     have g1:decide ((i:Int) < (n:Int)) = false:=decide_eq_false (by omega)
     simp -implicitDefEqProofs (maxSteps:=1000000) (disch:=omega) only [↓zzP,zzA,zzL,reduceIte,reduceCtorEq,Nat.reduceLT,↓reduceIte,Nat.reduceEqDiff,↓gd,↓opP,↓qv,slot,putS,putO,binH,binS2,binS,g1]
     repeat (refine ⟨by omega,?_⟩)
     have hR2:R = r9 k f v s d b bs2 p X r:=by rw [hR,lp]; simp only [pre,List.append_nil]; rfl
     have hXm:PrepsH (fresh h.length (putH H m .none)) X G:=PrepsH.mk fun i hi=>by
      obtain ⟨l,e1,hm3,_⟩:=hrel i hi
      cases e1
      exact hm3
     have hXw:wfQ X:=wfQ.mk fun i hi=>by
      obtain ⟨l,e1,_,hw1⟩:=hrel i hi
      exact hw1
     exact into_keep [(1,.int .i64 dp),(4,.ptr h.length 0),(6,.ptr (h.length+1) 0),(7,.ptr km 0)] (by simp [sameT,slot,lkL]) fun j=>(hJ9 _).2 ⟨_,km,k,f,v,s,d,s5,s6,s7,s8,key,of,_,_,_,j,hE,hz,hk,hB,hkm,hm,.inr ⟨rfl,hln,trivial,hg1,hg2,hg3,hg4,b,bs2,p,m7,f7,X,m,G,hb.extR extR_f1,hbs.extR extR_f1,hp1,extR_f1 _ _ _ _ _ hp2,MsgsH.extR extR_f1 hp3,hp4,hs8,by rw [fresh_look,if_neg (by omega)]; exact hrow,PrepsH.extR extR_f1 hXm,hXw,hR2⟩,rfl⟩
 clear hzl hkl hml hcase hm hkm hB hk hz hE
 clear H km k f v s d s5 s6 s7 s8 key of sv r er j
 clear hJ8 J8
 intro st hst
 obtain ⟨H,km,k,f,v,s,d,s5,s6,s7,s8,key,of,sv,r,er,j,hE,hz,hk,hB,hkm,hm,hcase,rfl⟩:=(hJ9 st).1 hst
 clear hst
 have hzl:=lookH_lt hz (by simp)
 have hkl:=lookH_lt hk (by simp)
 have hml:=lookH_lt hm (by simp)
 obtain ⟨J11,hJ11⟩:∃ J:St→Prop,∀ st,J st ↔ (∃ (H:List Chunk) (km:Nat) (k f v s:Int) (d:Nat→By) (s5 s6 s7 s8:Sl) (key:Int) (of:Nat→By) (sv:SV) (r:List By) (er:Int) (j:Nat→Value),Ext (fun _=>False) h H∧lookH H h.length = Chunk.cells true [.int .i64 0,.int .i64 0,.int .i64 0,.int .i64 0,.fam 32 1 fun _=>.int .u8 0,.v (.slice none 0 0),.v (.slice none 0 0),.v (.slice none 0 0),.v (.slice none 0 0),.int .i64 0,.fam 32 1 fun _=>.int .u8 0]∧lookH H (h.length+1) = .cells true [sv,.int .i64 er]∧RdB H sv r∧h.length+1 < km∧lookH H km = .cells true [.int .i64 k,.int .i64 f,.int .i64 v,.int .i64 s,.fam 32 1 fun i=>.int .u8 (nat (d i)),Sl.sv 1 s5,Sl.sv 1 s6,Sl.sv 73 s7,Sl.sv 74 s8,.int .i64 key,.fam 32 1 fun i=>.int .u8 (nat (of i))]∧((er ≠ 0∧R = .error er) ∨ (er = 0∧r.length≤1048576∧True∧rng k∧rng f∧rng v∧rng s∧rng key∧∃ b bs2 p m7 f7 q m8 f8,rowB (fresh h.length H) (Sl.sv 1 s5) b∧rowBs (fresh h.length H) (Sl.sv 1 s6) bs2∧s7 = .at m7 p.length∧lookH (fresh h.length H) m7 = .row true p.length 73 (fun i=>.agg (f7 i))∧MsgsH (fresh h.length H) p f7∧wfL p∧s8 = .at m8 q.length∧lookH (fresh h.length H) m8 = .row true q.length 74 (fun i=>.agg (f8 i))∧PrepsH (fresh h.length H) q f8∧wfQ q∧R = r11 k f v s d b bs2 p q key of r))∧st = ⟨⟨125,[(1,.int .i64 dp),(4,.ptr h.length 0),(6,.ptr (h.length+1) 0),(7,.ptr km 0)],j⟩,H,[]⟩):=⟨_,fun _=>Iff.rfl⟩
 refine codeP_seq (pl:=pl86) tabOk follows_mixed (by kernel_rfl) J11 ?_ ?_
 ·rcases hcase with ⟨hne,hR⟩ | ⟨rfl,hln,-,hg1,hg2,hg3,hg4,b,bs2,p,m7,f7,q,m8,f8,hb,hbs,hp1,hp2,hp3,hp4,hq1,hq2,hq3,hq4,hR⟩
  ·obtain ⟨k1,d1,x1,w1,N1,F1,rfl,hr1,hN1,hF1⟩:=id hB
   simp -implicitDefEqProofs (maxSteps:=1000000) (disch:=omega) only [↓zzP,zzA,reduceIte,Nat.reduceLT,↓reduceIte,Nat.reduceEqDiff,↓gd,↓opP,↓qv,slot,putS,putO]
   repeat (refine ⟨by omega,?_⟩)
   refine c138x H _ k1 d1 x1 _ er hk hne _ ?_
   simp -implicitDefEqProofs (maxSteps:=1000000) (disch:=omega) only [↓zzP,zzA,reduceIte,Nat.reduceLT,↓reduceIte,Nat.reduceEqDiff,↓gd,↓opP,↓qv,slot,putS,putO]
   repeat (refine ⟨by omega,?_⟩)
   refine c140x H _ k1 d1 x1 _ er hk hne _ (fun H1 hE1=>?_)
   have hEn:=hE.trans hE1
   have hz1:=hE1.look hz (by simp) fun h=>h
   have hk1:=hE1.look hk (by simp) fun h=>h
   have hm1:=hE1.look hm (by simp) fun h=>h
   have hB1:=RdB.ext hB (ext_rows hE1 fun _ h=>h.elim)
   simp -implicitDefEqProofs (maxSteps:=1000000) (disch:=omega) only [↓zzP,zzA,zzL,zzB,Nat.reduceSub,reduceIte,reduceCtorEq,Nat.reduceLT,↓reduceIte,Nat.reduceEqDiff,Nat.reduceLeDiff,Nat.reduceAdd,↓gd,↓opP,↓qv,↓ef,↓stS,slot,putS,putO,fldA,sz,wrF,plT,bldS,stor,hm1,Sl.sz]
   repeat (refine ⟨by omega,?_⟩)
   exact into_keep [(1,.int .i64 dp),(4,.ptr h.length 0),(6,.ptr (h.length+1) 0),(7,.ptr km 0)] (by simp [sameT,slot,lkL]) fun j=>(hJ11 _).2 ⟨_,km,k,f,v,s,d,s5,s6,s7,s8,0,fun _=>0,_,_,_,j,hEn.put (p:=km) _ (.inr (by omega)),by rw [lookH_put_ne _ (by omega)]; exact hz1,by rw [lookH_put_ne _ (by omega)]; exact hk1,RdB.put hB1 hm1 _,hkm,lookH_put_same _ (lookH_lt hm1 (by simp)),.inl ⟨hne,hR⟩,rfl⟩
  ·simp -implicitDefEqProofs (maxSteps:=1000000) (disch:=omega) only [↓zzP,zzA,reduceIte,Nat.reduceLT,↓reduceIte,Nat.reduceEqDiff,↓gd,↓opP,↓qv,slot,putS,putO]
   repeat (refine ⟨by omega,?_⟩)
   refine c138 r H _ _ hk hB (by omega) _ (fun e2 he H1 sv1 ra hE1 hk1 hB1=>?_) (fun y ra he H1 sv1 hE1 hk1 hB1=>?_)
   ·have hne:=pInt_ne he
    have hR2:R = .error e2:=by rw [hR]; simp only [r9,he]
    have hEn:=ext_new hE hE1 (Nat.le_succ _)
    have hz1:=hE1.look hz (by simp) fun h=>absurd h (by omega)
    have hm1:=hE1.look hm (by simp) fun h=>absurd h (by omega)
    have hX:ExtR (fresh h.length H) (fresh h.length H1):=extR_fk hE1 hk
    have hle:=hE.1
    have hle1:=hE1.1
    have hkl1:=lookH_lt hk1 (by simp)
    have hml1:=lookH_lt hm1 (by simp)
    obtain ⟨k1,d1,x1,w1,N1,F1,rfl,hr1,hN1,hF1⟩:=id hB1
    simp -implicitDefEqProofs (maxSteps:=1000000) (disch:=omega) only [↓zzP,zzA,reduceIte,Nat.reduceLT,↓reduceIte,Nat.reduceEqDiff,↓gd,↓opP,↓qv,slot,putS,putO]
    repeat (refine ⟨by omega,?_⟩)
    refine c140x H1 _ k1 d1 x1 _ e2 hk1 hne _ (fun H2 hE2=>?_)
    have hEn2:=hEn.trans hE2
    have hz2:=hE2.look hz1 (by simp) fun h=>h
    have hm2:=hE2.look hm1 (by simp) fun h=>h
    have hk2:=hE2.look hk1 (by simp) fun h=>h
    have hB2:=RdB.ext hB1 (ext_rows hE2 fun _ h=>h.elim)
    simp -implicitDefEqProofs (maxSteps:=1000000) (disch:=omega) only [↓zzP,zzA,zzL,zzB,Nat.reduceSub,reduceIte,reduceCtorEq,Nat.reduceLT,↓reduceIte,Nat.reduceEqDiff,Nat.reduceLeDiff,Nat.reduceAdd,↓gd,↓opP,↓qv,↓ef,↓stS,slot,putS,putO,fldA,sz,wrF,plT,bldS,stor,hm2,Sl.sz]
    repeat (refine ⟨by omega,?_⟩)
    exact into_keep [(1,.int .i64 dp),(4,.ptr h.length 0),(6,.ptr (h.length+1) 0),(7,.ptr km 0)] (by simp [sameT,slot,lkL]) fun j=>(hJ11 _).2 ⟨_,km,k,f,v,s,d,s5,s6,s7,s8,0,fun _=>0,_,_,_,j,hEn2.put (p:=km) _ (.inr (by omega)),by rw [lookH_put_ne _ (by omega)]; exact hz2,by rw [lookH_put_ne _ (by omega)]; exact hk2,RdB.put hB2 hm2 _,hkm,lookH_put_same _ (lookH_lt hm2 (by simp)),.inl ⟨hne,hR2⟩,rfl⟩
   ·simp only [r9,he] at hR
    have hpo:=pInt_ok he
    have hEn:=ext_new hE hE1 (Nat.le_succ _)
    have hz1:=hE1.look hz (by simp) fun h=>absurd h (by omega)
    have hm1:=hE1.look hm (by simp) fun h=>absurd h (by omega)
    have hX:ExtR (fresh h.length H) (fresh h.length H1):=extR_fk hE1 hk
    have hle:=hE.1
    have hle1:=hE1.1
    have hkl1:=lookH_lt hk1 (by simp)
    have hml1:=lookH_lt hm1 (by simp)
    simp -implicitDefEqProofs (maxSteps:=1000000) (disch:=omega) only [↓zzP,zzA,reduceIte,Nat.reduceLT,↓reduceIte,Nat.reduceEqDiff,↓gd,↓opP,↓qv,slot,putS,putO]
    repeat (refine ⟨by omega,?_⟩)
    refine c140 ra H1 _ _ hk1 hB1 (by have:=hpo.2; omega) _ (fun e2 he2 H2 sv2 rb hE2 hk2 hB2=>?_) (fun x rb he2 H2 sv2 hE2 hk2 hB2=>?_)
    ·have hne:=pDig_ne he2
     have hR2:R = .error e2:=by rw [hR]; simp only [r10,he2]
     have hEn2:=ext_new hEn hE2 (Nat.le_succ _)
     have hz2:=hE2.look hz1 (by simp) fun h=>absurd h (by omega)
     have hm2:=hE2.look hm1 (by simp) fun h=>absurd h (by omega)
     simp -implicitDefEqProofs (maxSteps:=1000000) (disch:=omega) only [↓zzP,zzA,zzL,zzB,Nat.reduceSub,reduceIte,reduceCtorEq,Nat.reduceLT,↓reduceIte,Nat.reduceEqDiff,Nat.reduceLeDiff,Nat.reduceAdd,↓gd,↓opP,↓qv,↓ef,↓stS,slot,putS,putO,fldA,sz,wrF,plT,bldS,stor,hm2,Sl.sz]
     repeat (refine ⟨by omega,?_⟩)
     exact into_keep [(1,.int .i64 dp),(4,.ptr h.length 0),(6,.ptr (h.length+1) 0),(7,.ptr km 0)] (by simp [sameT,slot,lkL]) fun j=>(hJ11 _).2 ⟨_,km,k,f,v,s,d,s5,s6,s7,s8,y,fun _=>0,_,_,_,j,hEn2.put (p:=km) _ (.inr (by omega)),by rw [lookH_put_ne _ (by omega)]; exact hz2,by rw [lookH_put_ne _ (by omega)]; exact hk2,RdB.put hB2 hm2 _,hkm,lookH_put_same _ (lookH_lt hm2 (by simp)),.inl ⟨hne,hR2⟩,rfl⟩
    ·simp only [r10,he2] at hR
     have hpo2:=pDig_ok he2
     have hEn2:=ext_new hEn hE2 (Nat.le_succ _)
     have hz2:=hE2.look hz1 (by simp) fun h=>absurd h (by omega)
     have hm2:=hE2.look hm1 (by simp) fun h=>absurd h (by omega)
     unfold dig32
     simp -implicitDefEqProofs (maxSteps:=1000000) (disch:=omega) only [↓zzP,zzA,zzL,zzB,Nat.reduceSub,reduceIte,reduceCtorEq,Nat.reduceLT,↓reduceIte,Nat.reduceEqDiff,Nat.reduceLeDiff,Nat.reduceAdd,↓gd,↓opP,↓qv,↓ef,↓stS,slot,putS,putO,fldA,sz,wrF,plT,bldS,stor,hm2,Sl.sz]
     repeat (refine ⟨by omega,?_⟩)
     exact into_keep [(1,.int .i64 dp),(4,.ptr h.length 0),(6,.ptr (h.length+1) 0),(7,.ptr km 0)] (by simp [sameT,slot,lkL]) fun j=>(hJ11 _).2 ⟨_,km,k,f,v,s,d,s5,s6,s7,s8,y,x,_,_,_,j,hEn2.put (p:=km) _ (.inr (by omega)),by rw [lookH_put_ne _ (by omega)]; exact hz2,by rw [lookH_put_ne _ (by omega)]; exact hk2,RdB.put hB2 hm2 _,hkm,lookH_put_same _ (lookH_lt hm2 (by simp)),.inr ⟨rfl,by have:=hpo.2; omega,trivial,hg1,hg2,hg3,hg4,hpo.1,b,bs2,p,m7,f7,q,m8,f8,hb.extR (extT (extT (extR_fk hE1 hk) (extR_fk hE2 hk1)) (extR_cells _ hm2)),hbs.extR (extT (extT (extR_fk hE1 hk) (extR_fk hE2 hk1)) (extR_cells _ hm2)),hp1,(extT (extT (extR_fk hE1 hk) (extR_fk hE2 hk1)) (extR_cells _ hm2)) _ _ _ _ _ hp2,MsgsH.extR (extT (extT (extR_fk hE1 hk) (extR_fk hE2 hk1)) (extR_cells _ hm2)) hp3,hp4,hq1,(extT (extT (extR_fk hE1 hk) (extR_fk hE2 hk1)) (extR_cells _ hm2)) _ _ _ _ _ hq2,PrepsH.extR (extT (extT (extR_fk hE1 hk) (extR_fk hE2 hk1)) (extR_cells _ hm2)) hq3,hq4,hR⟩,rfl⟩
 clear hzl hkl hml hcase hm hkm hB hk hz hE
 clear H km k f v s d s5 s6 s7 s8 key of sv r er j
 clear hJ9 J9
 intro st hst
 obtain ⟨H,km,k,f,v,s,d,s5,s6,s7,s8,key,of,sv,r,er,j,hE,hz,hk,hB,hkm,hm,hcase,rfl⟩:=(hJ11 st).1 hst
 clear hst
 have hzl:=lookH_lt hz (by simp)
 have hkl:=lookH_lt hk (by simp)
 have hml:=lookH_lt hm (by simp)
 obtain ⟨J12,hJ12⟩:∃ J:St→Prop,∀ st,J st ↔ (∃ (H:List Chunk) (km:Nat) (k f v s:Int) (d:Nat→By) (s5 s6 s7 s8:Sl) (key:Int) (of:Nat→By) (sv:SV) (r:List By) (er:Int) (j:Nat→Value),Ext (fun _=>False) h H∧lookH H h.length = Chunk.cells true [.int .i64 0,.int .i64 0,.int .i64 0,.int .i64 0,.fam 32 1 fun _=>.int .u8 0,.v (.slice none 0 0),.v (.slice none 0 0),.v (.slice none 0 0),.v (.slice none 0 0),.int .i64 0,.fam 32 1 fun _=>.int .u8 0]∧lookH H (h.length+1) = .cells true [sv,.int .i64 er]∧RdB H sv r∧h.length+1 < km∧lookH H km = .cells true [.int .i64 k,.int .i64 f,.int .i64 v,.int .i64 s,.fam 32 1 fun i=>.int .u8 (nat (d i)),Sl.sv 1 s5,Sl.sv 1 s6,Sl.sv 73 s7,Sl.sv 74 s8,.int .i64 key,.fam 32 1 fun i=>.int .u8 (nat (of i))]∧((er ≠ 0∧R = .error er) ∨ (er = 0∧r.length≤1048576∧True∧rng k∧rng f∧rng v∧rng s∧rng key∧∃ b bs2 p m7 f7 q m8 f8,rowB (fresh h.length H) (Sl.sv 1 s5) b∧rowBs (fresh h.length H) (Sl.sv 1 s6) bs2∧s7 = .at m7 p.length∧lookH (fresh h.length H) m7 = .row true p.length 73 (fun i=>.agg (f7 i))∧MsgsH (fresh h.length H) p f7∧wfL p∧s8 = .at m8 q.length∧lookH (fresh h.length H) m8 = .row true q.length 74 (fun i=>.agg (f8 i))∧PrepsH (fresh h.length H) q f8∧wfQ q∧R = .ok (.mk k f v s d b bs2 p q key of)))∧st = ⟨⟨125,[(1,.int .i64 dp),(4,.ptr h.length 0),(6,.ptr (h.length+1) 0),(7,.ptr km 0)],j⟩,H,[]⟩):=⟨_,fun _=>Iff.rfl⟩
 refine codeP_seq (pl:=pl86) tabOk follows_mixed (by kernel_rfl) J12 ?_ ?_
 ·rcases hcase with ⟨hne,hR⟩ | ⟨rfl,hln,-,hg1,hg2,hg3,hg4,hg5,b,bs2,p,m7,f7,q,m8,f8,hb,hbs,hp1,hp2,hp3,hp4,hq1,hq2,hq3,hq4,hR⟩
  ·obtain ⟨k1,d1,x1,w1,N1,F1,rfl,hr1,hN1,hF1⟩:=id hB
   simp -implicitDefEqProofs (maxSteps:=1000000) (disch:=omega) only [↓zzP,zzA,reduceIte,Nat.reduceLT,↓reduceIte,Nat.reduceEqDiff,↓gd,↓opP,↓qv,slot,putS,putO]
   repeat (refine ⟨by omega,?_⟩)
   refine c143x H _ k1 d1 x1 _ er hk hne _ ?_
   simp -implicitDefEqProofs (maxSteps:=1000000) (disch:=omega) only [↓zzP]
   repeat (refine ⟨by omega,?_⟩)
   exact into_keep [(1,.int .i64 dp),(4,.ptr h.length 0),(6,.ptr (h.length+1) 0),(7,.ptr km 0)] (by simp [sameT,slot,lkL]) fun j=>(hJ12 _).2 ⟨_,km,k,f,v,s,d,s5,s6,s7,s8,key,of,_,_,_,j,hE,hz,hk,hB,hkm,hm,.inl ⟨hne,hR⟩,rfl⟩
  ·simp -implicitDefEqProofs (maxSteps:=1000000) (disch:=omega) only [↓zzP,zzA,reduceIte,Nat.reduceLT,↓reduceIte,Nat.reduceEqDiff,↓gd,↓opP,↓qv,slot,putS,putO]
   repeat (refine ⟨by omega,?_⟩)
   refine c143 r H _ _ hk hB (by omega) _ (fun h0=>?_) (fun h1 H1 sv1 ra hE1 hk1 hB1=>?_)
   ·have hR2:R = .ok (.mk k f v s d b bs2 p q key of):=by rw [hR,r11,if_neg (by omega)]
    simp -implicitDefEqProofs (maxSteps:=1000000) (disch:=omega) only [↓zzP]
    repeat (refine ⟨by omega,?_⟩)
    exact into_keep [(1,.int .i64 dp),(4,.ptr h.length 0),(6,.ptr (h.length+1) 0),(7,.ptr km 0)] (by simp [sameT,slot,lkL]) fun j=>(hJ12 _).2 ⟨_,km,k,f,v,s,d,s5,s6,s7,s8,key,of,_,_,_,j,hE,hz,hk,hB,hkm,hm,.inr ⟨rfl,hln,trivial,hg1,hg2,hg3,hg4,hg5,b,bs2,p,m7,f7,q,m8,f8,hb,hbs,hp1,hp2,hp3,hp4,hq1,hq2,hq3,hq4,hR2⟩,rfl⟩
   ·have hR2:R = .error 4:=by rw [hR,r11,if_pos h1]
    have hEn:=ext_new hE hE1 (Nat.le_succ _)
    have hz1:=hE1.look hz (by simp) fun h=>absurd h (by omega)
    have hm1:=hE1.look hm (by simp) fun h=>absurd h (by omega)
    have hX:ExtR (fresh h.length H) (fresh h.length H1):=extR_fk hE1 hk
    have hle:=hE.1
    have hle1:=hE1.1
    have hkl1:=lookH_lt hk1 (by simp)
    have hml1:=lookH_lt hm1 (by simp)
    simp -implicitDefEqProofs (maxSteps:=1000000) (disch:=omega) only [↓zzP]
    repeat (refine ⟨by omega,?_⟩)
    exact into_keep [(1,.int .i64 dp),(4,.ptr h.length 0),(6,.ptr (h.length+1) 0),(7,.ptr km 0)] (by simp [sameT,slot,lkL]) fun j=>(hJ12 _).2 ⟨_,km,k,f,v,s,d,s5,s6,s7,s8,key,of,_,_,_,j,hEn,hz1,hk1,hB1,hkm,hm1,.inl ⟨by decide,hR2⟩,rfl⟩
 clear hzl hkl hml hcase hm hkm hB hk hz hE
 clear H km k f v s d s5 s6 s7 s8 key of sv r er j
 clear hJ11 J11
 intro st hst
 obtain ⟨H,km,k,f,v,s,d,s5,s6,s7,s8,key,of,sv,r,er,j,hE,hz,hk,hB,hkm,hm,hcase,rfl⟩:=(hJ12 st).1 hst
 clear hst
 have hzl:=lookH_lt hz (by simp)
 have hkl:=lookH_lt hk (by simp)
 have hml:=lookH_lt hm (by simp)
 obtain ⟨k1,d1,x1,w1,N1,F1,rfl,hr1,hN1,hF1⟩:=id hB
 refine codeP_of_vc (pl:=pl86) tabOk follows_mixed (by kernel_rfl) ?_
 rcases hcase with ⟨hne,hR⟩ | ⟨rfl,hln,-,hg1,hg2,hg3,hg4,hg5,b,bs2,p,m7,f7,q,m8,f8,hb,hbs,hp1,hp2,hp3,hp4,hq1,hq2,hq3,hq4,hR⟩
 ·have z1:(er != 0) = true:=bne_iff_ne.2 hne
  simp -implicitDefEqProofs (maxSteps:=1000000) (disch:=omega) only [↓zzP,zzA,zzL,zzB,Nat.reduceSub,reduceIte,reduceCtorEq,Nat.reduceLT,↓reduceIte,Nat.reduceEqDiff,Nat.reduceLeDiff,Nat.reduceAdd,Array.reduceGetElem?,↓gd,↓opP,↓qv,↓ef,↓stS,slot,putS,putO,ofV,fldA,asRow,rdF,Ent.row,ldS,sz,wrF,bldS,binH,binS2,binS,stor,Value.oneCell',qn,ldN,pl86,z1,hk,hz,lookH_put_same]
  repeat (refine ⟨by omega,?_⟩)
  exact ⟨by rw [lookH_put_ne _ (by omega)]; exact hk,intoR_refl (by rw [putH_len]; exact hE.1) (hEE er hR hne _ _ (hE.put (p:=h.length) _ (.inr (Nat.le_refl _))) errM_zero)⟩
 ·have z1:((0:Int) != 0) = false:=rfl
  simp -implicitDefEqProofs (maxSteps:=1000000) (disch:=omega) only [↓zzP,zzA,zzL,zzB,Nat.reduceSub,reduceIte,reduceCtorEq,Nat.reduceLT,↓reduceIte,Nat.reduceEqDiff,Nat.reduceLeDiff,Nat.reduceAdd,↓gd,↓opP,↓qv,↓ef,↓stS,slot,putS,putO,ofV,fldA,rdF,Ent.row,ldS,sz,wrF,binH,binS2,binS,stor,z1,hm,hk,hz,lookH_put_same,Sl.sz,Sl.stor]
  repeat (refine ⟨by omega,?_⟩)
  have hEf:=hE.put (p:=h.length) (.cells true [.int .i64 k,.int .i64 f,.int .i64 v,.int .i64 s,.fam 32 1 fun i=>.int .u8 (nat (d i)),Sl.sv 1 s5,Sl.sv 1 s6,Sl.sv 73 s7,Sl.sv 74 s8,.int .i64 key,.fam 32 1 fun i=>.int .u8 (nat (of i))]) (.inr (Nat.le_refl _))
  subst hp1 hq1
  have hT:ExtR (fresh h.length H) (fresh h.length (putH H h.length (.cells true [.int .i64 k,.int .i64 f,.int .i64 v,.int .i64 s,.fam 32 1 fun i=>.int .u8 (nat (d i)),Sl.sv 1 s5,Sl.sv 1 s6,Sl.sv 73 (.at m7 p.length),Sl.sv 74 (.at m8 q.length),.int .i64 key,.fam 32 1 fun i=>.int .u8 (nat (of i))]))):=extR_cells _ hz
  refine intoR_refl (by rw [putH_len]; exact hE.1) (hOO _ hR _ _ hEf ⟨_,rfl,?_,?_⟩)
  ·rw [MsgH]
   exact ⟨_,_,m7,true,f7,m8,true,f8,rfl,hb.extR hT,hbs.extR hT,hT _ _ _ _ _ hp2,MsgsH.extR hT hp3,hT _ _ _ _ _ hq2,PrepsH.extR hT hq3⟩
  ·rw [wfM]
   exact ⟨hg1,hg2,hg3,hg4,hg5,hp4,hq4⟩
end Go.Proofs.Ytgocfglmideobaa
set_option linter.all false
set_option maxRecDepth 40000
namespace Go.Proofs.Ytgocfglmideobaa
open Go Go.Sx
theorem res39:Try.f39.results.toList = [.cell 2 31,.tmp 3]:=rfl
theorem readRAt:∀ D,D≤5→ReadRAt D
 | 0,h=>c86 0 h fun D' e=>absurd e (by omega)
 | D+1,h=>c86 (D+1) h fun D' e=>by
  have e2:D' = D:=by omega
  rw [e2]
  exact readRAt D (by omega)
theorem rdR_e {bs:List By} {e:Int} (h:rdR 2 bs = .error e):decS bs = .error e:=by
 unfold rdR at h
 unfold decS
 split at h
 ·rename_i c
  rw [if_pos c]
  exact h
 ·rename_i c
  rw [if_neg c,h]
theorem rdR_o {bs:List By} {m:Msg} (h:rdR 2 bs = .ok m):decS bs = if may m = 0 then .ok m else .error (may m):=by
 unfold rdR at h
 unfold decS
 split at h
 ·cases h
 ·rename_i c
  rw [if_neg c,h]
set_option maxHeartbeats 4000000 in
theorem c39 (bs:List By) (h:List Chunk) (k d e:Nat) (w:Bool) (N:Nat) (F:Nat→SV) (hr:lookH h k = .row w N 1 F) (hN:e+bs.length≤N) (hF:∀ i,i < bs.length→F (e+i) = .int .u8 (nat (bs.getD i 0))) (hl:bs.length≤35184372088832) (K:Tok→SV→List Chunk→Prop) (hE:∀ er,decS bs = .error er→∀ H,Ext (fun _=>False) h H→K .mk (.tup [.agg [.int .i64 0,.int .i64 0,.int .i64 0,.int .i64 0,.fam 32 1 fun _=>.int .u8 0,.v (.slice none 0 0),.v (.slice none 0 0),.v (.slice none 0 0),.v (.slice none 0 0),.int .i64 0,.fam 32 1 fun _=>.int .u8 0],.int .i64 er]) H) (hO:∀ m,decS bs = .ok m→∀ H sv,Ext (fun _=>False) h H→RelM H m sv→K .mk (.tup [sv,.int .i64 0]) H):callP Try.prog 39 [.osl k d e 1 bs.length] h K:=by
 refine callP_of_code tabOk Try.func39 (by kernel_rfl) rfl (Nat.le_of_ble_eq_true rfl) (codeP_of_vc (pl:=np) tabOk follows_mixed (by kernel_rfl) ?_)
 rw [Try.ntmps39]
 simp -implicitDefEqProofs (maxSteps:=1000000) (disch:=omega) only [↓zzP,zzA,zzB,reduceIte,reduceCtorEq,Nat.reduceLT,↓reduceIte,↓gd,↓opP,↓qv,↓ef,slot,putS,putO,ofV,asRow,rdF,Ent.row,ldS,tupS,res39]
 repeat (refine ⟨by omega,?_⟩)
 obtain ⟨H0,hH0⟩:∃ H0,H0 = h++[Chunk.cells true [.int .i64 0,.int .i64 0,.int .i64 0,.int .i64 0,.fam 32 1 fun _=>.int .u8 0,.v (.slice none 0 0),.v (.slice none 0 0),.v (.slice none 0 0),.v (.slice none 0 0),.int .i64 0,.fam 32 1 fun _=>.int .u8 0]]:=⟨_,rfl⟩
 have hE0:Ext (fun _=>False) h H0:=by rw [hH0]; exact (Ext.refl _ _).app _
 have e0:lookH H0 h.length = Chunk.cells true [.int .i64 0,.int .i64 0,.int .i64 0,.int .i64 0,.fam 32 1 fun _=>.int .u8 0,.v (.slice none 0 0),.v (.slice none 0 0),.v (.slice none 0 0),.v (.slice none 0 0),.int .i64 0,.fam 32 1 fun _=>.int .u8 0]:=by rw [hH0]; exact lookH_app0 _ _
 have hr0:=hE0.look hr (by simp) fun h=>h
 rw [← hH0]
 refine readRAt 2 (by omega) bs H0 k d e w N F hr0 hN hF (by omega) _ (fun er he hne H1 x hE1 hx=>?_) (fun m he H1 sv hE1 hrel=>?_)
 ·obtain ⟨lx,rfl,yk,yf,yv,ys,yd,s5,s6,s7,s8,ykey,yof,rfl⟩:=hx
  have z2:(er == 0) = false:=beq_eq_false_iff_ne.2 hne
  have z3:(er != 0) = true:=bne_iff_ne.2 hne
  have f0:=hE1.look e0 (by simp) fun h=>h
  have l0:=lookH_lt f0 (by simp)
  have hE2:=hE0.trans hE1
  simp -implicitDefEqProofs (maxSteps:=1000000) (disch:=omega) only [↓zzP,zzA,zzL,zzB,Nat.reduceSub,reduceIte,reduceCtorEq,Nat.reduceLT,↓reduceIte,Nat.reduceEqDiff,Nat.reduceLeDiff,Nat.reduceAdd,↓gd,↓opP,↓qv,↓ef,↓stS,slot,putS,putO,ofV,asRow,sz,wrF,bldS,binH,binS2,binS,stor,Value.oneCell',z2,z3,f0,lookH_at,putH_at,lookH_pB,lookH_put_same,Sl.sz,Sl.stor]
  repeat (refine ⟨by omega,?_⟩)
  exact intoR_refl (by rw [List.length_append,putH_len]; exact Nat.le_trans hE2.1 (Nat.le_add_right _ _)) (hE er (rdR_e he) _ ((hE2.put (p:=h.length) _ (.inr (Nat.le_refl _))).app _))
 ·obtain ⟨lx,rfl,hmx,hwx⟩:=id hrel
  obtain ⟨xk,xf,xv,xs,xd,xkb,xnb,xkbs,xnbs,xkp,xnp,xkq,xnq,xkey,xof,rfl⟩:=hmx.open
  have z2:((0:Int) == 0) = true:=rfl
  have z3:((0:Int) != 0) = false:=rfl
  have f0:=hE1.look e0 (by simp) fun h=>h
  have l0:=lookH_lt f0 (by simp)
  have hE2:=hE0.trans hE1
  have hd:=rdR_o he
  simp -implicitDefEqProofs (maxSteps:=1000000) (disch:=omega) only [↓zzP,zzA,zzL,zzB,Nat.reduceSub,reduceIte,reduceCtorEq,Nat.reduceLT,↓reduceIte,Nat.reduceEqDiff,Nat.reduceLeDiff,Nat.reduceAdd,↓gd,↓opP,↓qv,↓ef,↓stS,slot,putS,putO,ofV,rdF,Ent.row,ldS,sz,wrF,binH,binS2,binS,stor,z2]
  repeat (refine ⟨by omega,?_⟩)
  refine c16 m _ _ (MsgH.extR (extT (extR_fresh _ _) (extR_app _ _)) hmx) _ ?_
  by_cases c2:may m = 0
  ·rw [if_pos c2] at hd
   rw [c2]
   simp -implicitDefEqProofs (maxSteps:=1000000) (disch:=omega) only [↓zzP,zzA,zzL,zzB,Nat.reduceSub,reduceIte,reduceCtorEq,Nat.reduceLT,↓reduceIte,Nat.reduceEqDiff,Nat.reduceLeDiff,Nat.reduceAdd,↓gd,↓opP,↓qv,↓ef,↓stS,slot,putS,putO,ofV,rdF,Ent.row,ldS,sz,wrF,binH,binS2,binS,stor,z3,f0,lookH_at,putH_at,lookH_pB,lookH_put_same]
   repeat (refine ⟨by omega,?_⟩)
   refine intoR_refl (by rw [List.length_append,putH_len]; exact Nat.le_trans hE2.1 (Nat.le_add_right _ _)) (hO m hd _ _ ((hE2.put (p:=h.length) _ (.inr (Nat.le_refl _))).app _) ⟨_,rfl,?_,hwx⟩)
   exact hmx.extR (extT (extR_f7 hE0.1 (lookH_lt e0 (by simp)) _) (extT (extR_fresh _ _) (extR_app _ _)))
  ·rw [if_neg c2] at hd
   have z4:(may m != 0) = true:=bne_iff_ne.2 c2
   simp -implicitDefEqProofs (maxSteps:=1000000) (disch:=omega) only [↓zzP,zzA,zzL,zzB,Nat.reduceSub,reduceIte,reduceCtorEq,Nat.reduceLT,↓reduceIte,Nat.reduceEqDiff,Nat.reduceLeDiff,Nat.reduceAdd,↓gd,↓opP,↓qv,↓ef,↓stS,slot,putS,putO,ofV,asRow,sz,wrF,bldS,binH,binS2,binS,stor,Value.oneCell',z4,f0,lookH_at,putH_at,lookH_pB,lookH_put_same]
   repeat (refine ⟨by omega,?_⟩)
   exact intoR_refl (by rw [List.length_append,putH_len]; exact Nat.le_trans hE2.1 (Nat.le_add_right _ _)) (hE _ hd _ ((hE2.put (p:=h.length) _ (.inr (Nat.le_refl _))).app _))
end Go.Proofs.Ytgocfglmideobaa
set_option linter.all false
set_option maxRecDepth 40000
namespace Go.Proofs.Ytgocfglmideobaa
open Go Go.Sx
theorem res7:Try.f7.results.toList = [.tmp 2]:=rfl
def pl7:Nat→Plan:=fun _=>.nil
theorem c40z (h:List Chunk) (K:Tok→SV→List Chunk→Prop) (hK:∀ H,Ext (fun _=>False) h H→K .mk (.bool true) H):callP Try.prog 40 [.agg [.int .i64 0,.int .i64 0,.int .i64 0,.int .i64 0,.fam 32 1 fun _=>.int .u8 0,.v (.slice none 0 0),.v (.slice none 0 0),.v (.slice none 0 0),.v (.slice none 0 0),.int .i64 0,.fam 32 1 fun _=>.int .u8 0],.agg [.int .i64 0,.int .i64 0,.int .i64 0,.int .i64 0,.fam 32 1 fun _=>.int .u8 0,.v (.slice none 0 0),.v (.slice none 0 0),.v (.slice none 0 0),.v (.slice none 0 0),.int .i64 0,.fam 32 1 fun _=>.int .u8 0]] h K:=by
 refine callP_nil (args':=[.agg [.int .i64 0,.int .i64 0,.int .i64 0,.int .i64 0,.fam 32 1 fun _=>.int .u8 0,.osl h.length 0 0 1 0,.osl h.length 0 0 1 0,.v (.slice none 0 0),.v (.slice none 0 0),.int .i64 0,.fam 32 1 fun _=>.int .u8 0],.agg [.int .i64 0,.int .i64 0,.int .i64 0,.int .i64 0,.fam 32 1 fun _=>.int .u8 0,.osl h.length 0 0 1 0,.osl h.length 0 0 1 0,.v (.slice none 0 0),.v (.slice none 0 0),.int .i64 0,.fam 32 1 fun _=>.int .u8 0]]) 1 (fun i=>.int .u8 (nat (([]:List By).getD i 0))) (fun ρ hρ=>by simp [denL,denC,den,hρ]) (by simp [okL,ok,sz]) ?_
 obtain ⟨a,ha⟩:∃ a,a = h.length:=⟨_,rfl⟩
 obtain ⟨h1,hh1⟩:∃ h1,h1 = h++[.row true 0 1 fun i=>.int .u8 (nat (([]:List By).getD i 0))]:=⟨_,rfl⟩
 have r1:lookH h1 a = .row true 0 1 (fun i=>.int .u8 (nat (([]:List By).getD i 0))):=by rw [hh1,ha]; exact lookH_end _ _
 have E1:Ext (fun _=>False) h h1:=by rw [hh1]; exact (Ext.refl _ _).app _
 have k1:=lookH_lt r1 (by simp)
 rw [← hh1,← ha]
 clear hh1 ha
 refine callP_nil (args':=[.agg [.int .i64 0,.int .i64 0,.int .i64 0,.int .i64 0,.fam 32 1 fun _=>.int .u8 0,.osl a 0 0 1 0,.osl a 0 0 1 0,.osl h1.length 0 0 73 0,.v (.slice none 0 0),.int .i64 0,.fam 32 1 fun _=>.int .u8 0],.agg [.int .i64 0,.int .i64 0,.int .i64 0,.int .i64 0,.fam 32 1 fun _=>.int .u8 0,.osl a 0 0 1 0,.osl a 0 0 1 0,.osl h1.length 0 0 73 0,.v (.slice none 0 0),.int .i64 0,.fam 32 1 fun _=>.int .u8 0]]) 73 (fun i=>.agg ((fun _=>[]) i)) (fun ρ hρ=>by simp [denL,denC,den,hρ]) (by simp [okL,ok,sz]; omega) ?_
 obtain ⟨b,hb⟩:∃ b,b = h1.length:=⟨_,rfl⟩
 obtain ⟨h2,hh2⟩:∃ h2,h2 = h1++[.row true 0 73 fun i=>.agg ((fun _=>[]) i)]:=⟨_,rfl⟩
 have r2:lookH h2 b = .row true 0 73 (fun i=>.agg ((fun _=>[]) i)):=by rw [hh2,hb]; exact lookH_end _ _
 have E2:Ext (fun _=>False) h1 h2:=by rw [hh2]; exact (Ext.refl _ _).app _
 have r12:=E2.look r1 (by simp) fun h=>h
 have k2:=lookH_lt r2 (by simp)
 have k12:=lookH_lt r12 (by simp)
 rw [← hh2,← hb]
 clear hh2 hb
 refine callP_nil (args':=[.agg [.int .i64 0,.int .i64 0,.int .i64 0,.int .i64 0,.fam 32 1 fun _=>.int .u8 0,.osl a 0 0 1 0,.osl a 0 0 1 0,.osl b 0 0 73 0,.osl h2.length 0 0 74 0,.int .i64 0,.fam 32 1 fun _=>.int .u8 0],.agg [.int .i64 0,.int .i64 0,.int .i64 0,.int .i64 0,.fam 32 1 fun _=>.int .u8 0,.osl a 0 0 1 0,.osl a 0 0 1 0,.osl b 0 0 73 0,.osl h2.length 0 0 74 0,.int .i64 0,.fam 32 1 fun _=>.int .u8 0]]) 74 (fun i=>.agg ((fun _=>[]) i)) (fun ρ hρ=>by simp [denL,denC,den,hρ]) (by simp [okL,ok,sz]; omega) ?_
 have E3:Ext (fun _=>False) h2 (h2++[.row true 0 74 fun i=>.agg ((fun _=>[]) i)]):=(Ext.refl _ _).app _
 have r13:=E3.look r12 (by simp) fun h=>h
 have r23:=E3.look r2 (by simp) fun h=>h
 have hm:MsgH (h2++[.row true 0 74 fun i=>.agg ((fun _=>[]) i)]) (.mk 0 0 0 0 (fun _=>0) [] [] [] [] 0 (fun _=>0)) [.int .i64 0,.int .i64 0,.int .i64 0,.int .i64 0,.fam 32 1 fun _=>.int .u8 0,.osl a 0 0 1 0,.osl a 0 0 1 0,.osl b 0 0 73 0,.osl h2.length 0 0 74 0,.int .i64 0,.fam 32 1 fun _=>.int .u8 0]:=by
  rw [MsgH]
  exact ⟨_,_,b,true,fun _=>[],h2.length,true,fun _=>[],rfl,⟨a,true,rfl,r13⟩,⟨a,true,_,rfl,r13,fun i hi=>absurd hi (Nat.not_lt_zero _)⟩,r23,MsgsH.mk fun i hi=>absurd hi (Nat.not_lt_zero _),lookH_end _ _,PrepsH.mk fun i hi=>absurd hi (Nat.not_lt_zero _)⟩
 exact c40S 0 0 0 0 (fun _=>0) [] [] [] [] 0 (fun _=>0) ⟨by decide,by decide,by decide,fun x hx=>by cases hx⟩ (fun m hm=>by cases hm) (fun x hx=>by cases hx) _ _ _ hm hm K fun H hE=>hK H ((E1.trans (E2.trans E3)).trans hE)
set_option maxHeartbeats 8000000 in
theorem c7 (bs:List By) (h:List Chunk) (sv:SV) (hb:RelBs h bs sv) (K:Tok→SV→List Chunk→Prop) (hK:∀ H,K .mk (.bool true) H):callP Try.prog 7 [sv] h K:=by
 obtain ⟨k,w,rfl,hr⟩:=hb
 have hF:∀ i,i < bs.length→(fun i=>SV.int .u8 (nat (bs.getD i 0))) (0+i) = .int .u8 (nat (bs.getD i 0)):=fun i hi=>by rw [Nat.zero_add]
 refine callP_of_code tabOk Try.func7 (by kernel_rfl) rfl (Nat.le_of_ble_eq_true rfl) (codeP_of_vc (pl:=pl7) tabOk follows_mixed (by kernel_rfl) ?_)
 rw [Try.ntmps7]
 by_cases c:30000 < bs.length
 ·have z1:decide ((bs.length:Int) > 30000) = true:=decide_eq_true (by omega)
  simp -implicitDefEqProofs (maxSteps:=1000000) (disch:=omega) only [↓zzP,zzA,reduceIte,reduceCtorEq,Nat.reduceLT,↓reduceIte,↓gd,↓opP,↓qv,slot,putS,putO,ofV,lenS,binH,binS2,binS,tupS,res7,z1]
  repeat (refine ⟨by omega,?_⟩)
  refine c12 _ _ fun H hE=>?_
  simp -implicitDefEqProofs (maxSteps:=1000000) (disch:=omega) only [↓zzP,zzA,reduceIte,Nat.reduceLT,↓reduceIte,↓gd,↓opP,↓qv,slot,putS,putO]
  repeat (refine ⟨by omega,?_⟩)
  exact intoR_refl hE.1 (hK _)
 have z1:decide ((bs.length:Int) > 30000) = false:=decide_eq_false (by omega)
 simp -implicitDefEqProofs (maxSteps:=1000000) (disch:=omega) only [↓zzP,zzA,reduceIte,reduceCtorEq,Nat.reduceLT,↓reduceIte,↓gd,↓opP,↓qv,slot,putS,putO,ofV,lenS,binH,binS2,binS,tupS,res7,z1]
 repeat (refine ⟨by omega,?_⟩)
 refine c38 bs h k 0 0 w _ _ hr (by omega) hF _ (fun er he H hE=>?_) (fun m he H sv hE hrel=>?_)
 ·have hz:((er:Int) == er) = true:=beq_self_eq_true _
  simp -implicitDefEqProofs (maxSteps:=1000000) (disch:=omega) only [↓zzP,zzA,zzL,zzB,Nat.reduceSub,reduceIte,reduceCtorEq,Nat.reduceLT,↓reduceIte,Nat.reduceEqDiff,Nat.reduceLeDiff,Nat.reduceAdd,↓gd,↓opP,↓qv,↓ef,↓stS,slot,putS,putO,sz,wrF,stor,Value.oneCell']
  repeat (refine ⟨by omega,?_⟩)
  have hr1:=(hE.app [Chunk.cells true [.int .i64 0,.int .i64 0,.int .i64 0,.int .i64 0,.fam 32 1 fun _=>.int .u8 0,.v (.slice none 0 0),.v (.slice none 0 0),.v (.slice none 0 0),.v (.slice none 0 0),.int .i64 0,.fam 32 1 fun _=>.int .u8 0]]).look hr (by simp) fun h=>h
  refine c39 bs _ k 0 0 w _ _ hr1 (by omega) hF (by omega) _ (fun er2 he2 H2 hE2=>?_) (fun m2 he2=>absurd (he.symm.trans he2) (by simp))
  have e:er2 = er:=by rw [he] at he2; cases he2; rfl
  subst e
  have f0:lookH H2 H.length = Chunk.cells true [.int .i64 0,.int .i64 0,.int .i64 0,.int .i64 0,.fam 32 1 fun _=>.int .u8 0,.v (.slice none 0 0),.v (.slice none 0 0),.v (.slice none 0 0),.v (.slice none 0 0),.int .i64 0,.fam 32 1 fun _=>.int .u8 0]:=hE2.look (lookH_app0 _ _) (by simp) fun h=>h
  have l0:=lookH_lt f0 (by simp)
  simp -implicitDefEqProofs (maxSteps:=1000000) (disch:=omega) only [↓zzP,zzA,zzL,zzB,Nat.reduceSub,reduceIte,reduceCtorEq,Nat.reduceLT,↓reduceIte,Nat.reduceEqDiff,Nat.reduceLeDiff,Nat.reduceAdd,↓gd,↓opP,↓qv,↓ef,↓stS,slot,putS,putO,rdF,Ent.row,ldS,sz,wrF,stor,Value.oneCell',f0,lookH_at]
  repeat (refine ⟨by omega,?_⟩)
  refine c40z _ _ fun H3 hE3=>?_
  have f2:lookH H3 H2.length = Chunk.cells true [.int .i64 0,.int .i64 0,.int .i64 0,.int .i64 0,.fam 32 1 fun _=>.int .u8 0,.v (.slice none 0 0),.v (.slice none 0 0),.v (.slice none 0 0),.v (.slice none 0 0),.int .i64 0,.fam 32 1 fun _=>.int .u8 0]:=hE3.look (lookH_app0 _ _) (by simp) fun h=>h
  have f1:lookH H3 H.length = Chunk.cells true [.int .i64 0,.int .i64 0,.int .i64 0,.int .i64 0,.fam 32 1 fun _=>.int .u8 0,.v (.slice none 0 0),.v (.slice none 0 0),.v (.slice none 0 0),.v (.slice none 0 0),.int .i64 0,.fam 32 1 fun _=>.int .u8 0]:=hE3.look (by rw [lookH_at _ l0]; exact f0) (by simp) fun h=>h
  refine ⟨?_,?_⟩
  ·simp [f1,f2]
  simp -implicitDefEqProofs (maxSteps:=1000000) (disch:=omega) only [↓zzP,zzA,zzL,reduceIte,Nat.reduceLT,↓reduceIte,Nat.reduceEqDiff,Array.reduceGetElem?,↓gd,↓opP,↓qv,slot,putS,putO,ofV,binH,binS2,binS,hz]
  repeat (refine ⟨by omega,?_⟩)
  refine c12 _ _ fun H4 hE4=>?_
  simp -implicitDefEqProofs (maxSteps:=1000000) (disch:=omega) only [↓zzP,zzA,zzL,reduceIte,Nat.reduceLT,↓reduceIte,Nat.reduceEqDiff,↓gd,↓opP,↓qv,slot,putS,putO,ofV]
  repeat (refine ⟨by omega,?_⟩)
  exact intoR_refl (by have a1:=hE.1; have a2:=hE2.1; have a3:=hE3.1; have a4:=hE4.1; simp only [List.length_append,List.length_cons,List.length_nil] at a2 a3; omega) (hK _)
 ·obtain ⟨lx,rfl,hmx,hwx⟩:=id hrel
  obtain ⟨xk,xf,xv,xs,xd,xkb,xnb,xkbs,xnbs,xkp,xnp,xkq,xnq,xkey,xof,rfl⟩:=hmx.open
  have hmay:=(decS_back he).2.1
  simp -implicitDefEqProofs (maxSteps:=1000000) (disch:=omega) only [↓zzP,zzA,zzL,zzB,Nat.reduceSub,reduceIte,reduceCtorEq,Nat.reduceLT,↓reduceIte,Nat.reduceEqDiff,Nat.reduceLeDiff,Nat.reduceAdd,↓gd,↓opP,↓qv,↓ef,↓stS,slot,putS,putO,sz,wrF,stor]
  repeat (refine ⟨by omega,?_⟩)
  have hr1:=(hE.app [.cells true [.int .i64 xk,.int .i64 xf,.int .i64 xv,.int .i64 xs,.fam 32 1 fun i=>.int .u8 (nat (xd i)),.osl xkb 0 0 1 xnb,.osl xkbs 0 0 1 xnbs,.osl xkp 0 0 73 xnp,.osl xkq 0 0 74 xnq,.int .i64 xkey,.fam 32 1 fun i=>.int .u8 (nat (xof i))]]).look hr (by simp) fun h=>h
  refine c39 bs _ k 0 0 w _ _ hr1 (by omega) hF (by omega) _ (fun er2 he2=>absurd (he.symm.trans he2) (by simp)) (fun m2 he2 H2 sv2 hE2 hrel2=>?_)
  have e:m2 = m:=by rw [he] at he2; cases he2; rfl
  subst e
  obtain ⟨lx2,rfl,hmx2,hwx2⟩:=id hrel2
  obtain ⟨yk,yf,yv,ys,yd,ykb,ynb,ykbs,ynbs,ykp,ynp,ykq,ynq,ykey,yof,rfl⟩:=hmx2.open
  have f0:lookH H2 H.length = .cells true [.int .i64 xk,.int .i64 xf,.int .i64 xv,.int .i64 xs,.fam 32 1 fun i=>.int .u8 (nat (xd i)),.osl xkb 0 0 1 xnb,.osl xkbs 0 0 1 xnbs,.osl xkp 0 0 73 xnp,.osl xkq 0 0 74 xnq,.int .i64 xkey,.fam 32 1 fun i=>.int .u8 (nat (xof i))]:=hE2.look (lookH_app0 _ _) (by simp) fun h=>h
  have l0:=lookH_lt f0 (by simp)
  simp -implicitDefEqProofs (maxSteps:=1000000) (disch:=omega) only [↓zzP,zzA,zzL,zzB,Nat.reduceSub,reduceIte,reduceCtorEq,Nat.reduceLT,↓reduceIte,Nat.reduceEqDiff,Nat.reduceLeDiff,Nat.reduceAdd,↓gd,↓opP,↓qv,↓ef,↓stS,slot,putS,putO,rdF,Ent.row,ldS,sz,wrF,stor,f0,lookH_at]
  repeat (refine ⟨by omega,?_⟩)
  refine sameAt m2 hmay _ _ _ (hmx.extR (extT (extR_app _ _) (extT (ext_rows hE2 fun _ h=>h.elim) (extR_app _ _)))) (hmx2.extR (extR_app _ _)) _ fun H3 hE3=>?_
  have g2:lookH H3 H2.length = .cells true [.int .i64 yk,.int .i64 yf,.int .i64 yv,.int .i64 ys,.fam 32 1 fun i=>.int .u8 (nat (yd i)),.osl ykb 0 0 1 ynb,.osl ykbs 0 0 1 ynbs,.osl ykp 0 0 73 ynp,.osl ykq 0 0 74 ynq,.int .i64 ykey,.fam 32 1 fun i=>.int .u8 (nat (yof i))]:=hE3.look (lookH_app0 _ _) (by simp) fun h=>h
  have g1:lookH H3 H.length = .cells true [.int .i64 xk,.int .i64 xf,.int .i64 xv,.int .i64 xs,.fam 32 1 fun i=>.int .u8 (nat (xd i)),.osl xkb 0 0 1 xnb,.osl xkbs 0 0 1 xnbs,.osl xkp 0 0 73 xnp,.osl xkq 0 0 74 xnq,.int .i64 xkey,.fam 32 1 fun i=>.int .u8 (nat (xof i))]:=hE3.look (by rw [lookH_at _ l0]; exact f0) (by simp) fun h=>h
  refine ⟨?_,?_⟩
  ·simp [g1,g2]
  simp -implicitDefEqProofs (maxSteps:=1000000) (disch:=omega) only [↓zzP,zzA,zzL,reduceIte,Nat.reduceLT,↓reduceIte,Nat.reduceEqDiff,Array.reduceGetElem?,↓gd,↓opP,↓qv,slot,putS,putO,ofV,binH,binS2,binS,beq_self_eq_true]
  repeat (refine ⟨by omega,?_⟩)
  refine c12 _ _ fun H4 hE4=>?_
  simp -implicitDefEqProofs (maxSteps:=1000000) (disch:=omega) only [↓zzP,zzA,zzL,reduceIte,Nat.reduceLT,↓reduceIte,Nat.reduceEqDiff,↓gd,↓opP,↓qv,slot,putS,putO,ofV]
  repeat (refine ⟨by omega,?_⟩)
  exact intoR_refl (by have a1:=hE.1; have a2:=hE2.1; have a3:=hE3.1; have a4:=hE4.1; simp only [List.length_append,List.length_cons,List.length_nil] at a2 a3; omega) (hK _)
end Go.Proofs.Ytgocfglmideobaa
