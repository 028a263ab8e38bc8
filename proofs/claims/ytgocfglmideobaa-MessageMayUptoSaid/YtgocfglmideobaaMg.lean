/- Texts put together: Contracts of functions that the laws reach, by the symbolic executor. No condition. -/
import Derived.Test.YtgocfglmideobaaMf
import Derived.Test.YtgocfglmideobaaMc
import Derived.Test.YtgocfglmideobaaRows
set_option linter.all false
set_option maxRecDepth 40000
namespace Go.Proofs.Ytgocfglmideobaa
open Go Go.Sx
theorem res97 : Try.f97.results.toList = [.tmp 2] := rfl
def pl97 : Nat → Plan
  | 5 => (.q 0 (.q 1 (.q 2 (.q 5 (.q 6 (.e1 3 [2] (.e1 4 [2] (.e1 7 [4, 6] (.q 8 .nil)))))))))
  | _ => .nil

set_option maxHeartbeats 8000000 in
theorem c97 (m : Msg) (hsz : blkM m ≤ 1048576) (l : List SV) (h : List Chunk) (hm : MsgH h m l) (K : Tok → SV → List Chunk → Prop) (hK : OutM (fun _ => False) h (inside m) K) : callP Try.prog 97 [.agg l] h K := by
  have hin := blk_inside m
  obtain ⟨k, f, v, s, d, b, bs, p, q, key, of⟩ := m
  obtain ⟨T, hT⟩ : ∃ T, T = inside (.mk k f v s d b bs p q key of) := ⟨_, rfl⟩
  rw [← hT] at hK hin
  replace hT : T = p ++ flat q := hT
  replace hin : blkL T + q.length + 1 = blkM (.mk k f v s d b bs p q key of) := hin
  have hTl := blkL_len T
  have hTl2 := congrArg List.length hT
  rw [List.length_append] at hTl2
  rw [MsgH] at hm
  obtain ⟨sb, sbs, kp, wp, fp, kq, wq, fq, hl, h1, h2, h3, h4, h5, h6⟩ := hm
  obtain ⟨kb, wb, rfl, hkb⟩ := h1
  obtain ⟨kbs, wbs, fb, rfl, hkbs, hfb⟩ := h2
  unfold dig32 at hl
  subst hl
  refine callP_of_code tabOk Try.func97 (by kernel_rfl) rfl (Nat.le_of_ble_eq_true rfl) (codeP_of_vc (pl := pl97) tabOk follows_mixed (by kernel_rfl) ?_)
  rw [Try.ntmps97]
  have hkl := lookH_lt h3 (by simp)
  simp -implicitDefEqProofs (maxSteps := 1000000) (disch := omega) only [↓vcB,↓gd,↓opP,↓qv,↓ef,↓bslS,↓stS,↓mkS,↓rangeS,↓nextS,↓entryS,↓delS,↓mupS,↓appS,↓s2bS,↓resS,evB,Sx.look,slot,↓lkL,putS,putO,argsL,↓reduceIte,ofV,of1,lookH,putH,List.replicate,List.append,convS,fldA,nthT,idxA,idxS,fldS,oslN,bnd,slS,unS,valI,lenS,lookS,takeC,psB,asRow,csB,rdF,Ent.row,ldS,sz,szL,wrF,bldF,plT,bldS,srcS,nilS,nilEq,mapC,binH,binS2,structS,eqL,eqF,binS,arrS,isI,tupS,stor,storL,Value.oneCell',minS,maxS,capS,Nat.reduceAdd,Nat.reduceSub,Nat.reduceMul,Nat.reduceLT,Nat.reduceLeDiff,Nat.reduceEqDiff,Nat.reduceBEq,Int.reduceToNat,Int.reduceNeg,if_true,if_false,reduceIte,stays,inL,same1,qn,ldN,convN,lenN,cond_true,cond_false,implies_true,Int.reduceEq,Int.reduceNe,Int.reduceLE,Int.reduceLT,forall_eq_or_imp,forall_eq,ne_eq,reduceCtorEq,notInt,numB,tabB,Array.reduceGetElem?,upG,up,nth,lay,rcB,rnm,rnmL,wrB,pcB,res97,pl97,Option.isNone,lhB,h3,lookH_at,liB]
  repeat (refine ⟨by omega, ?_⟩)
  refine codeP_loop (pl := pl97) tabOk follows_mixed (by kernel_rfl) (fun z st => ∃ (i : Nat) (L : List Msg) (H : List Chunk) (m : Nat) (g : Nat → List SV) (j : Nat → Value), i + z = q.length ∧ L ++ flat (q.drop i) = T ∧ Ext (fun _ => False) h H ∧ h.length ≤ m ∧ lookH H m = .row true L.length 73 (fun i => .agg (g i)) ∧ MsgsH h L g ∧ st = ⟨⟨26, [(2, .v (.slice none 0 0)), (3, .osl m 0 0 73 L.length), (10, .osl kq 0 0 74 q.length), (11, .int .i64 (q.length : Nat)), (12, .int .i64 (i : Nat))], j⟩, H, []⟩) ?_ ?_
  · refine into_sim (sim_two (chSim_row rfl fun i _ => rfl)) ?_
    exact into_keep [(2, .v (.slice none 0 0)), (3, .osl (h.length + 1) 0 0 73 p.length), (10, .osl kq 0 0 74 q.length), (11, .int .i64 (q.length : Nat)), (12, .int .i64 (0 : Nat))] (by simp [sameT, slot, lkL]) fun j => ⟨q.length, 0, p, _, h.length + 1, fp, j, by omega, hT.symm, (Ext.refl _ _).app _, by omega, lookH_app _ 1 _, h4, rfl⟩
  · rintro z st ⟨i, L, H, m, g, j, hiz, hL, hE, hm, hrow, hMs, rfl⟩
    have hhl := hE.1
    by_cases hi : i < q.length
    · have g1 : decide ((i : Int) < (q.length : Nat)) = true := decide_eq_true (by omega)
      have a1 : IntKind.i64.wrap ((i : Int) + 1) = ((i + 1 : Nat) : Int) := by rw [wrap64 (by omega) (by omega)]; omega
      have hr1 := hE.look h5 (by simp) fun h => h
      unfold flat at hL
      rw [List.drop_eq_getElem_cons hi, List.flatMap_cons] at hL
      have hl2 := congrArg List.length hL
      simp only [List.length_append, List.length_cons] at hl2
      obtain ⟨lm, xkl, wl, fl, hfi, hM, hrl, hls⟩ := h6.get hi
      obtain ⟨xk, xf, xv, xs, xd, xkb, xnb, xkbs, xnbs, xkp, xnp, xkq, xnq, xkey, xof, hlm⟩ := hM.open
      rw [hlm] at hM hfi
      simp only [List.cons_append, List.nil_append] at hfi
      obtain ⟨xnl, hxnl⟩ : ∃ x, x = q[i].2.length := ⟨_, rfl⟩
      rw [← hxnl] at hfi hrl hl2
      have hlm := lookH_lt hrow (by simp)
      have hkl2 := lookH_lt hrl (by simp)
      have hkl3 : xkl < H.length := by omega
      have hq1 : lookH (putH H m .none) xkl = .row wl xnl 73 fun i => .agg (fl i) := by rw [lookH_put_ne _ (by omega)]; exact hE.look hrl (by simp) fun h => h
      simp -implicitDefEqProofs (maxSteps := 1000000) (disch := omega) only [↓vcB,↓gd,↓opP,↓qv,↓ef,↓bslS,↓stS,↓mkS,↓rangeS,↓nextS,↓entryS,↓delS,↓mupS,↓appS,↓s2bS,↓resS,evB,Sx.look,slot,↓lkL,putS,putO,argsL,↓reduceIte,ofV,of1,lookH,putH,List.replicate,List.append,convS,fldA,nthT,idxA,idxS,fldS,oslN,bnd,slS,unS,valI,lenS,lookS,takeC,psB,asRow,csB,rdF,Ent.row,ldS,sz,szL,wrF,bldF,plT,bldS,srcS,nilS,nilEq,mapC,binH,binS2,structS,eqL,eqF,binS,arrS,isI,tupS,stor,storL,Value.oneCell',minS,maxS,capS,Nat.reduceAdd,Nat.reduceSub,Nat.reduceMul,Nat.reduceLT,Nat.reduceLeDiff,Nat.reduceEqDiff,Nat.reduceBEq,Int.reduceToNat,Int.reduceNeg,if_true,if_false,reduceIte,stays,inL,same1,qn,ldN,convN,lenN,cond_true,cond_false,implies_true,Int.reduceEq,Int.reduceNe,Int.reduceLE,Int.reduceLT,forall_eq_or_imp,forall_eq,ne_eq,reduceCtorEq,notInt,numB,tabB,Array.reduceGetElem?,upG,up,nth,lay,rcB,rnm,rnmL,wrB,pcB,res97,pl97,Option.isNone,lhB,g1,hr1,hfi,hrow,lookH_at,putH_at,putH_len,lookH_pA,lookH_pA0,putH_pA,lookH_pB,hq1,liB]
      repeat (refine ⟨by omega, ?_⟩)
      obtain ⟨L2, hL2⟩ : ∃ L2, L2 = L ++ (q[i].1 :: q[i].2) := ⟨_, rfl⟩
      have hn2 : L.length + 1 + xnl = L2.length := by rw [hL2, List.length_append, List.length_cons, hxnl]; omega
      obtain ⟨LX, hLX⟩ : ∃ LX : List SV, LX = [.int .i64 xk, .int .i64 xf, .int .i64 xv, .int .i64 xs, .fam 32 1 fun i => .int .u8 (nat (xd i)), .osl xkb 0 0 1 xnb, .osl xkbs 0 0 1 xnbs, .osl xkp 0 0 73 xnp, .osl xkq 0 0 74 xnq, .int .i64 xkey, .fam 32 1 fun i => .int .u8 (nat (xof i))] := ⟨_, rfl⟩
      refine into_sim (sim_4 (c' := .row true L2.length 73 fun i => .agg (if i < L.length + 1 then (if i < L.length then g i else LX) else fl (i - (L.length + 1)))) (chSim_row hn2 fun i hi => ?_)) ?_
      · by_cases c1 : i < L.length + 1
        · rw [if_pos c1, if_pos c1]
          by_cases c2 : i < L.length
          · rw [if_pos c2, if_pos c2]
          · rw [if_neg c2, if_neg c2, hLX, show i - L.length = 0 by omega]; rfl
        · rw [if_neg c1, if_neg c1]
      rw [a1, hn2]
      rw [← hLX] at hM
      have hM2 : MsgsH h L2 fun i => if i < L.length + 1 then (if i < L.length then g i else LX) else fl (i - (L.length + 1)) := by
        rw [hL2]
        refine MsgsH.app hMs (b := q[i].1 :: q[i].2) (g := fun i => if i = 0 then LX else fl (i - 1)) ?_ (fun i hi => by rw [if_pos (by omega), if_pos hi]) (fun i hi => ?_)
        · rw [MsgsH]
          exact ⟨by rw [if_pos rfl]; exact hM, MsgsH.mk fun i hi => by rw [if_neg (by omega)]; exact hls.get hi⟩
        · by_cases c : i = 0
          · rw [if_pos (by omega), if_neg (by omega), if_pos c]
          · rw [if_neg (by omega), if_neg c, show L.length + i - (L.length + 1) = i - 1 by omega]
      exact into_keep [(2, .v (.slice none 0 0)), (3, .osl (H.length + 3) 0 0 73 L2.length), (10, .osl kq 0 0 74 q.length), (11, .int .i64 (q.length : Nat)), (12, .int .i64 (i + 1 : Nat))] (by simp [sameT, slot, lkL]) fun j => ⟨z - 1, by omega, i + 1, L2, _, H.length + 3, _, j, by omega, by rw [hL2, List.append_assoc]; exact hL, (hE.put _ (.inr hm)).app _, by omega, lookH_pA _ _ _ _ 3, hM2, rfl⟩
    · have g1 : decide ((i : Int) < (q.length : Nat)) = false := decide_eq_false (by omega)
      have hd : q.drop i = [] := List.drop_of_length_le (by omega)
      rw [hd] at hL
      unfold flat at hL
      rw [List.flatMap_nil, List.append_nil] at hL
      subst hL
      simp -implicitDefEqProofs (maxSteps := 1000000) (disch := omega) only [↓vcB,↓gd,↓opP,↓qv,↓ef,↓bslS,↓stS,↓mkS,↓rangeS,↓nextS,↓entryS,↓delS,↓mupS,↓appS,↓s2bS,↓resS,evB,Sx.look,slot,↓lkL,putS,putO,argsL,↓reduceIte,ofV,of1,lookH,putH,List.replicate,List.append,convS,fldA,nthT,idxA,idxS,fldS,oslN,bnd,slS,unS,valI,lenS,lookS,takeC,psB,asRow,csB,rdF,Ent.row,ldS,sz,szL,wrF,bldF,plT,bldS,srcS,nilS,nilEq,mapC,binH,binS2,structS,eqL,eqF,binS,arrS,isI,tupS,stor,storL,Value.oneCell',minS,maxS,capS,Nat.reduceAdd,Nat.reduceSub,Nat.reduceMul,Nat.reduceLT,Nat.reduceLeDiff,Nat.reduceEqDiff,Nat.reduceBEq,Int.reduceToNat,Int.reduceNeg,if_true,if_false,reduceIte,stays,inL,same1,qn,ldN,convN,lenN,cond_true,cond_false,implies_true,Int.reduceEq,Int.reduceNe,Int.reduceLE,Int.reduceLT,forall_eq_or_imp,forall_eq,ne_eq,reduceCtorEq,notInt,numB,tabB,Array.reduceGetElem?,upG,up,nth,lay,rcB,rnm,rnmL,wrB,pcB,res97,pl97,Option.isNone,lhB,g1,liB]
      repeat (refine ⟨by omega, ?_⟩)
      exact intoR_refl hhl (hK _ _ _ hE hm hrow (hMs.ext hE))
end Go.Proofs.Ytgocfglmideobaa

set_option linter.all false
set_option maxRecDepth 40000
namespace Go.Proofs.Ytgocfglmideobaa
open Go Go.Sx
theorem res48 : Try.f48.results.toList = [.tmp 6] := rfl
theorem res11 : Try.f11.results.toList = [.tmp 2] := rfl
abbrev CntAt (m : Msg) : Prop := ∀ (l : List SV) (h : List Chunk), MsgH h m l → ∀ (dp n kn : Nat), dp ≤ 6 → n ≤ 150 → lookH h kn = .cells true [.int .i64 (n : Nat)] → ∀ (K : Tok → SV → List Chunk → Prop),
  (∀ n', cntM dp m n = some n' → ∀ H, Ext (fun j => j = kn) h H → lookH H kn = .cells true [.int .i64 (n' : Nat)] → n' ≤ 150 → K .mk (.bool true) H) →
  (cntM dp m n = none → ∀ H, Ext (fun j => j = kn) h H → K .mk (.bool false) H) → callP Try.prog 48 [.agg l, .int .i64 (dp : Nat), .ptr kn 0] h K
set_option maxHeartbeats 8000000 in
theorem c48S (m : Msg) (hsz : blkM m ≤ 1048576) (IH : ∀ x ∈ inside m, CntAt x) : CntAt m := by
  intro l h hm dp n kn hdp hn hk K hK1 hK2
  have hci := cntM_inside dp m n
  have hIn := c97 m hsz
  have hm0 := hm
  obtain ⟨T, hT⟩ : ∃ T, T = inside m := ⟨_, rfl⟩
  have hbT : T.length ≤ 1048576 := by
    have e1 := blk_inside m
    have e2 := blkL_len (inside m)
    rw [hT]
    omega
  rw [← hT] at hIn hci IH
  obtain ⟨k, f, v, s, d, b, bs, p, q, key, of⟩ := m
  replace hci : cntM dp (.mk k f v s d b bs p q key of) n = if dp > 5 ∨ n + 1 > 150 ∨ b.length > 9000 ∨ bs.length > 520 then none else cntL (dp + 1) T (n + 1) := hci
  rw [MsgH] at hm
  obtain ⟨sb, sbs, kp, wp, fp, kq, wq, fq, hl, h1, h2, h3, h4, h5, h6⟩ := hm
  obtain ⟨kb, wb, rfl, hkb⟩ := h1
  obtain ⟨kbs, wbs, fb, rfl, hkbs, hfb⟩ := h2
  unfold dig32 at hl
  subst hl
  obtain ⟨R, hR⟩ : ∃ R, R = cntM dp (.mk k f v s d b bs p q key of) n := ⟨_, rfl⟩
  rw [← hR] at hci hK1 hK2
  have hkl := lookH_lt hk (by simp)
  have a1 : IntKind.i64.wrap ((n : Int) + 1) = ((n + 1 : Nat) : Int) := by rw [wrap64 (by omega) (by omega)]; omega
  have hk1 : lookH (putH h kn (.cells true [.int .i64 ((n + 1 : Nat) : Int)])) kn = .cells true [.int .i64 ((n + 1 : Nat) : Int)] := lookH_put_same _ hkl
  have hEk : ∀ x, Ext (fun j => j = kn) h (putH h kn (.cells true [.int .i64 ((n + 1 : Nat) : Int)]) ++ x) := fun x => ((Ext.refl (fun j => j = kn) h).put (p := kn) _ (.inl rfl)).app x
  refine callP_of_code tabOk Try.func48 (by kernel_rfl) rfl (Nat.le_of_ble_eq_true rfl) ?_
  rw [Try.ntmps48]
  refine codeP_seq (pl := np) tabOk follows_mixed (by kernel_rfl) _ ?_ (fun s h => h)
  simp -implicitDefEqProofs (maxSteps := 1000000) (disch := omega) only [↓vcB,↓gd,↓opP,↓qv,↓ef,↓bslS,↓stS,↓mkS,↓rangeS,↓nextS,↓entryS,↓delS,↓mupS,↓appS,↓s2bS,↓resS,evB,Sx.look,slot,↓lkL,putS,putO,argsL,↓reduceIte,ofV,of1,lookH,putH,List.replicate,List.append,convS,fldA,nthT,idxA,idxS,fldS,oslN,bnd,slS,unS,valI,lenS,lookS,takeC,psB,asRow,csB,rdF,Ent.row,ldS,sz,szL,wrF,bldF,plT,bldS,srcS,nilS,nilEq,mapC,binH,binS2,structS,eqL,eqF,binS,arrS,isI,tupS,stor,storL,Value.oneCell',minS,maxS,capS,Nat.reduceAdd,Nat.reduceSub,Nat.reduceMul,Nat.reduceLT,Nat.reduceLeDiff,Nat.reduceEqDiff,Nat.reduceBEq,Int.reduceToNat,Int.reduceNeg,if_true,if_false,reduceIte,stays,inL,same1,qn,ldN,convN,lenN,cond_true,cond_false,implies_true,Int.reduceEq,Int.reduceNe,Int.reduceLE,Int.reduceLT,forall_eq_or_imp,forall_eq,ne_eq,reduceCtorEq,notInt,numB,tabB,Array.reduceGetElem?,upG,up,nth,lay,rcB,rnm,rnmL,wrB,pcB,res48,res11,Option.isNone,lhB,liB]
  repeat (refine ⟨by omega, ?_⟩)
  refine into_refl ?_
  refine codeP_seq (pl := np) tabOk follows_mixed (by kernel_rfl) (fun st => ∃ (j : Nat → Value), st = ⟨⟨48, [(1, .int .i64 (dp : Nat)), (2, .ptr kn 0), (3, .ptr h.length 0), (6, .bool false)], j⟩, putH h kn (.cells true [.int .i64 ((n + 1 : Nat) : Int)]) ++ [Chunk.cells true [.int .i64 k, .int .i64 f, .int .i64 v, .int .i64 s, .fam 32 1 fun i => .int .u8 (nat (d i)), .osl kb 0 0 1 b.length, .osl kbs 0 0 1 bs.length, .osl kp 0 0 73 p.length, .osl kq 0 0 74 q.length, .int .i64 key, .fam 32 1 fun i => .int .u8 (nat (of i))]], []⟩) ?_ ?_
  · simp -implicitDefEqProofs (maxSteps := 1000000) (disch := omega) only [↓vcB,↓gd,↓opP,↓qv,↓ef,↓bslS,↓stS,↓mkS,↓rangeS,↓nextS,↓entryS,↓delS,↓mupS,↓appS,↓s2bS,↓resS,evB,Sx.look,slot,↓lkL,putS,putO,argsL,↓reduceIte,ofV,of1,lookH,putH,List.replicate,List.append,convS,fldA,nthT,idxA,idxS,fldS,oslN,bnd,slS,unS,valI,lenS,lookS,takeC,psB,asRow,csB,rdF,Ent.row,ldS,sz,szL,wrF,bldF,plT,bldS,srcS,nilS,nilEq,mapC,binH,binS2,structS,eqL,eqF,binS,arrS,isI,tupS,stor,storL,Value.oneCell',minS,maxS,capS,Nat.reduceAdd,Nat.reduceSub,Nat.reduceMul,Nat.reduceLT,Nat.reduceLeDiff,Nat.reduceEqDiff,Nat.reduceBEq,Int.reduceToNat,Int.reduceNeg,if_true,if_false,reduceIte,stays,inL,same1,qn,ldN,convN,lenN,cond_true,cond_false,implies_true,Int.reduceEq,Int.reduceNe,Int.reduceLE,Int.reduceLT,forall_eq_or_imp,forall_eq,ne_eq,reduceCtorEq,notInt,numB,tabB,Array.reduceGetElem?,upG,up,nth,lay,rcB,rnm,rnmL,wrB,pcB,res48,res11,Option.isNone,lhB,hk,lookH_at,putH_at,a1,liB]
    repeat (refine ⟨by omega, ?_⟩)
    exact into_keep [(1, .int .i64 (dp : Nat)), (2, .ptr kn 0), (3, .ptr h.length 0), (6, .bool false)] (by simp [sameT, slot, lkL]) fun j => ⟨j, rfl⟩
  rintro _ ⟨j0, rfl⟩
  obtain ⟨NG, hNG⟩ : ∃ N : Prop, N ↔ ¬ (dp > 5 ∨ n + 1 > 150 ∨ b.length > 9000 ∨ bs.length > 520) := ⟨_, Iff.rfl⟩
  refine codeP_seq (pl := np) tabOk follows_mixed (by kernel_rfl) (fun st => ∃ (j : Nat → Value), NG ∧ st = ⟨⟨48, [(1, .int .i64 (dp : Nat)), (2, .ptr kn 0), (3, .ptr h.length 0), (6, .bool false)], j⟩, putH h kn (.cells true [.int .i64 ((n + 1 : Nat) : Int)]) ++ [Chunk.cells true [.int .i64 k, .int .i64 f, .int .i64 v, .int .i64 s, .fam 32 1 fun i => .int .u8 (nat (d i)), .osl kb 0 0 1 b.length, .osl kbs 0 0 1 bs.length, .osl kp 0 0 73 p.length, .osl kq 0 0 74 q.length, .int .i64 key, .fam 32 1 fun i => .int .u8 (nat (of i))]], []⟩) ?_ ?_
  · have bad : (dp > 5 ∨ n + 1 > 150 ∨ b.length > 9000 ∨ bs.length > 520) → IntoR h.length (.bool false) (putH h kn (.cells true [.int .i64 ((n + 1 : Nat) : Int)]) ++ [Chunk.cells true [.int .i64 k, .int .i64 f, .int .i64 v, .int .i64 s, .fam 32 1 fun i => .int .u8 (nat (d i)), .osl kb 0 0 1 b.length, .osl kbs 0 0 1 bs.length, .osl kp 0 0 73 p.length, .osl kq 0 0 74 q.length, .int .i64 key, .fam 32 1 fun i => .int .u8 (nat (of i))]]) K := fun c => by
      rw [if_pos c] at hci
      exact intoR_refl (by simp [putH_len]) (hK2 hci _ (hEk _))
    by_cases g1 : dp > 5
    · have z1 : decide ((dp : Int) > 5) = true := decide_eq_true (by omega)
      simp -implicitDefEqProofs (maxSteps := 1000000) (disch := omega) only [↓vcB,↓gd,↓opP,↓qv,↓ef,↓bslS,↓stS,↓mkS,↓rangeS,↓nextS,↓entryS,↓delS,↓mupS,↓appS,↓s2bS,↓resS,evB,Sx.look,slot,↓lkL,putS,putO,argsL,↓reduceIte,ofV,of1,lookH,putH,List.replicate,List.append,convS,fldA,nthT,idxA,idxS,fldS,oslN,bnd,slS,unS,valI,lenS,lookS,takeC,psB,asRow,csB,rdF,Ent.row,ldS,sz,szL,wrF,bldF,plT,bldS,srcS,nilS,nilEq,mapC,binH,binS2,structS,eqL,eqF,binS,arrS,isI,tupS,stor,storL,Value.oneCell',minS,maxS,capS,Nat.reduceAdd,Nat.reduceSub,Nat.reduceMul,Nat.reduceLT,Nat.reduceLeDiff,Nat.reduceEqDiff,Nat.reduceBEq,Int.reduceToNat,Int.reduceNeg,if_true,if_false,reduceIte,stays,inL,same1,qn,ldN,convN,lenN,cond_true,cond_false,implies_true,Int.reduceEq,Int.reduceNe,Int.reduceLE,Int.reduceLT,forall_eq_or_imp,forall_eq,ne_eq,reduceCtorEq,notInt,numB,tabB,Array.reduceGetElem?,upG,up,nth,lay,rcB,rnm,rnmL,wrB,pcB,res48,res11,Option.isNone,lhB,z1,liB]
      repeat (refine ⟨by omega, ?_⟩)
      exact bad (.inl g1)
    have z1 : decide ((dp : Int) > 5) = false := decide_eq_false (by omega)
    by_cases g2 : n + 1 > 150
    · have z2 : decide (((n + 1 : Nat) : Int) > 150) = true := decide_eq_true (by omega)
      simp -implicitDefEqProofs (maxSteps := 1000000) (disch := omega) only [↓vcB,↓gd,↓opP,↓qv,↓ef,↓bslS,↓stS,↓mkS,↓rangeS,↓nextS,↓entryS,↓delS,↓mupS,↓appS,↓s2bS,↓resS,evB,Sx.look,slot,↓lkL,putS,putO,argsL,↓reduceIte,ofV,of1,lookH,putH,List.replicate,List.append,convS,fldA,nthT,idxA,idxS,fldS,oslN,bnd,slS,unS,valI,lenS,lookS,takeC,psB,asRow,csB,rdF,Ent.row,ldS,sz,szL,wrF,bldF,plT,bldS,srcS,nilS,nilEq,mapC,binH,binS2,structS,eqL,eqF,binS,arrS,isI,tupS,stor,storL,Value.oneCell',minS,maxS,capS,Nat.reduceAdd,Nat.reduceSub,Nat.reduceMul,Nat.reduceLT,Nat.reduceLeDiff,Nat.reduceEqDiff,Nat.reduceBEq,Int.reduceToNat,Int.reduceNeg,if_true,if_false,reduceIte,stays,inL,same1,qn,ldN,convN,lenN,cond_true,cond_false,implies_true,Int.reduceEq,Int.reduceNe,Int.reduceLE,Int.reduceLT,forall_eq_or_imp,forall_eq,ne_eq,reduceCtorEq,notInt,numB,tabB,Array.reduceGetElem?,upG,up,nth,lay,rcB,rnm,rnmL,wrB,pcB,res48,res11,Option.isNone,lhB,z1,hk1,lookH_pB,z2,liB]
      repeat (refine ⟨by omega, ?_⟩)
      exact bad (.inr (.inl g2))
    have z2 : decide (((n + 1 : Nat) : Int) > 150) = false := decide_eq_false (by omega)
    by_cases g3 : b.length > 9000
    · have z3 : decide ((b.length : Int) > 9000) = true := decide_eq_true (by omega)
      simp -implicitDefEqProofs (maxSteps := 1000000) (disch := omega) only [↓vcB,↓gd,↓opP,↓qv,↓ef,↓bslS,↓stS,↓mkS,↓rangeS,↓nextS,↓entryS,↓delS,↓mupS,↓appS,↓s2bS,↓resS,evB,Sx.look,slot,↓lkL,putS,putO,argsL,↓reduceIte,ofV,of1,lookH,putH,List.replicate,List.append,convS,fldA,nthT,idxA,idxS,fldS,oslN,bnd,slS,unS,valI,lenS,lookS,takeC,psB,asRow,csB,rdF,Ent.row,ldS,sz,szL,wrF,bldF,plT,bldS,srcS,nilS,nilEq,mapC,binH,binS2,structS,eqL,eqF,binS,arrS,isI,tupS,stor,storL,Value.oneCell',minS,maxS,capS,Nat.reduceAdd,Nat.reduceSub,Nat.reduceMul,Nat.reduceLT,Nat.reduceLeDiff,Nat.reduceEqDiff,Nat.reduceBEq,Int.reduceToNat,Int.reduceNeg,if_true,if_false,reduceIte,stays,inL,same1,qn,ldN,convN,lenN,cond_true,cond_false,implies_true,Int.reduceEq,Int.reduceNe,Int.reduceLE,Int.reduceLT,forall_eq_or_imp,forall_eq,ne_eq,reduceCtorEq,notInt,numB,tabB,Array.reduceGetElem?,upG,up,nth,lay,rcB,rnm,rnmL,wrB,pcB,res48,res11,Option.isNone,lhB,z1,hk1,lookH_pB,lookH_pA0,z2,z3,liB]
      repeat (refine ⟨by omega, ?_⟩)
      exact bad (.inr (.inr (.inl g3)))
    have z3 : decide ((b.length : Int) > 9000) = false := decide_eq_false (by omega)
    by_cases g4 : bs.length > 520
    · have z4 : decide ((bs.length : Int) > 520) = true := decide_eq_true (by omega)
      simp -implicitDefEqProofs (maxSteps := 1000000) (disch := omega) only [↓vcB,↓gd,↓opP,↓qv,↓ef,↓bslS,↓stS,↓mkS,↓rangeS,↓nextS,↓entryS,↓delS,↓mupS,↓appS,↓s2bS,↓resS,evB,Sx.look,slot,↓lkL,putS,putO,argsL,↓reduceIte,ofV,of1,lookH,putH,List.replicate,List.append,convS,fldA,nthT,idxA,idxS,fldS,oslN,bnd,slS,unS,valI,lenS,lookS,takeC,psB,asRow,csB,rdF,Ent.row,ldS,sz,szL,wrF,bldF,plT,bldS,srcS,nilS,nilEq,mapC,binH,binS2,structS,eqL,eqF,binS,arrS,isI,tupS,stor,storL,Value.oneCell',minS,maxS,capS,Nat.reduceAdd,Nat.reduceSub,Nat.reduceMul,Nat.reduceLT,Nat.reduceLeDiff,Nat.reduceEqDiff,Nat.reduceBEq,Int.reduceToNat,Int.reduceNeg,if_true,if_false,reduceIte,stays,inL,same1,qn,ldN,convN,lenN,cond_true,cond_false,implies_true,Int.reduceEq,Int.reduceNe,Int.reduceLE,Int.reduceLT,forall_eq_or_imp,forall_eq,ne_eq,reduceCtorEq,notInt,numB,tabB,Array.reduceGetElem?,upG,up,nth,lay,rcB,rnm,rnmL,wrB,pcB,res48,res11,Option.isNone,lhB,z1,hk1,lookH_pB,lookH_pA0,z2,z3,z4,liB]
      repeat (refine ⟨by omega, ?_⟩)
      exact bad (.inr (.inr (.inr g4)))
    have z4 : decide ((bs.length : Int) > 520) = false := decide_eq_false (by omega)
    simp -implicitDefEqProofs (maxSteps := 1000000) (disch := omega) only [↓vcB,↓gd,↓opP,↓qv,↓ef,↓bslS,↓stS,↓mkS,↓rangeS,↓nextS,↓entryS,↓delS,↓mupS,↓appS,↓s2bS,↓resS,evB,Sx.look,slot,↓lkL,putS,putO,argsL,↓reduceIte,ofV,of1,lookH,putH,List.replicate,List.append,convS,fldA,nthT,idxA,idxS,fldS,oslN,bnd,slS,unS,valI,lenS,lookS,takeC,psB,asRow,csB,rdF,Ent.row,ldS,sz,szL,wrF,bldF,plT,bldS,srcS,nilS,nilEq,mapC,binH,binS2,structS,eqL,eqF,binS,arrS,isI,tupS,stor,storL,Value.oneCell',minS,maxS,capS,Nat.reduceAdd,Nat.reduceSub,Nat.reduceMul,Nat.reduceLT,Nat.reduceLeDiff,Nat.reduceEqDiff,Nat.reduceBEq,Int.reduceToNat,Int.reduceNeg,if_true,if_false,reduceIte,stays,inL,same1,qn,ldN,convN,lenN,cond_true,cond_false,implies_true,Int.reduceEq,Int.reduceNe,Int.reduceLE,Int.reduceLT,forall_eq_or_imp,forall_eq,ne_eq,reduceCtorEq,notInt,numB,tabB,Array.reduceGetElem?,upG,up,nth,lay,rcB,rnm,rnmL,wrB,pcB,res48,res11,Option.isNone,lhB,z1,hk1,lookH_pB,lookH_pA0,z2,z3,z4,liB]
    repeat (refine ⟨by omega, ?_⟩)
    exact into_keep [(1, .int .i64 (dp : Nat)), (2, .ptr kn 0), (3, .ptr h.length 0), (6, .bool false)] (by simp [sameT, slot, lkL]) fun j => ⟨j, hNG.2 (by omega), rfl⟩
  rintro _ ⟨j1, hng, rfl⟩
  have ng := hNG.1 hng
  rw [if_neg ng] at hci
  refine codeP_of_vc (pl := np) tabOk follows_mixed (by kernel_rfl) ?_
  have hxR : ExtR h (putH h kn (.cells true [.int .i64 ((n + 1 : Nat) : Int)]) ++ [Chunk.cells true [.int .i64 k, .int .i64 f, .int .i64 v, .int .i64 s, .fam 32 1 fun i => .int .u8 (nat (d i)), .osl kb 0 0 1 b.length, .osl kbs 0 0 1 bs.length, .osl kp 0 0 73 p.length, .osl kq 0 0 74 q.length, .int .i64 key, .fam 32 1 fun i => .int .u8 (nat (of i))]]) := ext_rows (hEk _) fun k' e w n' s' f' hh => by rw [e, hk] at hh; cases hh
  simp -implicitDefEqProofs (maxSteps := 1000000) (disch := omega) only [↓vcB,↓gd,↓opP,↓qv,↓ef,↓bslS,↓stS,↓mkS,↓rangeS,↓nextS,↓entryS,↓delS,↓mupS,↓appS,↓s2bS,↓resS,evB,Sx.look,slot,↓lkL,putS,putO,argsL,↓reduceIte,ofV,of1,lookH,putH,List.replicate,List.append,convS,fldA,nthT,idxA,idxS,fldS,oslN,bnd,slS,unS,valI,lenS,lookS,takeC,psB,asRow,csB,rdF,Ent.row,ldS,sz,szL,wrF,bldF,plT,bldS,srcS,nilS,nilEq,mapC,binH,binS2,structS,eqL,eqF,binS,arrS,isI,tupS,stor,storL,Value.oneCell',minS,maxS,capS,Nat.reduceAdd,Nat.reduceSub,Nat.reduceMul,Nat.reduceLT,Nat.reduceLeDiff,Nat.reduceEqDiff,Nat.reduceBEq,Int.reduceToNat,Int.reduceNeg,if_true,if_false,reduceIte,stays,inL,same1,qn,ldN,convN,lenN,cond_true,cond_false,implies_true,Int.reduceEq,Int.reduceNe,Int.reduceLE,Int.reduceLT,forall_eq_or_imp,forall_eq,ne_eq,reduceCtorEq,notInt,numB,tabB,Array.reduceGetElem?,upG,up,nth,lay,rcB,rnm,rnmL,wrB,pcB,res48,res11,Option.isNone,lhB,lookH_pA0,liB]
  repeat (refine ⟨by omega, ?_⟩)
  refine hIn _ _ (hm0.extR hxR) _ ?_
  intro H0 m g hE0 hm1 hrow0 hMs0
  have hk2 : lookH H0 kn = .cells true [.int .i64 ((n + 1 : Nat) : Int)] := hE0.look (by rw [lookH_pB _ _ hkl]; exact hk1) (by simp) fun h => h
  have hEa := (hEk [Chunk.cells true [.int .i64 k, .int .i64 f, .int .i64 v, .int .i64 s, .fam 32 1 fun i => .int .u8 (nat (d i)), .osl kb 0 0 1 b.length, .osl kbs 0 0 1 bs.length, .osl kp 0 0 73 p.length, .osl kq 0 0 74 q.length, .int .i64 key, .fam 32 1 fun i => .int .u8 (nat (of i))]]).trans (hE0.mono fun _ h => h.elim)
  rw [List.length_append, putH_len] at hm1
  obtain ⟨H00, hH00⟩ : ∃ H00, H00 = H0 := ⟨_, rfl⟩
  have hrow : lookH H00 m = .row true T.length 73 (fun i => .agg (g i)) := by rw [hH00]; exact hrow0
  have hMs : MsgsH H00 T g := by rw [hH00]; exact hMs0
  have hk3 : lookH H00 kn = .cells true [.int .i64 ((n + 1 : Nat) : Int)] := by rw [hH00]; exact hk2
  have hl0 : h.length ≤ H00.length := by rw [hH00]; exact hEa.1
  clear hrow0 hMs0
  simp -implicitDefEqProofs (maxSteps := 1000000) (disch := omega) only [↓vcB,↓gd,↓opP,↓qv,↓ef,↓bslS,↓stS,↓mkS,↓rangeS,↓nextS,↓entryS,↓delS,↓mupS,↓appS,↓s2bS,↓resS,evB,Sx.look,slot,↓lkL,putS,putO,argsL,↓reduceIte,ofV,of1,lookH,putH,List.replicate,List.append,convS,fldA,nthT,idxA,idxS,fldS,oslN,bnd,slS,unS,valI,lenS,lookS,takeC,psB,asRow,csB,rdF,Ent.row,ldS,sz,szL,wrF,bldF,plT,bldS,srcS,nilS,nilEq,mapC,binH,binS2,structS,eqL,eqF,binS,arrS,isI,tupS,stor,storL,Value.oneCell',minS,maxS,capS,Nat.reduceAdd,Nat.reduceSub,Nat.reduceMul,Nat.reduceLT,Nat.reduceLeDiff,Nat.reduceEqDiff,Nat.reduceBEq,Int.reduceToNat,Int.reduceNeg,if_true,if_false,reduceIte,stays,inL,same1,qn,ldN,convN,lenN,cond_true,cond_false,implies_true,Int.reduceEq,Int.reduceNe,Int.reduceLE,Int.reduceLT,forall_eq_or_imp,forall_eq,ne_eq,reduceCtorEq,notInt,numB,tabB,Array.reduceGetElem?,upG,up,nth,lay,rcB,rnm,rnmL,wrB,pcB,res48,res11,Option.isNone,lhB,liB]
  repeat (refine ⟨by omega, ?_⟩)
  refine codeP_loop (pl := np) tabOk follows_mixed (by kernel_rfl) (fun z st => ∃ (i : Nat) (H : List Chunk) (ni : Nat) (j : Nat → Value), i + z = T.length ∧ R = cntL (dp + 1) (T.drop i) ni ∧ ni ≤ 150 ∧ Ext (fun j => j = kn) h H ∧ Ext (fun j => j = kn) H00 H ∧ lookH H kn = .cells true [.int .i64 (ni : Nat)] ∧ st = ⟨⟨48, [(1, .int .i64 (dp : Nat)), (2, .ptr kn 0), (6, .bool false), (35, .osl m 0 0 73 T.length), (36, .int .i64 (T.length : Nat)), (37, .int .i64 (i : Nat))], j⟩, H, []⟩) ?_ ?_
  · exact into_keep [(1, .int .i64 (dp : Nat)), (2, .ptr kn 0), (6, .bool false), (35, .osl m 0 0 73 T.length), (36, .int .i64 (T.length : Nat)), (37, .int .i64 (0 : Nat))] (by simp [sameT, slot, lkL]) fun j => ⟨T.length, 0, H0, n + 1, j, by omega, hci, by omega, hEa, by rw [hH00]; exact Ext.refl _ _, hk2, rfl⟩
  · rintro z st ⟨i, H, ni, j, hiz, hRi, hni, hE, hEH, hkH, rfl⟩
    by_cases hi : i < T.length
    · have g1 : decide ((i : Int) < (T.length : Nat)) = true := decide_eq_true (by omega)
      have a2 : IntKind.i64.wrap ((i : Int) + 1) = ((i + 1 : Nat) : Int) := by rw [wrap64 (by omega) (by omega)]; omega
      have a3 : IntKind.i64.wrap ((dp : Int) + 1) = ((dp + 1 : Nat) : Int) := by rw [wrap64 (by omega) (by omega)]; omega
      have hr1 := hEH.look hrow (by simp) fun e => by rw [e, hk3] at hrow; cases hrow
      have hEr : ExtR H00 H := ext_rows hEH fun k' e w n' s' f' hh => by rw [e, hk3] at hh; cases hh
      rw [List.drop_eq_getElem_cons hi, cntL] at hRi
      have hM := (hMs.get hi).extR hEr
      have hIH := IH T[i] (List.getElem_mem hi)
      obtain ⟨xk, xf, xv, xs, xd, xkb, xnb, xkbs, xnbs, xkp, xnp, xkq, xnq, xkey, xof, hfi⟩ := hM.open
      rw [hfi] at hM
      have hlk := lookH_lt hkH (by simp)
      simp -implicitDefEqProofs (maxSteps := 1000000) (disch := omega) only [↓vcB,↓gd,↓opP,↓qv,↓ef,↓bslS,↓stS,↓mkS,↓rangeS,↓nextS,↓entryS,↓delS,↓mupS,↓appS,↓s2bS,↓resS,evB,Sx.look,slot,↓lkL,putS,putO,argsL,↓reduceIte,ofV,of1,lookH,putH,List.replicate,List.append,convS,fldA,nthT,idxA,idxS,fldS,oslN,bnd,slS,unS,valI,lenS,lookS,takeC,psB,asRow,csB,rdF,Ent.row,ldS,sz,szL,wrF,bldF,plT,bldS,srcS,nilS,nilEq,mapC,binH,binS2,structS,eqL,eqF,binS,arrS,isI,tupS,stor,storL,Value.oneCell',minS,maxS,capS,Nat.reduceAdd,Nat.reduceSub,Nat.reduceMul,Nat.reduceLT,Nat.reduceLeDiff,Nat.reduceEqDiff,Nat.reduceBEq,Int.reduceToNat,Int.reduceNeg,if_true,if_false,reduceIte,stays,inL,same1,qn,ldN,convN,lenN,cond_true,cond_false,implies_true,Int.reduceEq,Int.reduceNe,Int.reduceLE,Int.reduceLT,forall_eq_or_imp,forall_eq,ne_eq,reduceCtorEq,notInt,numB,tabB,Array.reduceGetElem?,upG,up,nth,lay,rcB,rnm,rnmL,wrB,pcB,res48,res11,Option.isNone,lhB,g1,hr1,hfi,a3,liB]
      repeat (refine ⟨by omega, ?_⟩)
      refine hIH _ _ (hM.ext ((Ext.refl _ _).app _)) (dp + 1) ni kn (by omega) hni (by rw [lookH_at _ hlk]; exact hkH) _ ?_ ?_
      · intro n' hn' H2 hE2 hk4 hn5
        rw [hn'] at hRi
        have hE3 := (hE.app [Chunk.cells true [.int .i64 xk, .int .i64 xf, .int .i64 xv, .int .i64 xs, .fam 32 1 fun i => .int .u8 (nat (xd i)), .osl xkb 0 0 1 xnb, .osl xkbs 0 0 1 xnbs, .osl xkp 0 0 73 xnp, .osl xkq 0 0 74 xnq, .int .i64 xkey, .fam 32 1 fun i => .int .u8 (nat (xof i))]]).trans (hE2.mono fun _ h => h)
        have hEH3 := (hEH.app [Chunk.cells true [.int .i64 xk, .int .i64 xf, .int .i64 xv, .int .i64 xs, .fam 32 1 fun i => .int .u8 (nat (xd i)), .osl xkb 0 0 1 xnb, .osl xkbs 0 0 1 xnbs, .osl xkp 0 0 73 xnp, .osl xkq 0 0 74 xnq, .int .i64 xkey, .fam 32 1 fun i => .int .u8 (nat (xof i))]]).trans (hE2.mono fun _ h => h)
        simp -implicitDefEqProofs (maxSteps := 1000000) (disch := omega) only [↓vcB,↓gd,↓opP,↓qv,↓ef,↓bslS,↓stS,↓mkS,↓rangeS,↓nextS,↓entryS,↓delS,↓mupS,↓appS,↓s2bS,↓resS,evB,Sx.look,slot,↓lkL,putS,putO,argsL,↓reduceIte,ofV,of1,lookH,putH,List.replicate,List.append,convS,fldA,nthT,idxA,idxS,fldS,oslN,bnd,slS,unS,valI,lenS,lookS,takeC,psB,asRow,csB,rdF,Ent.row,ldS,sz,szL,wrF,bldF,plT,bldS,srcS,nilS,nilEq,mapC,binH,binS2,structS,eqL,eqF,binS,arrS,isI,tupS,stor,storL,Value.oneCell',minS,maxS,capS,Nat.reduceAdd,Nat.reduceSub,Nat.reduceMul,Nat.reduceLT,Nat.reduceLeDiff,Nat.reduceEqDiff,Nat.reduceBEq,Int.reduceToNat,Int.reduceNeg,if_true,if_false,reduceIte,stays,inL,same1,qn,ldN,convN,lenN,cond_true,cond_false,implies_true,Int.reduceEq,Int.reduceNe,Int.reduceLE,Int.reduceLT,forall_eq_or_imp,forall_eq,ne_eq,reduceCtorEq,notInt,numB,tabB,Array.reduceGetElem?,upG,up,nth,lay,rcB,rnm,rnmL,wrB,pcB,res48,res11,Option.isNone,lhB,a2,liB]
        repeat (refine ⟨by omega, ?_⟩)
        exact into_keep [(1, .int .i64 (dp : Nat)), (2, .ptr kn 0), (6, .bool false), (35, .osl m 0 0 73 T.length), (36, .int .i64 (T.length : Nat)), (37, .int .i64 (i + 1 : Nat))] (by simp [sameT, slot, lkL]) fun j => ⟨z - 1, by omega, i + 1, H2, n', j, by omega, hRi, hn5, hE3, hEH3, hk4, rfl⟩
      · intro hn' H2 hE2
        rw [hn'] at hRi
        have hE3 := (hE.app [Chunk.cells true [.int .i64 xk, .int .i64 xf, .int .i64 xv, .int .i64 xs, .fam 32 1 fun i => .int .u8 (nat (xd i)), .osl xkb 0 0 1 xnb, .osl xkbs 0 0 1 xnbs, .osl xkp 0 0 73 xnp, .osl xkq 0 0 74 xnq, .int .i64 xkey, .fam 32 1 fun i => .int .u8 (nat (xof i))]]).trans (hE2.mono fun _ h => h)
        simp -implicitDefEqProofs (maxSteps := 1000000) (disch := omega) only [↓vcB,↓gd,↓opP,↓qv,↓ef,↓bslS,↓stS,↓mkS,↓rangeS,↓nextS,↓entryS,↓delS,↓mupS,↓appS,↓s2bS,↓resS,evB,Sx.look,slot,↓lkL,putS,putO,argsL,↓reduceIte,ofV,of1,lookH,putH,List.replicate,List.append,convS,fldA,nthT,idxA,idxS,fldS,oslN,bnd,slS,unS,valI,lenS,lookS,takeC,psB,asRow,csB,rdF,Ent.row,ldS,sz,szL,wrF,bldF,plT,bldS,srcS,nilS,nilEq,mapC,binH,binS2,structS,eqL,eqF,binS,arrS,isI,tupS,stor,storL,Value.oneCell',minS,maxS,capS,Nat.reduceAdd,Nat.reduceSub,Nat.reduceMul,Nat.reduceLT,Nat.reduceLeDiff,Nat.reduceEqDiff,Nat.reduceBEq,Int.reduceToNat,Int.reduceNeg,if_true,if_false,reduceIte,stays,inL,same1,qn,ldN,convN,lenN,cond_true,cond_false,implies_true,Int.reduceEq,Int.reduceNe,Int.reduceLE,Int.reduceLT,forall_eq_or_imp,forall_eq,ne_eq,reduceCtorEq,notInt,numB,tabB,Array.reduceGetElem?,upG,up,nth,lay,rcB,rnm,rnmL,wrB,pcB,res48,res11,Option.isNone,lhB,liB]
        repeat (refine ⟨by omega, ?_⟩)
        exact intoR_refl hE3.1 (hK2 hRi _ hE3)
    · have g1 : decide ((i : Int) < (T.length : Nat)) = false := decide_eq_false (by omega)
      have hd : T.drop i = [] := List.drop_of_length_le (by omega)
      rw [hd, cntL] at hRi
      simp -implicitDefEqProofs (maxSteps := 1000000) (disch := omega) only [↓vcB,↓gd,↓opP,↓qv,↓ef,↓bslS,↓stS,↓mkS,↓rangeS,↓nextS,↓entryS,↓delS,↓mupS,↓appS,↓s2bS,↓resS,evB,Sx.look,slot,↓lkL,putS,putO,argsL,↓reduceIte,ofV,of1,lookH,putH,List.replicate,List.append,convS,fldA,nthT,idxA,idxS,fldS,oslN,bnd,slS,unS,valI,lenS,lookS,takeC,psB,asRow,csB,rdF,Ent.row,ldS,sz,szL,wrF,bldF,plT,bldS,srcS,nilS,nilEq,mapC,binH,binS2,structS,eqL,eqF,binS,arrS,isI,tupS,stor,storL,Value.oneCell',minS,maxS,capS,Nat.reduceAdd,Nat.reduceSub,Nat.reduceMul,Nat.reduceLT,Nat.reduceLeDiff,Nat.reduceEqDiff,Nat.reduceBEq,Int.reduceToNat,Int.reduceNeg,if_true,if_false,reduceIte,stays,inL,same1,qn,ldN,convN,lenN,cond_true,cond_false,implies_true,Int.reduceEq,Int.reduceNe,Int.reduceLE,Int.reduceLT,forall_eq_or_imp,forall_eq,ne_eq,reduceCtorEq,notInt,numB,tabB,Array.reduceGetElem?,upG,up,nth,lay,rcB,rnm,rnmL,wrB,pcB,res48,res11,Option.isNone,lhB,g1,liB]
      repeat (refine ⟨by omega, ?_⟩)
      exact intoR_refl hE.1 (hK1 _ hRi _ hE hkH hni)
theorem c48 : ∀ (N : Nat) (m : Msg), blkM m ≤ N → blkM m ≤ 1048576 → CntAt m
  | 0, m, h, _ => by have := blkM_pos m; omega
  | N + 1, m, h, hs => c48S m hs fun x hx => by
    have h1 := blkL_mem x hx
    have h2 := blk_inside m
    exact c48 N x (by omega) (by omega)
set_option maxHeartbeats 4000000 in
theorem c11 (m : Msg) (hsz : blkM m ≤ 1048576) (l : List SV) (h : List Chunk) (hm : MsgH h m l) (K : Tok → SV → List Chunk → Prop) (hK : K .mk (.bool (cntM 1 m 0).isSome) h) : callP Try.prog 11 [.agg l] h K := by
  refine callP_good fun hgood => ?_
  obtain ⟨xk, xf, xv, xs, xd, xkb, xnb, xkbs, xnbs, xkp, xnp, xkq, xnq, xkey, xof, rfl⟩ := hm.open
  refine callP_of_code tabOk Try.func11 (by kernel_rfl) rfl (Nat.le_of_ble_eq_true rfl) (codeP_of_vc (pl := np) tabOk follows_mixed (by kernel_rfl) ?_)
  rw [Try.ntmps11]
  simp -implicitDefEqProofs (maxSteps := 1000000) (disch := omega) only [↓vcB,↓gd,↓opP,↓qv,↓ef,↓bslS,↓stS,↓mkS,↓rangeS,↓nextS,↓entryS,↓delS,↓mupS,↓appS,↓s2bS,↓resS,evB,Sx.look,slot,↓lkL,putS,putO,argsL,↓reduceIte,ofV,of1,lookH,putH,List.replicate,List.append,convS,fldA,nthT,idxA,idxS,fldS,oslN,bnd,slS,unS,valI,lenS,lookS,takeC,psB,asRow,csB,rdF,Ent.row,ldS,sz,szL,wrF,bldF,plT,bldS,srcS,nilS,nilEq,mapC,binH,binS2,structS,eqL,eqF,binS,arrS,isI,tupS,stor,storL,Value.oneCell',minS,maxS,capS,Nat.reduceAdd,Nat.reduceSub,Nat.reduceMul,Nat.reduceLT,Nat.reduceLeDiff,Nat.reduceEqDiff,Nat.reduceBEq,Int.reduceToNat,Int.reduceNeg,if_true,if_false,reduceIte,stays,inL,same1,qn,ldN,convN,lenN,cond_true,cond_false,implies_true,Int.reduceEq,Int.reduceNe,Int.reduceLE,Int.reduceLT,forall_eq_or_imp,forall_eq,ne_eq,reduceCtorEq,notInt,numB,tabB,Array.reduceGetElem?,upG,up,nth,lay,rcB,rnm,rnmL,wrB,pcB,res48,res11,Option.isNone,lhB,liB]
  repeat (refine ⟨by omega, ?_⟩)
  have hE0 : Ext (fun _ => False) h (h ++ [Chunk.cells true [.int .i64 xk, .int .i64 xf, .int .i64 xv, .int .i64 xs, .fam 32 1 fun i => .int .u8 (nat (xd i)), .osl xkb 0 0 1 xnb, .osl xkbs 0 0 1 xnbs, .osl xkp 0 0 73 xnp, .osl xkq 0 0 74 xnq, .int .i64 xkey, .fam 32 1 fun i => .int .u8 (nat (xof i))], .cells true [.int .i64 0]]) := (Ext.refl _ _).app _
  have fin : ∀ H, Ext (fun j => j = h.length + 1) (h ++ [Chunk.cells true [.int .i64 xk, .int .i64 xf, .int .i64 xv, .int .i64 xs, .fam 32 1 fun i => .int .u8 (nat (xd i)), .osl xkb 0 0 1 xnb, .osl xkbs 0 0 1 xnbs, .osl xkp 0 0 73 xnp, .osl xkq 0 0 74 xnq, .int .i64 xkey, .fam 32 1 fun i => .int .u8 (nat (xof i))], .cells true [.int .i64 0]]) H → H = h ++ H.drop h.length := fun H hE => ext_eq ⟨Nat.le_trans hE0.1 hE.1, fun k hk hn => by
    rw [hE.2 k (Nat.lt_of_lt_of_le hk hE0.1) (by omega)]
    exact hE0.2 k hk hn⟩
  refine c48 _ m (Nat.le_refl _) hsz _ _ (hm.ext hE0) 1 0 (h.length + 1) (by omega) (by omega) (lookH_app _ 1 _) _ ?_ ?_
  · intro n' hn' H hE _ _
    rw [hn'] at hK
    simp -implicitDefEqProofs (maxSteps := 1000000) (disch := omega) only [↓vcB,↓gd,↓opP,↓qv,↓ef,↓bslS,↓stS,↓mkS,↓rangeS,↓nextS,↓entryS,↓delS,↓mupS,↓appS,↓s2bS,↓resS,evB,Sx.look,slot,↓lkL,putS,putO,argsL,↓reduceIte,ofV,of1,lookH,putH,List.replicate,List.append,convS,fldA,nthT,idxA,idxS,fldS,oslN,bnd,slS,unS,valI,lenS,lookS,takeC,psB,asRow,csB,rdF,Ent.row,ldS,sz,szL,wrF,bldF,plT,bldS,srcS,nilS,nilEq,mapC,binH,binS2,structS,eqL,eqF,binS,arrS,isI,tupS,stor,storL,Value.oneCell',minS,maxS,capS,Nat.reduceAdd,Nat.reduceSub,Nat.reduceMul,Nat.reduceLT,Nat.reduceLeDiff,Nat.reduceEqDiff,Nat.reduceBEq,Int.reduceToNat,Int.reduceNeg,if_true,if_false,reduceIte,stays,inL,same1,qn,ldN,convN,lenN,cond_true,cond_false,implies_true,Int.reduceEq,Int.reduceNe,Int.reduceLE,Int.reduceLT,forall_eq_or_imp,forall_eq,ne_eq,reduceCtorEq,notInt,numB,tabB,Array.reduceGetElem?,upG,up,nth,lay,rcB,rnm,rnmL,wrB,pcB,res48,res11,Option.isNone,lhB,liB]
    repeat (refine ⟨by omega, ?_⟩)
    rw [fin H hE]
    exact intoR_drop hgood trivial hK
  · intro hn' H hE
    rw [hn'] at hK
    simp -implicitDefEqProofs (maxSteps := 1000000) (disch := omega) only [↓vcB,↓gd,↓opP,↓qv,↓ef,↓bslS,↓stS,↓mkS,↓rangeS,↓nextS,↓entryS,↓delS,↓mupS,↓appS,↓s2bS,↓resS,evB,Sx.look,slot,↓lkL,putS,putO,argsL,↓reduceIte,ofV,of1,lookH,putH,List.replicate,List.append,convS,fldA,nthT,idxA,idxS,fldS,oslN,bnd,slS,unS,valI,lenS,lookS,takeC,psB,asRow,csB,rdF,Ent.row,ldS,sz,szL,wrF,bldF,plT,bldS,srcS,nilS,nilEq,mapC,binH,binS2,structS,eqL,eqF,binS,arrS,isI,tupS,stor,storL,Value.oneCell',minS,maxS,capS,Nat.reduceAdd,Nat.reduceSub,Nat.reduceMul,Nat.reduceLT,Nat.reduceLeDiff,Nat.reduceEqDiff,Nat.reduceBEq,Int.reduceToNat,Int.reduceNeg,if_true,if_false,reduceIte,stays,inL,same1,qn,ldN,convN,lenN,cond_true,cond_false,implies_true,Int.reduceEq,Int.reduceNe,Int.reduceLE,Int.reduceLT,forall_eq_or_imp,forall_eq,ne_eq,reduceCtorEq,notInt,numB,tabB,Array.reduceGetElem?,upG,up,nth,lay,rcB,rnm,rnmL,wrB,pcB,res48,res11,Option.isNone,lhB,liB]
    repeat (refine ⟨by omega, ?_⟩)
    rw [fin H hE]
    exact intoR_drop hgood trivial hK
end Go.Proofs.Ytgocfglmideobaa

set_option linter.all false
set_option maxRecDepth 40000
namespace Go.Proofs.Ytgocfglmideobaa
open Go Go.Sx

theorem lkL_map (ρ : Env) (j : Nat → Value) : ∀ (l l' : List (Nat × SV)), (l'.map fun p => (p.1, den ρ p.2)) = (l.map fun p => (p.1, den ρ p.2)) → ∀ i, den ρ (lkL l' j i) = den ρ (lkL l j i)
  | [], [], _, _ => rfl
  | [], _ :: _, h, _ => by simp at h
  | _ :: _, [], h, _ => by simp at h
  | (k, v) :: l, (k', v') :: l', h, i => by
    simp only [List.map_cons, List.cons.injEq, Prod.mk.injEq] at h
    obtain ⟨⟨rfl, h1⟩, h2⟩ := h
    simp only [lkL]
    split
    · exact h1
    · exact lkL_map ρ j l l' h2 i
/-- Nil slices in slots may have a name. -/
theorem into_nil {nf n : Nat} {l : List (Nat × SV)} {j : Nat → Value} {h : List Chunk} {d : List Deferred} {J : St → Prop} (l' : List (Nat × SV)) (s : Nat) (f : Nat → SV)
    (hl : ∀ ρ : Env, ρ h.length = ⟨0, 0, 0, true, none⟩ → (l'.map fun p => (p.1, den ρ p.2)) = (l.map fun p => (p.1, den ρ p.2))) (ho : okE (h.length + 1) n l') (hJ : Into nf ⟨⟨n, l', j⟩, h ++ [.row true 0 s f], d⟩ J) : Into nf ⟨⟨n, l, j⟩, h, d⟩ J := fun C ρ w hC hM hok => by
  have hM1 : Models C (upd ρ h.length ⟨0, 0, 0, true, none⟩) (h ++ [.row true 0 s f]) w := hM.alloc (Keep.refl _ _) (fun h => by cases h) ⟨fun i hi => absurd hi (by omega), fun i hi => absurd hi (by omega)⟩ (by simp [Holds, upd])
  have ha : Agree h.length ρ (upd ρ h.length ⟨0, 0, 0, true, none⟩) := fun k hk => by simp [upd, show k ≠ h.length by omega]
  obtain ⟨ρ', st', h1, h2, h3, h4⟩ := hJ C _ w hC hM1 ⟨hok.1, by simpa using ho⟩
  refine ⟨ρ', st', h1, h2, h3, ?_⟩
  rw [← h4]
  have e : tmpsD ρ ⟨n, l, j⟩ = tmpsD (upd ρ h.length ⟨0, 0, 0, true, none⟩) ⟨n, l', j⟩ := by
    rw [← tmpsD_agree ha hok]
    unfold tmpsD
    apply List.map_congr_left
    intro i _
    exact (lkL_map _ j l l' (hl _ (by simp [upd])) i).symm
  simp only [act, e]
/-- A nil slice handed in may have a name. -/
theorem callP_nil {P : Pr} {f : FuncId} {args args' : List SV} {h : List Chunk} {K : Tok → SV → List Chunk → Prop} (s : Nat) (F : Nat → SV) (ha : ∀ ρ : Env, ρ h.length = ⟨0, 0, 0, true, none⟩ → denL ρ args' = denL ρ args) (ho : okL (h.length + 1) args') (hc : callP P f args' (h ++ [.row true 0 s F]) K) : callP P f args h K := by
  intro C ρ w hk hM hok
  have hM1 : Models C (Sx.upd ρ h.length ⟨0, 0, 0, true, none⟩) (h ++ [.row true 0 s F]) w := hM.alloc (Keep.refl _ _) (fun h => by cases h) ⟨fun i hi => absurd hi (by omega), fun i hi => absurd hi (by omega)⟩ (by simp [Holds, Sx.upd])
  have hag : Agree h.length ρ (Sx.upd ρ h.length ⟨0, 0, 0, true, none⟩) := fun k hk => by simp [Sx.upd, show k ≠ h.length by omega]
  have hd : denL ρ args = denL (Sx.upd ρ h.length ⟨0, 0, 0, true, none⟩) args' := by
    rw [ha _ (by simp [Sx.upd])]
    exact (denL_agree hag args hok).symm
  have fin : ∀ (ρ' : Env) (sv : SV) (h' : List Chunk), Agree (h ++ [Chunk.row true 0 s F]).length (Sx.upd ρ h.length ⟨0, 0, 0, true, none⟩) ρ' → (h ++ [Chunk.row true 0 s F]).length ≤ h'.length → Agree h.length ρ ρ' ∧ h.length ≤ h'.length := fun ρ' sv h' h1 h2 => by
    rw [List.length_append, List.length_singleton] at h1 h2
    exact ⟨fun k hk => (h1 k (by omega)).trans (hag k hk), by omega⟩
  rw [hd]
  rcases hc C _ w hk hM1 (by simpa using ho) with ⟨w', ρ', sv, h', q1, q2, q3, q4, q5, q6⟩ | ⟨q1, q2⟩
  · obtain ⟨p1, p2⟩ := fin ρ' sv h' q4 q6
    exact .inl ⟨w', ρ', sv, h', q1, q2, q3, p1, q5, p2⟩
  · refine .inr ⟨q1, fun F n hF hro => CallsIn.mono (q2 F n hF hro) ?_⟩
    rintro e w' ⟨ρ', sv, h', rfl, r2, r3, r4, r5, r6⟩
    obtain ⟨p1, p2⟩ := fin ρ' sv h' r4 r6
    exact ⟨ρ', sv, h', rfl, r2, r3, p1, r5, p2⟩
/-- An empty slice handed in is one of the values that it can be. -/
theorem callP_emp {P : Pr} {f : FuncId} {k s : Nat} {rest : List SV} {h : List Chunk} {K : Tok → SV → List Chunk → Prop} (hc : ∀ a c, callP P f (.v (.slice a 0 c) :: rest) h K) : callP P f (.osl k 0 0 s 0 :: rest) h K := by
  intro C ρ w hk hM hok
  obtain ⟨a, c, e⟩ : ∃ a c, den ρ (.osl k 0 0 s 0) = .slice a 0 c := ⟨_, _, rfl⟩
  have := hc a c C ρ w hk hM ⟨trivial, hok.2⟩
  have e2 : denL ρ (.osl k 0 0 s 0 :: rest) = denL ρ (.v (.slice a 0 c) :: rest) := by
    simp only [denL, e]
    rfl
  rw [e2]
  exact this
theorem extR_unput {H : List Chunk} {m : Nat} : ExtR (putH H m .none) H := fun k w n s f hk => by
  by_cases e : k = m
  · subst e
    by_cases hl : k < H.length
    · rw [lookH_put_same _ hl] at hk; cases hk
    · have h1 : lookH (putH H k .none) k = .none := Classical.byContradiction fun hne => by
        have := lookH_lt (h := putH H k .none) (p := k) rfl hne
        rw [putH_len] at this
        exact hl this
      rw [h1] at hk; cases hk
  · rwa [lookH_put_ne _ e] at hk
/-- Without the first n. -/
def fresh (n : Nat) (H : List Chunk) : List Chunk := List.replicate n .none ++ H.drop n
theorem lookH_rep : ∀ (n k : Nat) (l : List Chunk), k < n → lookH (List.replicate n .none ++ l) k = .none
  | 0, k, l, h => absurd h (Nat.not_lt_zero _)
  | n + 1, 0, l, h => rfl
  | n + 1, k + 1, l, h => lookH_rep n k l (by omega)
theorem lookH_drop : ∀ (n k : Nat) (H : List Chunk), lookH (H.drop n) k = lookH H (n + k)
  | 0, k, H => by simp
  | n + 1, k, [] => by simp [lookH]
  | n + 1, k, c :: H => by
    rw [List.drop_succ_cons, lookH_drop n k H, show n + 1 + k = (n + k) + 1 by omega]
    rfl
theorem fresh_look (n k : Nat) (H : List Chunk) : lookH (fresh n H) k = if k < n then .none else lookH H k := by
  unfold fresh
  by_cases h : k < n
  · rw [if_pos h, lookH_rep n k _ h]
  · rw [if_neg h]
    have := lookH_app (H.drop n) (k - n) (List.replicate n .none)
    rw [List.length_replicate, show n + (k - n) = k by omega] at this
    rw [this, lookH_drop, show n + (k - n) = k by omega]
theorem extR_fresh (n : Nat) (H : List Chunk) : ExtR (fresh n H) H := fun k w m s f hk => by
  rw [fresh_look] at hk
  split at hk
  · cases hk
  · exact hk
theorem extR_f1 {n m : Nat} {H : List Chunk} : ExtR (fresh n (putH H m .none)) (fresh n H) := fun k w a s f hk => by
  rw [fresh_look] at hk ⊢
  split at hk
  · cases hk
  · rw [if_neg (by assumption)]
    exact extR_unput _ _ _ _ _ hk
theorem extR_f2 {n m : Nat} {H H1 : List Chunk} (hE : Ext (fun _ => False) H H1) (x : List Chunk) : ExtR (fresh n (putH H m .none)) (fresh n (putH H1 m .none ++ x)) := fun k w a s f hk => by
  rw [fresh_look] at hk ⊢
  split at hk
  · cases hk
  · rename_i c
    rw [if_neg c]
    have e : k ≠ m := fun e => by
      have h1 := extR_unput _ _ _ _ _ hk
      subst e
      rw [lookH_put_same _ (lookH_lt h1 (by simp))] at hk
      cases hk
    rw [lookH_put_ne _ e] at hk
    have h1 := hE.look hk (by simp) fun h => h
    rw [lookH_at _ (by rw [putH_len]; exact lookH_lt h1 (by simp)), lookH_put_ne _ e]
    exact h1
theorem extR_f3 {n a m : Nat} {H1 : List Chunk} (hn : n ≤ a) (hm : m < a) (x : List Chunk) : ExtR (fresh a H1) (fresh n (putH H1 m .none ++ x)) := fun k w b s f hk => by
  rw [fresh_look] at hk ⊢
  split at hk
  · cases hk
  · rename_i c
    rw [if_neg (by omega), lookH_at _ (by rw [putH_len]; exact lookH_lt hk (by simp)), lookH_put_ne _ (by omega)]
    exact hk
theorem into_bind {nf : Nat} {st : St} {J' J : St → Prop} (h : Into nf st J') (hj : ∀ st, J' st → Into nf st J) : Into nf st J := fun C ρ w hC hM hok => by
  obtain ⟨ρ1, st1, h1, h2, h3, h4⟩ := h C ρ w hC hM hok
  obtain ⟨ρ2, st2, g1, g2, g3, g4⟩ := hj _ h1 C ρ1 w hC h2 h3
  exact ⟨ρ2, st2, g1, g2, g3, h4.trans g4⟩
/-- What a function that answers messages of its own leaves. -/
abbrev OutO (H : List Chunk) (l : List Msg) (K : Tok → SV → List Chunk → Prop) : Prop :=
  ∀ H' k' f, Ext (fun _ => False) H H' → H.length ≤ k' → lookH H' k' = .row true l.length 73 (fun i => .agg (f i)) → MsgsH (fresh H.length H') l f → K .mk (.osl k' 0 0 73 l.length) H'
abbrev OutW (H : List Chunk) (m : Msg) (K : Tok → SV → List Chunk → Prop) : Prop :=
  ∀ H' l', Ext (fun _ => False) H H' → MsgH (fresh H.length H') m l' → K .mk (.agg l') H'
end Go.Proofs.Ytgocfglmideobaa

set_option linter.all false
set_option maxRecDepth 100000
namespace Go.Proofs.Ytgocfglmideobaa
open Go Go.Sx Go.RowKit Go.WideShapes Go.ChangeShapes

theorem cut_step {α : Type} (cs : List α) (o s : Nat) : (cs.drop o).take s ++ cs.drop (o + s) = cs.drop o := by
  rw [← List.drop_drop, List.take_append_drop]
theorem fam_cells (ρ : Env) (n : Nat) (D : Nat → BitVec 8) : (den ρ (.fam n 1 fun i => .int .u8 (nat (D i)))).cells.toList = (List.range n).map fun i => Value.int .u8 (nat (D i)) := by
  rw [cells_fam]
  generalize List.range n = l
  induction l with
  | nil => rfl
  | cons a l ih => rw [List.flatMap_cons, ih]; rfl
/-- Bytes in a row, read off its reading. -/
theorem row_bytes {H : Type} {enc : TypeId × Value → H} {W : World} {t n fuel : Nat} {cs : List Value} {x : DataW H × List MemPlace} (ht : Try.prog.underlying t = some (.array n 5)) (hct : Try.prog.cellsOf t = n)
    (h : DataW.trod enc Try.prog W 0 (fun _ => true) true fuel t cs = some x) : ∃ D : Nat → BitVec 8, cs = (List.range n).map fun i => Value.int .u8 (nat (D i)) := by
  have hc : Try.prog.cellsOf 5 = 1 := by kernel_rfl
  obtain ⟨xs, m, _, _, hl, hxl, hx⟩ := DataW.trod_array ht h
  rw [hct] at hl
  have hz : ∀ i, i < n → ∃ z : BitVec 8, cs[i]? = some (.int .u8 (nat z)) := fun i hi => by
    have h1 := hx i hi
    rw [List.getElem?_eq_getElem (by omega), hc, Nat.mul_one] at h1
    obtain ⟨z, h2, _, h3⟩ := DataW.trod_int Try.underlying5 h1
    refine ⟨BitVec.ofInt 8 z, ?_⟩
    rw [← wf_u8 h3]
    have h4 : ((cs.drop i).take 1)[0]? = some (.int .u8 z) := by rw [h2]; rfl
    simpa [List.getElem?_take, List.getElem?_drop] using h4
  obtain ⟨D, hD⟩ := Go.Deep.choose_lt (α := BitVec 8) hz
  refine ⟨D, List.ext_getElem? fun i => ?_⟩
  rcases Nat.lt_or_ge i n with hi | hi
  · rw [hD i hi]
    simp [hi]
  · rw [List.getElem?_eq_none (by omega), List.getElem?_eq_none (by simpa using hi)]
def bulk {H : Type} (d : DataW H) : Nat := Rows.uptoBulk d
theorem bulk_all {H : Type} : ∀ l : List (DataW H), Rows.uptoBulkAll l = (l.map bulk).sum
  | [] => by simp [Rows.uptoBulkAll]
  | d :: l => by simp [Rows.uptoBulkAll, bulk_all l, bulk]
theorem bulk_slice {H : Type} (l r : List (DataW H)) : (l.map bulk).sum + 1 ≤ bulk (.slice l r) := by
  rw [← bulk_all]
  simp only [bulk, Rows.uptoBulk]
  omega
theorem bulk_agg {H : Type} (l : List (DataW H)) : bulk (.agg l) = (l.map bulk).sum + 1 := by
  rw [← bulk_all]
  simp only [bulk, Rows.uptoBulk]
theorem rng_wf {a : Int} (h : (Lit.int .i64 a).wf = true) : rng a := by
  have hb : -9223372036854775808 ≤ a ∧ a ≤ 9223372036854775807 := by simpa [Lit.wf, IntKind.min, IntKind.max, IntKind.signed, IntKind.bits] using h
  unfold rng
  omega
theorem rwIn_extR {h h' : List Chunk} (hE : RwIn h h') : ExtR h h' := hE
def RelB (_ : List Chunk) (b : By) (sv : SV) : Prop := sv = .int .u8 (nat b)
def RelBs (h : List Chunk) (b : List By) (sv : SV) : Prop := rowB h sv b
def RelM (h : List Chunk) (m : Msg) (sv : SV) : Prop := ∃ l, sv = .agg l ∧ MsgH h m l ∧ wfM m
def RelP (h : List Chunk) (x : Msg × List Msg) (sv : SV) : Prop := ∃ l, sv = .agg l ∧ (∃ lm kl wl fl, l = lm ++ [.osl kl 0 0 73 x.2.length] ∧ MsgH h x.1 lm ∧ lookH h kl = .row wl x.2.length 73 (fun i => .agg (fl i)) ∧ MsgsH h x.2 fl) ∧ wfM x.1 ∧ wfL x.2
def unagg : SV → List SV | .agg l => l | _ => []
def fixB (X : List By) (_ : Nat → SV) (i : Nat) : SV := .int .u8 (nat (X.getD i 0))
def fixBs (_ : List (List By)) (F : Nat → SV) (i : Nat) : SV := F i
def fixA {α : Type} (_ : List α) (F : Nat → SV) (i : Nat) : SV := .agg (unagg (F i))
theorem wfL.mk : ∀ {l : List Msg}, (∀ i (hi : i < l.length), wfM l[i]) → wfL l
  | [], _ => by rw [wfL]; trivial
  | m :: l, h => by
    rw [wfL]
    exact ⟨h 0 (by simp), wfL.mk fun i hi => h (i + 1) (by simpa using hi)⟩
theorem wfQ.mk : ∀ {l : List (Msg × List Msg)}, (∀ i (hi : i < l.length), wfM l[i].1 ∧ wfL l[i].2) → wfQ l
  | [], _ => by rw [wfQ]; trivial
  | (m, p) :: l, h => by
    rw [wfQ]
    have h0 := h 0 (by simp)
    exact ⟨⟨h0.1, h0.2⟩, wfQ.mk fun i hi => h (i + 1) (by simpa using hi)⟩
theorem PrepsH.mk {h : List Chunk} : ∀ {p : List (Msg × List Msg)} {f : Nat → List SV}, (∀ i (hi : i < p.length), ∃ lm kl wl fl, f i = lm ++ [.osl kl 0 0 73 p[i].2.length] ∧ MsgH h p[i].1 lm ∧ lookH h kl = .row wl p[i].2.length 73 (fun i => .agg (fl i)) ∧ MsgsH h p[i].2 fl) → PrepsH h p f
  | [], _, _ => by rw [PrepsH]; trivial
  | (m, l) :: r, f, H => by
    rw [PrepsH]
    exact ⟨H 0 (by simp), PrepsH.mk fun i hi => H (i + 1) (by simpa using hi)⟩
theorem blkL_sum : ∀ l : List Msg, blkL l = (l.map blkM).sum
  | [] => by simp [blkL]
  | m :: l => by simp [blkL, blkL_sum l]
theorem blkQ_sum : ∀ l : List (Msg × List Msg), blkQ l = (l.map fun x => 1 + (blkM x.1 + blkL x.2)).sum
  | [] => by simp [blkQ]
  | (m, p) :: l => by simp [blkQ, blkQ_sum l]

section
variable {H : Type} {enc : TypeId × Value → H} {W : World}
theorem opn_byte {fuel : Nat} {cs : List Value} {y : DataW H × List MemPlace} (h : DataW.trod enc Try.prog W 0 (fun _ => true) true fuel 5 cs = some y) (b : Nat) : Opn W RelB (fun _ => 0) cs b := fun k0 => by
  obtain ⟨z, rfl, _, h3⟩ := DataW.trod_int Try.underlying5 h
  refine ⟨[], [], BitVec.ofInt 8 z, .int .u8 z, Lies.nil _ _, by rw [RelB, ← wf_u8 h3], trivial, trivial, rfl, fun ρ _ => rfl, Nat.zero_le _⟩
theorem opn_bytes {fuel : Nat} {cs : List Value} {x : DataW H × List MemPlace} (h : DataW.trod enc Try.prog W 0 (fun _ => true) true fuel 24 cs = some x) : Opn W RelBs (fun _ => 0) cs (bulk x.1) := fun k0 => by
  have hc : Try.prog.cellsOf 5 = 1 := by kernel_rfl
  obtain ⟨ps, hh, X, sv, h1, ⟨k, F, e1, e2, e3⟩, h3, h4, h5, h6, h7⟩ := opn_slice (N := bulk x.1) bulk bulk_slice (Rel := RelB) (fun _ _ _ _ _ h => h) (β := fun _ => 0) (s := 1) (by omega) fixB (fun _ X F hF i hi => by rw [hF i hi, fixB]; simp [hi]) Try.underlying24 hc h (Nat.le_refl _) (fun fuel cs y hy _ _ => opn_byte hy _) k0
  exact ⟨ps, hh, X, sv, h1, ⟨k, false, e1, e2⟩, h3, h4, h5, h6, Nat.zero_le _⟩
theorem RelBs.mono (h h' : List Chunk) (b : List By) (sv : SV) (hE : RwIn h h') (hb : RelBs h b sv) : RelBs h' b sv := rowB.extR hb (rwIn_extR hE)
theorem RelM.mono (h h' : List Chunk) (b : Msg) (sv : SV) (hE : RwIn h h') (hb : RelM h b sv) : RelM h' b sv := by
  obtain ⟨l, h1, h2, h3⟩ := hb
  exact ⟨l, h1, h2.extR (rwIn_extR hE), h3⟩
theorem RelP.mono (h h' : List Chunk) (b : Msg × List Msg) (sv : SV) (hE : RwIn h h') (hb : RelP h b sv) : RelP h' b sv := by
  obtain ⟨l, h1, ⟨lm, kl, wl, fl, h2, h3, h4, h5⟩, h6⟩ := hb
  exact ⟨l, h1, ⟨lm, kl, wl, fl, h2, h3.extR (rwIn_extR hE), hE _ _ _ _ _ h4, MsgsH.extR (rwIn_extR hE) h5⟩, h6⟩
theorem opn_bytess {fuel : Nat} {cs : List Value} {x : DataW H × List MemPlace} (h : DataW.trod enc Try.prog W 0 (fun _ => true) true fuel 25 cs = some x) : Opn W (RowR 1 RelBs fixBs) (fun _ => 0) cs (bulk x.1) := fun k0 => by
  have hc : Try.prog.cellsOf 24 = 1 := by kernel_rfl
  obtain ⟨ps, hh, X, sv, h1, h2, h3, h4, h5, h6, h7⟩ := opn_slice (N := bulk x.1) bulk bulk_slice (Rel := RelBs) RelBs.mono (β := fun _ => 0) (s := 1) (by omega) fixBs (fun _ X F _ i _ => rfl) Try.underlying25 hc h (Nat.le_refl _) (fun fuel cs y hy _ _ => opn_bytes hy) k0
  exact ⟨ps, hh, X, sv, h1, h2, h3, h4, h5, h6, Nat.zero_le _⟩
/-- A row of messages. -/
theorem opn_msgs {N fuel : Nat} {cs : List Value} {x : DataW H × List MemPlace} (IH : ∀ fuel cs y, DataW.trod enc Try.prog W 0 (fun _ => true) true fuel 31 cs = some y → bulk y.1 < N → Opn W RelM blkM cs (bulk y.1)) (h : DataW.trod enc Try.prog W 0 (fun _ => true) true fuel 26 cs = some x) (hN : bulk x.1 ≤ N) : Opn W (RowR 73 RelM fixA) blkL cs (bulk x.1) := fun k0 => by
  have hc : Try.prog.cellsOf 31 = 73 := by kernel_rfl
  obtain ⟨ps, hh, X, sv, h1, h2, h3, h4, h5, h6, h7⟩ := opn_slice bulk bulk_slice (Rel := RelM) RelM.mono (β := blkM) (s := 73) (by omega) fixA (fun _ X F hF i hi => by obtain ⟨l, e, _⟩ := hF i hi; rw [fixA, e]; rfl) Try.underlying26 hc h hN (fun fuel cs y hy _ hb => IH fuel cs y hy hb) k0
  exact ⟨ps, hh, X, sv, h1, h2, h3, h4, h5, h6, by rw [blkL_sum]; exact h7⟩
theorem rowR_msgs {h : List Chunk} {X : List Msg} {sv : SV} (hr : RowR 73 RelM fixA h X sv) : ∃ k f, sv = .osl k 0 0 73 X.length ∧ lookH h k = .row false X.length 73 (fun i => .agg (f i)) ∧ MsgsH h X f ∧ wfL X := by
  obtain ⟨k, F, h1, h2, h3⟩ := hr
  refine ⟨k, fun i => unagg (F i), h1, h2, MsgsH.mk fun i hi => ?_, wfL.mk fun i hi => ?_⟩
  · obtain ⟨l, e, hm, _⟩ := h3 i hi
    rw [e]
    exact hm
  · obtain ⟨l, e, _, hw⟩ := h3 i hi
    exact hw
theorem opn_prep {N fuel : Nat} {cs : List Value} {x : DataW H × List MemPlace} (IH : ∀ fuel cs y, DataW.trod enc Try.prog W 0 (fun _ => true) true fuel 31 cs = some y → bulk y.1 < N → Opn W RelM blkM cs (bulk y.1)) (h : DataW.trod enc Try.prog W 0 (fun _ => true) true fuel 45 cs = some x) (hN : bulk x.1 ≤ N) : Opn W RelP (fun x => 1 + (blkM x.1 + blkL x.2)) cs (bulk x.1) := fun k0 => by
  obtain ⟨y0, y1, n, rfl, hl, h0, h1⟩ := trod_struct2 Try.underlying45 h
  have hcm : Try.prog.cellsOf 31 = 73 := by kernel_rfl
  have hcs : Try.prog.cellsOf 26 = 1 := by kernel_rfl
  have hcp : Try.prog.cellsOf 45 = 74 := by kernel_rfl
  change DataW.trod enc Try.prog W 0 (fun _ => true) true n 31 ((cs.drop 0).take (Try.prog.cellsOf 31)) = some y0 at h0
  change DataW.trod enc Try.prog W 0 (fun _ => true) true n 26 ((cs.drop 73).take (Try.prog.cellsOf 26)) = some y1 at h1
  rw [hcp] at hl
  rw [hcm] at h0
  rw [hcs] at h1
  have hb : bulk (DataW.agg [y0.1, y1.1]) = bulk y0.1 + bulk y1.1 + 1 := by rw [bulk_agg]; simp
  rw [hb] at hN ⊢
  have ecs : cs = (cs.drop 0).take 73 ++ (cs.drop 73).take 1 := by
    have e1 := cut_step cs 0 73
    have e2 := cut_step cs 73 1
    rw [show cs.drop (73 + 1) = [] from List.drop_of_length_le (by omega), List.append_nil] at e2
    rw [e2, e1]
    rfl
  obtain ⟨ps, hh, m, sv, hL, ⟨l, rfl, hm, hw⟩, hok, hst, hsz, hD, hB⟩ := IH _ _ _ h0 (by omega) k0
  obtain ⟨qs, hh', X, sv', hL', hR', hok', hst', hsz', hD', hB'⟩ := opn_msgs IH h1 (by omega) (k0 + hh.length)
  obtain ⟨k, f, rfl, hrow, hMs, hwL⟩ := rowR_msgs (hR'.mono RelM.mono (sp_right hh hh' rfl))
  refine ⟨ps ++ qs, hh ++ hh', (m, X), .agg (l ++ [.osl k 0 0 73 X.length]), hL.app hL', ⟨_, rfl, ⟨l, k, false, f, rfl, hm.extR (rwIn_extR (sp_left _ _ _)), hrow, hMs⟩, hw, hwL⟩, ?_, ?_, ?_, fun ρ hA => ?_, ?_⟩
  · rw [List.length_append, ← Nat.add_assoc]
    simp only [ok] at hok hok' ⊢
    rw [okL_append]
    exact ⟨okL_mono (by omega) _ hok, by simpa [okL, ok] using hok'⟩
  · simp only [stor] at hst ⊢
    rw [storL_append]
    exact ⟨hst, by simp [storL, stor]⟩
  · simp only [sz] at hsz ⊢
    rw [szL_append, hsz]
    simp [szL, sz]
    omega
  · have e1 := hD ρ hA.left
    have e2 := hD' ρ (hA.right hL.len)
    have e3 : (den ρ (.agg (l ++ [.osl k 0 0 73 X.length]))).cells.toList = (den ρ (.agg l)).cells.toList ++ (den ρ (.osl k 0 0 73 X.length)).cells.toList := by
      show denC ρ (l ++ [.osl k 0 0 73 X.length]) = denC ρ l ++ _
      rw [denC_append]
      simp [denC]
    rw [e3, e1, e2, ← ecs]
  · show 1 + (blkM m + blkL X) ≤ _
    omega
theorem opn_preps {N fuel : Nat} {cs : List Value} {x : DataW H × List MemPlace} (IH : ∀ fuel cs y, DataW.trod enc Try.prog W 0 (fun _ => true) true fuel 31 cs = some y → bulk y.1 < N → Opn W RelM blkM cs (bulk y.1)) (h : DataW.trod enc Try.prog W 0 (fun _ => true) true fuel 27 cs = some x) (hN : bulk x.1 ≤ N) : Opn W (RowR 74 RelP fixA) blkQ cs (bulk x.1) := fun k0 => by
  have hc : Try.prog.cellsOf 45 = 74 := by kernel_rfl
  obtain ⟨ps, hh, X, sv, h1, h2, h3, h4, h5, h6, h7⟩ := opn_slice bulk bulk_slice (Rel := RelP) RelP.mono (β := fun x => 1 + (blkM x.1 + blkL x.2)) (s := 74) (by omega) fixA (fun _ X F hF i hi => by obtain ⟨l, e, _⟩ := hF i hi; rw [fixA, e]; rfl) Try.underlying27 hc h hN (fun fuel cs y hy _ hb => opn_prep IH hy (Nat.le_of_lt hb)) k0
  exact ⟨ps, hh, X, sv, h1, h2, h3, h4, h5, h6, by rw [blkQ_sum]; exact h7⟩
theorem rowR_preps {h : List Chunk} {X : List (Msg × List Msg)} {sv : SV} (hr : RowR 74 RelP fixA h X sv) : ∃ k f, sv = .osl k 0 0 74 X.length ∧ lookH h k = .row false X.length 74 (fun i => .agg (f i)) ∧ PrepsH h X f ∧ wfQ X := by
  obtain ⟨k, F, h1, h2, h3⟩ := hr
  refine ⟨k, fun i => unagg (F i), h1, h2, PrepsH.mk fun i hi => ?_, wfQ.mk fun i hi => ?_⟩
  · obtain ⟨l, e, hm, _⟩ := h3 i hi
    rw [e]
    exact hm
  · obtain ⟨l, e, _, hw⟩ := h3 i hi
    exact hw
theorem rowR_bytess {h : List Chunk} {X : List (List By)} {sv : SV} (hr : RowR 1 RelBs fixBs h X sv) : rowBs h sv X := by
  obtain ⟨k, F, h1, h2, h3⟩ := hr
  exact ⟨k, false, _, h1, h2, fun i hi => by
    have := h3 i hi
    rw [show X.getD i [] = X[i] from by simp [hi]]
    exact this⟩
set_option maxHeartbeats 2000000 in
theorem opn_msgS {N fuel : Nat} {cs : List Value} {x : DataW H × List MemPlace} (IH : ∀ fuel cs y, DataW.trod enc Try.prog W 0 (fun _ => true) true fuel 31 cs = some y → bulk y.1 < N → Opn W RelM blkM cs (bulk y.1)) (h : DataW.trod enc Try.prog W 0 (fun _ => true) true fuel 31 cs = some x) (hN : bulk x.1 ≤ N) : Opn W RelM blkM cs (bulk x.1) := fun k0 => by
  obtain ⟨xs, n, _, rfl, hl, hlen, hf⟩ := DataW.trod_struct Try.underlying31 h
  have hcm : Try.prog.cellsOf 31 = 73 := by kernel_rfl
  have hc1 : Try.prog.cellsOf 3 = 1 := by kernel_rfl
  have hc2 : Try.prog.cellsOf 2 = 1 := by kernel_rfl
  have hc3 : Try.prog.cellsOf 23 = 32 := by kernel_rfl
  have hc4 : Try.prog.cellsOf 24 = 1 := by kernel_rfl
  have hc5 : Try.prog.cellsOf 25 = 1 := by kernel_rfl
  have hc6 : Try.prog.cellsOf 26 = 1 := by kernel_rfl
  have hc7 : Try.prog.cellsOf 27 = 1 := by kernel_rfl
  have hc8 : Try.prog.cellsOf 29 = 33 := by kernel_rfl
  obtain ⟨y0, y1, y2, y3, y4, y5, y6, y7, y8, y9, rfl⟩ : ∃ y0 y1 y2 y3 y4 y5 y6 y7 y8 y9, xs = [y0, y1, y2, y3, y4, y5, y6, y7, y8, y9] := by
    match xs, hlen with
    | [y0, y1, y2, y3, y4, y5, y6, y7, y8, y9], _ => exact ⟨y0, y1, y2, y3, y4, y5, y6, y7, y8, y9, rfl⟩
  rw [hcm] at hl
  have h0 : DataW.trod enc Try.prog W 0 (fun _ => true) true n 3 ((cs.drop 0).take (Try.prog.cellsOf 3)) = some y0 := hf 0 _ rfl
  have h1 : DataW.trod enc Try.prog W 0 (fun _ => true) true n 3 ((cs.drop 1).take (Try.prog.cellsOf 3)) = some y1 := hf 1 _ rfl
  have h2 : DataW.trod enc Try.prog W 0 (fun _ => true) true n 2 ((cs.drop 2).take (Try.prog.cellsOf 2)) = some y2 := hf 2 _ rfl
  have h3 : DataW.trod enc Try.prog W 0 (fun _ => true) true n 2 ((cs.drop 3).take (Try.prog.cellsOf 2)) = some y3 := hf 3 _ rfl
  have h4 : DataW.trod enc Try.prog W 0 (fun _ => true) true n 23 ((cs.drop 4).take (Try.prog.cellsOf 23)) = some y4 := hf 4 _ rfl
  have h5 : DataW.trod enc Try.prog W 0 (fun _ => true) true n 24 ((cs.drop 36).take (Try.prog.cellsOf 24)) = some y5 := hf 5 _ rfl
  have h6 : DataW.trod enc Try.prog W 0 (fun _ => true) true n 25 ((cs.drop 37).take (Try.prog.cellsOf 25)) = some y6 := hf 6 _ rfl
  have h7 : DataW.trod enc Try.prog W 0 (fun _ => true) true n 26 ((cs.drop 38).take (Try.prog.cellsOf 26)) = some y7 := hf 7 _ rfl
  have h8 : DataW.trod enc Try.prog W 0 (fun _ => true) true n 27 ((cs.drop 39).take (Try.prog.cellsOf 27)) = some y8 := hf 8 _ rfl
  have h9 : DataW.trod enc Try.prog W 0 (fun _ => true) true n 29 ((cs.drop 40).take (Try.prog.cellsOf 29)) = some y9 := hf 9 _ rfl
  rw [hc1] at h0 h1
  rw [hc2] at h2 h3
  rw [hc3] at h4
  rw [hc4] at h5
  rw [hc5] at h6
  rw [hc6] at h7
  rw [hc7] at h8
  rw [hc8] at h9
  obtain ⟨k, e0, _, w0⟩ := DataW.trod_int Try.underlying3 h0
  obtain ⟨f, e1, _, w1⟩ := DataW.trod_int Try.underlying3 h1
  obtain ⟨v, e2, _, w2⟩ := DataW.trod_int Try.underlying2 h2
  obtain ⟨s, e3, _, w3⟩ := DataW.trod_int Try.underlying2 h3
  obtain ⟨d, e4⟩ := row_bytes Try.underlying23 hc3 h4
  obtain ⟨z0, z1, n', _, hl9, g0, g1⟩ := trod_struct2 Try.underlying29 h9
  change DataW.trod enc Try.prog W 0 (fun _ => true) true n' 3 ((((cs.drop 40).take 33).drop 0).take (Try.prog.cellsOf 3)) = some z0 at g0
  change DataW.trod enc Try.prog W 0 (fun _ => true) true n' 23 ((((cs.drop 40).take 33).drop 1).take (Try.prog.cellsOf 23)) = some z1 at g1
  rw [hc1] at g0
  rw [hc3] at g1
  obtain ⟨key, e9, _, w9⟩ := DataW.trod_int Try.underlying3 g0
  obtain ⟨of, e10⟩ := row_bytes Try.underlying23 hc3 g1
  have hb : bulk (DataW.agg ([y0, y1, y2, y3, y4, y5, y6, y7, y8, y9].map (·.1))) = bulk y0.1 + (bulk y1.1 + (bulk y2.1 + (bulk y3.1 + (bulk y4.1 + (bulk y5.1 + (bulk y6.1 + (bulk y7.1 + (bulk y8.1 + bulk y9.1)))))))) + 1 := by rw [bulk_agg]; simp
  simp only [hb] at hN ⊢
  obtain ⟨p1, H1, b, sb, L1, R1, ok1, st1, sz1, D1, _⟩ := opn_bytes h5 k0
  obtain ⟨p2, H2, bs, sbs, L2, R2, ok2, st2, sz2, D2, _⟩ := opn_bytess h6 (k0 + H1.length)
  obtain ⟨p3, H3, p, sp3, L3, R3, ok3, st3, sz3, D3, B3⟩ := opn_msgs IH h7 (by omega) (k0 + H1.length + H2.length)
  obtain ⟨p4, H4, q, sp4, L4, R4, ok4, st4, sz4, D4, B4⟩ := opn_preps IH h8 (by omega) (k0 + H1.length + H2.length + H3.length)
  have q1 : RwIn (sp k0 H1) (sp k0 (H1 ++ (H2 ++ (H3 ++ H4)))) := sp_left _ _ _
  have q2 : RwIn (sp (k0 + H1.length) H2) (sp k0 (H1 ++ (H2 ++ (H3 ++ H4)))) := fun _ _ _ _ _ e => sp_right _ _ rfl _ _ _ _ _ (sp_left _ _ (H3 ++ H4) _ _ _ _ _ e)
  have q3 : RwIn (sp (k0 + H1.length + H2.length) H3) (sp k0 (H1 ++ (H2 ++ (H3 ++ H4)))) := fun _ _ _ _ _ e => sp_right _ _ rfl _ _ _ _ _ (sp_right _ _ rfl _ _ _ _ _ (sp_left _ _ H4 _ _ _ _ _ e))
  have q4 : RwIn (sp (k0 + H1.length + H2.length + H3.length) H4) (sp k0 (H1 ++ (H2 ++ (H3 ++ H4)))) := fun _ _ _ _ _ e => sp_right _ _ rfl _ _ _ _ _ (sp_right _ _ rfl _ _ _ _ _ (sp_right _ _ rfl _ _ _ _ _ e))
  obtain ⟨kp, fp, rfl, hkp, hMp, hwp⟩ := rowR_msgs (R3.mono RelM.mono q3)
  obtain ⟨kq, fq, rfl, hkq, hMq, hwq⟩ := rowR_preps (R4.mono RelP.mono q4)
  have hB := RelBs.mono _ _ _ _ q1 R1
  have hBs := rowR_bytess (R2.mono RelBs.mono q2)
  have hlen4 : (H1 ++ (H2 ++ (H3 ++ H4))).length = H1.length + (H2.length + (H3.length + H4.length)) := by simp
  refine ⟨p1 ++ (p2 ++ (p3 ++ p4)), H1 ++ (H2 ++ (H3 ++ H4)), .mk k f v s d b bs p q key of, .agg [.int .i64 k, .int .i64 f, .int .i64 v, .int .i64 s, dig32 d, sb, sbs, .osl kp 0 0 73 p.length, .osl kq 0 0 74 q.length, .int .i64 key, dig32 of],
    L1.app (L2.app (L3.app L4)), ⟨_, rfl, by rw [MsgH]; exact ⟨sb, sbs, kp, false, fp, kq, false, fq, rfl, hB, hBs, hkp, hMp, hkq, hMq⟩, by rw [wfM]; exact ⟨rng_wf w0, rng_wf w1, rng_wf w2, rng_wf w3, rng_wf w9, hwp, hwq⟩⟩, ?_, ?_, ?_, fun ρ hA => ?_, ?_⟩
  · rw [hlen4]
    simp only [ok] at ok3 ok4
    simp only [ok, okL, dig32, and_true, true_and]
    refine ⟨fun i _ => by simp [sz, ok], ok_mono (by omega) _ ok1, ok_mono (by omega) _ ok2, by omega, by omega, fun i _ => by simp [sz, ok]⟩
  · simp only [stor, storL, dig32, and_true, true_and]
    exact ⟨fun _ _ => trivial, st1, st2, fun _ _ => trivial⟩
  · rw [List.length_take, List.length_drop] at sz1 sz2
    simp only [sz, szL, dig32]
    omega
  · have a1 := D1 ρ hA.left
    have a2 := D2 ρ (hA.right L1.len).left
    have a3 := D3 ρ ((hA.right L1.len).right L2.len).left
    have a4 := D4 ρ (((hA.right L1.len).right L2.len).right L3.len)
    have ecs : cs = (cs.drop 0).take 1 ++ ((cs.drop 1).take 1 ++ ((cs.drop 2).take 1 ++ ((cs.drop 3).take 1 ++ ((cs.drop 4).take 32 ++ ((cs.drop 36).take 1 ++ ((cs.drop 37).take 1 ++ ((cs.drop 38).take 1 ++ ((cs.drop 39).take 1 ++ (cs.drop 40).take 33)))))))) := by
      have t9 : (cs.drop 40).take 33 = cs.drop 40 := List.take_of_length_le (by rw [List.length_drop]; omega)
      rw [t9, cut_step cs 39 1, cut_step cs 38 1, cut_step cs 37 1, cut_step cs 36 1, cut_step cs 4 32, cut_step cs 3 1, cut_step cs 2 1, cut_step cs 1 1, cut_step cs 0 1]
      rfl
    have esg : (cs.drop 40).take 33 = (((cs.drop 40).take 33).drop 0).take 1 ++ (((cs.drop 40).take 33).drop 1).take 32 := by
      have t9 : (((cs.drop 40).take 33).drop 1).take 32 = ((cs.drop 40).take 33).drop 1 := List.take_of_length_le (by rw [List.length_drop, List.length_take, List.length_drop]; omega)
      rw [t9, cut_step _ 0 1]
      rfl
    rw [ecs, esg, e0, e1, e2, e3, e4, e9, e10, ← a1, ← a2, ← a3, ← a4]
    show denC ρ _ = _
    simp only [denC, dig32, fam_cells, List.append_nil]
    rfl
  · show blkM (.mk k f v s d b bs p q key of) ≤ _
    rw [blkM]
    have hp0 : 0 < bulk y0.1 := by unfold bulk; cases y0.1 with
      | lit l => cases l <;> simp [Rows.uptoBulk]
      | _ => simp [Rows.uptoBulk]
    omega
theorem opn_msg : ∀ (N fuel : Nat) (cs : List Value) (y : DataW H × List MemPlace), DataW.trod enc Try.prog W 0 (fun _ => true) true fuel 31 cs = some y → bulk y.1 ≤ N → Opn W RelM blkM cs (bulk y.1)
  | 0, fuel, cs, y, h, hb => by
    have : 1 ≤ bulk y.1 := by
      obtain ⟨xs, n, _, rfl, _⟩ := DataW.trod_struct Try.underlying31 h
      rw [bulk_agg]
      omega
    omega
  | N + 1, fuel, cs, y, h, hb => opn_msgS (N := N + 1) (fun fuel cs y hy hlt => opn_msg N fuel cs y hy (by omega)) h hb
/-- The argument: a message. -/
theorem open_msg {base : Nat} {v : Value} {d : DataW H} {pl : List MemPlace} (hv : Value.okWide Try.prog W .any base 31 v) (h : DataW.Trod enc Try.prog W 0 (fun _ => true) true 31 v d pl) :
    ∃ (ps : List Sx.Place) (hh : List Chunk) (m : Msg) (l : List SV), Lies W 0 ps hh ∧ MsgH hh m l ∧ wfM m ∧ okL hh.length l ∧ (∀ ρ, At ρ 0 ps → v = den ρ (.agg l)) ∧ blkM m ≤ Rows.uptoBulk d := by
  obtain ⟨cs, rfl, hs⟩ := okWide_struct Try.underlying31 hv
  obtain ⟨fuel, hf⟩ := h
  obtain ⟨ps, hh, m, sv, hL, ⟨l, rfl, hm, hw⟩, hok, _, _, hD, hB⟩ := opn_msg _ _ _ _ hf (Nat.le_refl _) 0
  refine ⟨ps, hh, m, l, hL, by simpa [sp] using hm, hw, by simpa [ok] using hok, fun ρ hA => ?_, hB⟩
  have := hD ρ hA
  show Value.agg cs = Value.agg (denC ρ l).toArray
  congr 1
  apply Array.ext'
  exact this.symm
end
end Go.Proofs.Ytgocfglmideobaa

set_option linter.all false
set_option maxRecDepth 40000
namespace Go.Proofs.Ytgocfglmideobaa
open Go Go.Sx
theorem res144 : Try.f144.results.toList = [.tmp 2] := rfl
abbrev OwnAt (m : Msg) : Prop := may m = 0 → ∀ (l : List SV) (h : List Chunk), MsgH h m l → ∀ (K : Tok → SV → List Chunk → Prop), OutW h m K → callP Try.prog 98 [.agg l] h K
set_option maxHeartbeats 8000000 in
theorem c144 (p : List Msg) (hO : ∀ m ∈ p, OwnAt m ∧ may m = 0) (hpl : p.length ≤ 64) (kp : Nat) (wp : Bool) (fp : Nat → List SV) (h : List Chunk) (hr : lookH h kp = .row wp p.length 73 fun i => .agg (fp i)) (hp : MsgsH h p fp) (K : Tok → SV → List Chunk → Prop) (hK : OutO h p K) : callP Try.prog 144 [.osl kp 0 0 73 p.length] h K := by
  refine callP_of_code tabOk Try.func144 (by kernel_rfl) rfl (Nat.le_of_ble_eq_true rfl) (codeP_of_vc (pl := np) tabOk follows_mixed (by kernel_rfl) ?_)
  rw [Try.ntmps144]
  simp -implicitDefEqProofs (maxSteps := 1000000) (disch := omega) only [↓vcB,↓gd,↓opP,↓qv,↓ef,↓bslS,↓stS,↓mkS,↓rangeS,↓nextS,↓entryS,↓delS,↓mupS,↓appS,↓s2bS,↓resS,evB,Sx.look,slot,↓lkL,putS,putO,argsL,↓reduceIte,ofV,of1,lookH,putH,List.replicate,List.append,convS,fldA,nthT,idxA,idxS,fldS,oslN,bnd,slS,unS,valI,lenS,lookS,takeC,psB,asRow,csB,rdF,Ent.row,ldS,sz,szL,wrF,bldF,plT,bldS,srcS,nilS,nilEq,mapC,binH,binS2,structS,eqL,eqF,binS,arrS,isI,tupS,stor,storL,Value.oneCell',minS,maxS,capS,Nat.reduceAdd,Nat.reduceSub,Nat.reduceMul,Nat.reduceLT,Nat.reduceLeDiff,Nat.reduceEqDiff,Nat.reduceBEq,Int.reduceToNat,Int.reduceNeg,if_true,if_false,reduceIte,stays,inL,same1,qn,ldN,convN,lenN,cond_true,cond_false,implies_true,Int.reduceEq,Int.reduceNe,Int.reduceLE,Int.reduceLT,forall_eq_or_imp,forall_eq,ne_eq,reduceCtorEq,notInt,numB,tabB,Array.reduceGetElem?,upG,up,nth,lay,rcB,rnm,rnmL,wrB,pcB,res144,Option.isNone,lhB,liB]
  repeat (refine ⟨by omega, ?_⟩)
  refine codeP_loop (pl := np) tabOk follows_mixed (by kernel_rfl) (fun z st => ∃ (i : Nat) (H : List Chunk) (m : Nat) (G : Nat → List SV) (j : Nat → Value), i + z = p.length ∧ Ext (fun _ => False) h H ∧ h.length ≤ m ∧ lookH H m = .row true i 73 (fun i => .agg (G i)) ∧ (∀ i' (hi : i' < p.length), i' < i → MsgH (fresh h.length (putH H m .none)) p[i'] (G i')) ∧ st = ⟨⟨19, [(2, .v (.slice none 0 0)), (3, .osl m 0 0 73 (i)), (6, .osl kp 0 0 73 p.length), (7, .int .i64 (p.length : Nat)), (8, .int .i64 (i : Nat))], j⟩, H, []⟩) ?_ ?_
  · refine into_bind (J' := fun st => ∃ j, st = ⟨⟨19, [(2, .v (.slice none 0 0)), (3, .v (.slice none 0 0)), (6, .osl kp 0 0 73 p.length), (7, .int .i64 (p.length : Nat)), (8, .int .i64 (0 : Nat))], j⟩, h, []⟩) (into_keep [(2, .v (.slice none 0 0)), (3, .v (.slice none 0 0)), (6, .osl kp 0 0 73 p.length), (7, .int .i64 (p.length : Nat)), (8, .int .i64 (0 : Nat))] (by simp [sameT, slot, lkL]) fun j => ⟨j, rfl⟩) ?_
    rintro _ ⟨j, rfl⟩
    refine into_nil [(2, .v (.slice none 0 0)), (3, .osl h.length 0 0 73 0), (6, .osl kp 0 0 73 p.length), (7, .int .i64 (p.length : Nat)), (8, .int .i64 (0 : Nat))] 73 (fun i => .agg ((fun _ => []) i)) ?_ ?_ ?_
    · intro ρ hρ
      simp [den, hρ]
    · have := lookH_lt hr (by simp)
      simp [okE, ok]
      omega
    exact into_refl ⟨p.length, 0, _, h.length, fun _ => [], j, by omega, (Ext.refl _ _).app _, Nat.le_refl _, lookH_end _ _, fun i' _ hi => absurd hi (Nat.not_lt_zero _), rfl⟩
  · rintro z st ⟨i, H, m, G, j, hiz, hE, hm, hrow, hG, rfl⟩
    have hhl := hE.1
    by_cases hi : i < p.length
    · have g1 : decide ((i : Int) < (p.length : Nat)) = true := decide_eq_true (by omega)
      have a1 : IntKind.i64.wrap ((i : Int) + 1) = ((i + 1 : Nat) : Int) := by rw [wrap64 (by omega) (by omega)]; omega
      have hr1 := hE.look hr (by simp) fun h => h
      have hM := hp.get hi
      obtain ⟨hOw, hmay⟩ := hO p[i] (List.getElem_mem hi)
      obtain ⟨xk, xf, xv, xs, xd, xkb, xnb, xkbs, xnbs, xkp, xnp, xkq, xnq, xkey, xof, hfi⟩ := hM.open
      rw [hfi] at hM
      simp -implicitDefEqProofs (maxSteps := 1000000) (disch := omega) only [↓vcB,↓gd,↓opP,↓qv,↓ef,↓bslS,↓stS,↓mkS,↓rangeS,↓nextS,↓entryS,↓delS,↓mupS,↓appS,↓s2bS,↓resS,evB,Sx.look,slot,↓lkL,putS,putO,argsL,↓reduceIte,ofV,of1,lookH,putH,List.replicate,List.append,convS,fldA,nthT,idxA,idxS,fldS,oslN,bnd,slS,unS,valI,lenS,lookS,takeC,psB,asRow,csB,rdF,Ent.row,ldS,sz,szL,wrF,bldF,plT,bldS,srcS,nilS,nilEq,mapC,binH,binS2,structS,eqL,eqF,binS,arrS,isI,tupS,stor,storL,Value.oneCell',minS,maxS,capS,Nat.reduceAdd,Nat.reduceSub,Nat.reduceMul,Nat.reduceLT,Nat.reduceLeDiff,Nat.reduceEqDiff,Nat.reduceBEq,Int.reduceToNat,Int.reduceNeg,if_true,if_false,reduceIte,stays,inL,same1,qn,ldN,convN,lenN,cond_true,cond_false,implies_true,Int.reduceEq,Int.reduceNe,Int.reduceLE,Int.reduceLT,forall_eq_or_imp,forall_eq,ne_eq,reduceCtorEq,notInt,numB,tabB,Array.reduceGetElem?,upG,up,nth,lay,rcB,rnm,rnmL,wrB,pcB,res144,Option.isNone,lhB,g1,hr1,hfi,liB]
      repeat (refine ⟨by omega, ?_⟩)
      have hE0 : Ext (fun _ => False) h (H ++ [Chunk.cells true [.int .i64 xk, .int .i64 xf, .int .i64 xv, .int .i64 xs, .fam 32 1 fun i => .int .u8 (nat (xd i)), .osl xkb 0 0 1 xnb, .osl xkbs 0 0 1 xnbs, .osl xkp 0 0 73 xnp, .osl xkq 0 0 74 xnq, .int .i64 xkey, .fam 32 1 fun i => .int .u8 (nat (xof i))]]) := hE.app _
      have hmlt := lookH_lt hrow (by simp)
      refine hOw hmay _ _ (hM.ext hE0) _ ?_
      intro H1 l1 hE1 hM1
      obtain ⟨yk, yf, yv, ys, yd, ykb, ynb, ykbs, ynbs, ykp, ynp, ykq, ynq, ykey, yof, hl1⟩ := (hM1.extR (extR_fresh _ _)).open
      have hrow1 : lookH H1 m = .row true i 73 (fun i => .agg (G i)) := hE1.look (by rw [lookH_at _ hmlt]; exact hrow) (by simp) fun h => h
      have hlt1 := lookH_lt hrow1 (by simp)
      rw [hl1]
      simp -implicitDefEqProofs (maxSteps := 1000000) (disch := omega) only [↓vcB,↓gd,↓opP,↓qv,↓ef,↓bslS,↓stS,↓mkS,↓rangeS,↓nextS,↓entryS,↓delS,↓mupS,↓appS,↓s2bS,↓resS,evB,Sx.look,slot,↓lkL,putS,putO,argsL,↓reduceIte,ofV,of1,lookH,putH,List.replicate,List.append,convS,fldA,nthT,idxA,idxS,fldS,oslN,bnd,slS,unS,valI,lenS,lookS,takeC,psB,asRow,csB,rdF,Ent.row,ldS,sz,szL,wrF,bldF,plT,bldS,srcS,nilS,nilEq,mapC,binH,binS2,structS,eqL,eqF,binS,arrS,isI,tupS,stor,storL,Value.oneCell',minS,maxS,capS,Nat.reduceAdd,Nat.reduceSub,Nat.reduceMul,Nat.reduceLT,Nat.reduceLeDiff,Nat.reduceEqDiff,Nat.reduceBEq,Int.reduceToNat,Int.reduceNeg,if_true,if_false,reduceIte,stays,inL,same1,qn,ldN,convN,lenN,cond_true,cond_false,implies_true,Int.reduceEq,Int.reduceNe,Int.reduceLE,Int.reduceLT,forall_eq_or_imp,forall_eq,ne_eq,reduceCtorEq,notInt,numB,tabB,Array.reduceGetElem?,upG,up,nth,lay,rcB,rnm,rnmL,wrB,pcB,res144,Option.isNone,lhB,hrow1,lookH_at,putH_at,putH_len,lookH_pA,lookH_pA0,a1,liB]
      repeat (refine ⟨by omega, ?_⟩)
      rw [hl1] at hM1
      obtain ⟨LX, hLX⟩ : ∃ LX : List SV, LX = [.int .i64 yk, .int .i64 yf, .int .i64 yv, .int .i64 ys, .fam 32 1 fun i => .int .u8 (nat (yd i)), .osl ykb 0 0 1 ynb, .osl ykbs 0 0 1 ynbs, .osl ykp 0 0 73 ynp, .osl ykq 0 0 74 ynq, .int .i64 ykey, .fam 32 1 fun i => .int .u8 (nat (yof i))] := ⟨_, rfl⟩
      refine into_sim (sim_two (c' := .row true (i + 1) 73 fun j => .agg (if j < i then G j else LX)) (chSim_row rfl fun j hj => ?_)) ?_
      · by_cases c2 : j < i
        · rw [if_pos c2, if_pos c2]
        · rw [if_neg c2, if_neg c2, hLX, show j - i = 0 by omega]; rfl
      rw [← hLX] at hM1
      have hE2 := hE0.trans hE1
      have hl1' := hE1.1
      rw [List.length_append, List.length_singleton] at hl1'
      refine into_keep [(2, .v (.slice none 0 0)), (3, .osl (H1.length + 1) 0 0 73 (i + 1)), (6, .osl kp 0 0 73 p.length), (7, .int .i64 (p.length : Nat)), (8, .int .i64 (i + 1 : Nat))] (by simp [sameT, slot, lkL]) fun j => ⟨z - 1, by omega, i + 1, _, H1.length + 1, _, j, by omega, (hE2.put _ (.inr hm)).app _, by omega, lookH_pA _ _ _ _ 1, fun i' hi' hlt => ?_, rfl⟩
      rw [putH_pA]
      by_cases c2 : i' < i
      · rw [if_pos c2]
        exact (hG i' hi' c2).extR (extR_f2 (((Ext.refl _ _).app _).trans hE1) _)
      · obtain rfl : i' = i := by omega
        rw [if_neg c2]
        exact hM1.extR (extR_f3 (by have := hE0.1; omega) (by rw [List.length_append]; omega) _)
    · have g1 : decide ((i : Int) < (p.length : Nat)) = false := decide_eq_false (by omega)
      obtain rfl : i = p.length := by omega
      simp -implicitDefEqProofs (maxSteps := 1000000) (disch := omega) only [↓vcB,↓gd,↓opP,↓qv,↓ef,↓bslS,↓stS,↓mkS,↓rangeS,↓nextS,↓entryS,↓delS,↓mupS,↓appS,↓s2bS,↓resS,evB,Sx.look,slot,↓lkL,putS,putO,argsL,↓reduceIte,ofV,of1,lookH,putH,List.replicate,List.append,convS,fldA,nthT,idxA,idxS,fldS,oslN,bnd,slS,unS,valI,lenS,lookS,takeC,psB,asRow,csB,rdF,Ent.row,ldS,sz,szL,wrF,bldF,plT,bldS,srcS,nilS,nilEq,mapC,binH,binS2,structS,eqL,eqF,binS,arrS,isI,tupS,stor,storL,Value.oneCell',minS,maxS,capS,Nat.reduceAdd,Nat.reduceSub,Nat.reduceMul,Nat.reduceLT,Nat.reduceLeDiff,Nat.reduceEqDiff,Nat.reduceBEq,Int.reduceToNat,Int.reduceNeg,if_true,if_false,reduceIte,stays,inL,same1,qn,ldN,convN,lenN,cond_true,cond_false,implies_true,Int.reduceEq,Int.reduceNe,Int.reduceLE,Int.reduceLT,forall_eq_or_imp,forall_eq,ne_eq,reduceCtorEq,notInt,numB,tabB,Array.reduceGetElem?,upG,up,nth,lay,rcB,rnm,rnmL,wrB,pcB,res144,Option.isNone,lhB,g1,liB]
      repeat (refine ⟨by omega, ?_⟩)
      exact intoR_refl hhl (hK _ _ _ hE hm hrow (MsgsH.mk fun i' hi' => (hG i' hi' hi').extR extR_f1))
end Go.Proofs.Ytgocfglmideobaa

set_option linter.all false
set_option maxRecDepth 40000
namespace Go.Proofs.Ytgocfglmideobaa
open Go Go.Sx
theorem res98 : Try.f98.results.toList = [.cell 2 31] := rfl
def pl98 : Nat → Plan
  | 14 => (.q 0 (.q 1 (.q 2 (.q 4 (.q 5 (.e1 3 [2] (.e1 6 [2, 3, 5] (.q 7 (.e1 8 [3, 6] (.e1 9 [3, 5, 6] (.q 10 .nil)))))))))))
  | _ => .nil

set_option maxHeartbeats 4000000 in
theorem c98e (k f v s key : Int) (d of : Nat → By) (kb kbs kp kq : Nat) (wb wbs wp wq : Bool) (Fb Fbs Fq : Nat → SV) (fp : Nat → List SV) (h : List Chunk) (hb : lookH h kb = .row wb 0 1 Fb) (hbs : lookH h kbs = .row wbs 0 1 Fbs) (hp : lookH h kp = .row wp 0 73 (fun i => .agg (fp i))) (hq : lookH h kq = .row wq 0 74 Fq) (K : Tok → SV → List Chunk → Prop)
    (hK : ∀ (H' : List Chunk) (n1 n2 : Nat) (f2 : Nat → List SV), Ext (fun _ => False) h H' → lookH H' n1 = .row true 0 1 (fun i => Fb i) → lookH H' n2 = .row true 0 73 (fun i => .agg (f2 i)) → K .mk (.agg [.int .i64 k, .int .i64 f, .int .i64 v, .int .i64 s, .fam 32 1 fun i => .int .u8 (nat (d i)), .osl n1 0 0 1 0, .v (.slice none 0 0), .osl n2 0 0 73 0, .v (.slice none 0 0), .int .i64 key, .fam 32 1 fun i => .int .u8 (nat (of i))]) H') : callP Try.prog 98 [.agg [.int .i64 k, .int .i64 f, .int .i64 v, .int .i64 s, .fam 32 1 fun i => .int .u8 (nat (d i)), .osl kb 0 0 1 0, .osl kbs 0 0 1 0, .osl kp 0 0 73 0, .osl kq 0 0 74 0, .int .i64 key, .fam 32 1 fun i => .int .u8 (nat (of i))]] h K := by
  refine callP_of_code tabOk Try.func98 (by kernel_rfl) rfl (Nat.le_of_ble_eq_true rfl) (codeP_of_vc (pl := pl98) tabOk follows_mixed (by kernel_rfl) ?_)
  rw [Try.ntmps98]
  have l1 := lookH_lt hb (by simp)
  have l2 := lookH_lt hbs (by simp)
  have l3 := lookH_lt hp (by simp)
  have l4 := lookH_lt hq (by simp)
  simp -implicitDefEqProofs (maxSteps := 1000000) (disch := omega) only [↓vcB,↓gd,↓opP,↓qv,↓ef,↓bslS,↓stS,↓mkS,↓rangeS,↓nextS,↓entryS,↓delS,↓mupS,↓appS,↓s2bS,↓resS,evB,Sx.look,slot,↓lkL,putS,putO,argsL,↓reduceIte,ofV,of1,lookH,putH,List.replicate,List.append,convS,fldA,nthT,idxA,idxS,fldS,oslN,bnd,slS,unS,valI,lenS,lookS,takeC,psB,asRow,csB,rdF,Ent.row,ldS,sz,szL,wrF,bldF,plT,bldS,srcS,nilS,nilEq,mapC,binH,binS2,structS,eqL,eqF,binS,arrS,isI,tupS,stor,storL,Value.oneCell',minS,maxS,capS,Nat.reduceAdd,Nat.reduceSub,Nat.reduceMul,Nat.reduceLT,Nat.reduceLeDiff,Nat.reduceEqDiff,Nat.reduceBEq,Int.reduceToNat,Int.reduceNeg,if_true,if_false,reduceIte,stays,inL,same1,qn,ldN,convN,lenN,cond_true,cond_false,implies_true,Int.reduceEq,Int.reduceNe,Int.reduceLE,Int.reduceLT,forall_eq_or_imp,forall_eq,ne_eq,reduceCtorEq,notInt,numB,tabB,Array.reduceGetElem?,upG,up,nth,lay,rcB,rnm,rnmL,wrB,pcB,res98,Option.isNone,lhB,hb,lookH_at,putH_at,liB]
  repeat (refine ⟨by omega, ?_⟩)
  obtain ⟨H1, hH1⟩ : ∃ H1, H1 = h ++ [.cells true [.int .i64 k, .int .i64 f, .int .i64 v, .int .i64 s, .fam 32 1 fun i => .int .u8 (nat (d i)), .osl (h.length + 2) 0 0 1 0, .osl kbs 0 0 1 0, .osl kp 0 0 73 0, .osl kq 0 0 74 0, .int .i64 key, .fam 32 1 fun i => .int .u8 (nat (of i))], Chunk.cells true [.int .i64 0, .int .i64 0, .int .i64 0, .int .i64 0, .fam 32 1 fun _ => .int .u8 0, .v (.slice none 0 0), .v (.slice none 0 0), .v (.slice none 0 0), .v (.slice none 0 0), .int .i64 0, .fam 32 1 fun _ => .int .u8 0], .row true 0 1 fun i => Fb i] := ⟨_, rfl⟩
  have hE1 : Ext (fun _ => False) h H1 := by rw [hH1]; exact (Ext.refl _ _).app _
  have e0 : lookH H1 h.length = .cells true [.int .i64 k, .int .i64 f, .int .i64 v, .int .i64 s, .fam 32 1 fun i => .int .u8 (nat (d i)), .osl (h.length + 2) 0 0 1 0, .osl kbs 0 0 1 0, .osl kp 0 0 73 0, .osl kq 0 0 74 0, .int .i64 key, .fam 32 1 fun i => .int .u8 (nat (of i))] := by rw [hH1]; exact lookH_app0 _ _
  have e1 : lookH H1 (h.length + 1) = Chunk.cells true [.int .i64 0, .int .i64 0, .int .i64 0, .int .i64 0, .fam 32 1 fun _ => .int .u8 0, .v (.slice none 0 0), .v (.slice none 0 0), .v (.slice none 0 0), .v (.slice none 0 0), .int .i64 0, .fam 32 1 fun _ => .int .u8 0] := by rw [hH1]; exact lookH_app _ 1 _
  have e2 : lookH H1 (h.length + 2) = .row true 0 1 fun i => Fb i := by rw [hH1]; exact lookH_app _ 2 _
  rw [← hH1]
  refine codeP_loop (pl := pl98) tabOk follows_mixed (by kernel_rfl) (fun z st => ∃ (j : Nat → Value), st = ⟨⟨53, [(1, .ptr h.length 0), (2, .ptr (h.length + 1) 0), (3, .v (.slice none 0 0)), (14, .osl kbs 0 0 1 0), (15, .int .i64 0), (16, .int .i64 0)], j⟩, H1, []⟩) ?_ ?_
  · exact into_keep [(1, .ptr h.length 0), (2, .ptr (h.length + 1) 0), (3, .v (.slice none 0 0)), (14, .osl kbs 0 0 1 0), (15, .int .i64 0), (16, .int .i64 0)] (by simp [sameT, slot, lkL]) fun j => ⟨0, j, rfl⟩
  rintro z st ⟨j, rfl⟩
  have m0 := lookH_lt e0 (by simp)
  have m1 := lookH_lt e1 (by simp)
  have m2 := lookH_lt e2 (by simp)
  simp -implicitDefEqProofs (maxSteps := 1000000) (disch := omega) only [↓vcB,↓gd,↓opP,↓qv,↓ef,↓bslS,↓stS,↓mkS,↓rangeS,↓nextS,↓entryS,↓delS,↓mupS,↓appS,↓s2bS,↓resS,evB,Sx.look,slot,↓lkL,putS,putO,argsL,↓reduceIte,ofV,of1,lookH,putH,List.replicate,List.append,convS,fldA,nthT,idxA,idxS,fldS,oslN,bnd,slS,unS,valI,lenS,lookS,takeC,psB,asRow,csB,rdF,Ent.row,ldS,sz,szL,wrF,bldF,plT,bldS,srcS,nilS,nilEq,mapC,binH,binS2,structS,eqL,eqF,binS,arrS,isI,tupS,stor,storL,Value.oneCell',minS,maxS,capS,Nat.reduceAdd,Nat.reduceSub,Nat.reduceMul,Nat.reduceLT,Nat.reduceLeDiff,Nat.reduceEqDiff,Nat.reduceBEq,Int.reduceToNat,Int.reduceNeg,if_true,if_false,reduceIte,stays,inL,same1,qn,ldN,convN,lenN,cond_true,cond_false,implies_true,Int.reduceEq,Int.reduceNe,Int.reduceLE,Int.reduceLT,forall_eq_or_imp,forall_eq,ne_eq,reduceCtorEq,notInt,numB,tabB,Array.reduceGetElem?,upG,up,nth,lay,rcB,rnm,rnmL,wrB,pcB,res98,Option.isNone,lhB,e0,e1,lookH_at,putH_at,putH_len,lookH_put_same,m0,m1,liB]
  repeat (refine ⟨by omega, ?_⟩)
  obtain ⟨H2, hH2⟩ : ∃ H2, H2 = putH H1 h.length (.cells true [.int .i64 k, .int .i64 f, .int .i64 v, .int .i64 s, .fam 32 1 fun i => .int .u8 (nat (d i)), .osl (h.length + 2) 0 0 1 0, .v (.slice none 0 0), .osl kp 0 0 73 0, .osl kq 0 0 74 0, .int .i64 key, .fam 32 1 fun i => .int .u8 (nat (of i))]) := ⟨_, rfl⟩
  have hE2 : Ext (fun _ => False) h H2 := by rw [hH2]; exact hE1.put _ (.inr (Nat.le_refl _))
  have f0 : lookH H2 h.length = .cells true [.int .i64 k, .int .i64 f, .int .i64 v, .int .i64 s, .fam 32 1 fun i => .int .u8 (nat (d i)), .osl (h.length + 2) 0 0 1 0, .v (.slice none 0 0), .osl kp 0 0 73 0, .osl kq 0 0 74 0, .int .i64 key, .fam 32 1 fun i => .int .u8 (nat (of i))] := by rw [hH2]; exact lookH_put_same _ m0
  have f1 : lookH H2 (h.length + 1) = Chunk.cells true [.int .i64 0, .int .i64 0, .int .i64 0, .int .i64 0, .fam 32 1 fun _ => .int .u8 0, .v (.slice none 0 0), .v (.slice none 0 0), .v (.slice none 0 0), .v (.slice none 0 0), .int .i64 0, .fam 32 1 fun _ => .int .u8 0] := by rw [hH2, lookH_put_ne _ (by omega)]; exact e1
  have f2 : lookH H2 (h.length + 2) = .row true 0 1 fun i => Fb i := by rw [hH2, lookH_put_ne _ (by omega)]; exact e2
  rw [← hH2]
  refine c144 [] (fun m hm => by simp at hm) (by simp) kp wp fp _ (hE2.look hp (by simp) fun h => h) (by rw [MsgsH]; trivial) _ ?_
  intro H3 n2 f3 hE3 hk3 hrow3 _
  have g0 := hE3.look f0 (by simp) fun h => h
  have g1 := hE3.look f1 (by simp) fun h => h
  have g2 := hE3.look f2 (by simp) fun h => h
  have m3 := lookH_lt g0 (by simp)
  have m4 := lookH_lt g1 (by simp)
  have hE4 := hE2.trans hE3
  replace hrow3 : lookH H3 n2 = .row true 0 73 fun i => .agg (f3 i) := hrow3
  have hn2 : n2 ≠ h.length := fun e => by rw [e, g0] at hrow3; cases hrow3
  have hn3 : n2 ≠ h.length + 1 := fun e => by rw [e, g1] at hrow3; cases hrow3
  simp -implicitDefEqProofs (maxSteps := 1000000) (disch := omega) only [↓vcB,↓gd,↓opP,↓qv,↓ef,↓bslS,↓stS,↓mkS,↓rangeS,↓nextS,↓entryS,↓delS,↓mupS,↓appS,↓s2bS,↓resS,evB,Sx.look,slot,↓lkL,putS,putO,argsL,↓reduceIte,ofV,of1,lookH,putH,List.replicate,List.append,convS,fldA,nthT,idxA,idxS,fldS,oslN,bnd,slS,unS,valI,lenS,lookS,takeC,psB,asRow,csB,rdF,Ent.row,ldS,sz,szL,wrF,bldF,plT,bldS,srcS,nilS,nilEq,mapC,binH,binS2,structS,eqL,eqF,binS,arrS,isI,tupS,stor,storL,Value.oneCell',minS,maxS,capS,Nat.reduceAdd,Nat.reduceSub,Nat.reduceMul,Nat.reduceLT,Nat.reduceLeDiff,Nat.reduceEqDiff,Nat.reduceBEq,Int.reduceToNat,Int.reduceNeg,if_true,if_false,reduceIte,stays,inL,same1,qn,ldN,convN,lenN,cond_true,cond_false,implies_true,Int.reduceEq,Int.reduceNe,Int.reduceLE,Int.reduceLT,forall_eq_or_imp,forall_eq,ne_eq,reduceCtorEq,notInt,numB,tabB,Array.reduceGetElem?,upG,up,nth,lay,rcB,rnm,rnmL,wrB,pcB,res98,Option.isNone,lhB,g0,g1,lookH_at,putH_at,putH_len,lookH_put_same,m3,m4,liB]
  repeat (refine ⟨by omega, ?_⟩)
  obtain ⟨H5, hH5⟩ : ∃ H5, H5 = putH H3 h.length (.cells true [.int .i64 k, .int .i64 f, .int .i64 v, .int .i64 s, .fam 32 1 fun i => .int .u8 (nat (d i)), .osl (h.length + 2) 0 0 1 0, .v (.slice none 0 0), .osl n2 0 0 73 0, .osl kq 0 0 74 0, .int .i64 key, .fam 32 1 fun i => .int .u8 (nat (of i))]) := ⟨_, rfl⟩
  have hE5 : Ext (fun _ => False) h H5 := by rw [hH5]; exact hE4.put _ (.inr (Nat.le_refl _))
  have k0 : lookH H5 h.length = .cells true [.int .i64 k, .int .i64 f, .int .i64 v, .int .i64 s, .fam 32 1 fun i => .int .u8 (nat (d i)), .osl (h.length + 2) 0 0 1 0, .v (.slice none 0 0), .osl n2 0 0 73 0, .osl kq 0 0 74 0, .int .i64 key, .fam 32 1 fun i => .int .u8 (nat (of i))] := by rw [hH5]; exact lookH_put_same _ m3
  have k1 : lookH H5 (h.length + 1) = Chunk.cells true [.int .i64 0, .int .i64 0, .int .i64 0, .int .i64 0, .fam 32 1 fun _ => .int .u8 0, .v (.slice none 0 0), .v (.slice none 0 0), .v (.slice none 0 0), .v (.slice none 0 0), .int .i64 0, .fam 32 1 fun _ => .int .u8 0] := by rw [hH5, lookH_put_ne _ (by omega)]; exact g1
  have k2 : lookH H5 (h.length + 2) = .row true 0 1 fun i => Fb i := by rw [hH5, lookH_put_ne _ (by omega)]; exact g2
  have k3 : lookH H5 n2 = .row true 0 73 fun i => .agg (f3 i) := by rw [hH5, lookH_put_ne _ hn2]; exact hrow3
  rw [← hH5]
  refine codeP_loop (pl := pl98) tabOk follows_mixed (by kernel_rfl) (fun z st => ∃ (j : Nat → Value), st = ⟨⟨53, [(1, .ptr h.length 0), (2, .ptr (h.length + 1) 0), (6, .v (.slice none 0 0)), (33, .osl kq 0 0 74 0), (34, .int .i64 0), (35, .int .i64 0)], j⟩, H5, []⟩) ?_ ?_
  · exact into_keep [(1, .ptr h.length 0), (2, .ptr (h.length + 1) 0), (6, .v (.slice none 0 0)), (33, .osl kq 0 0 74 0), (34, .int .i64 0), (35, .int .i64 0)] (by simp [sameT, slot, lkL]) fun j => ⟨0, j, rfl⟩
  rintro z st ⟨j, rfl⟩
  have m5 := lookH_lt k0 (by simp)
  have m6 := lookH_lt k1 (by simp)
  have n4 : ¬ h.length + 1 = h.length := by omega
  have k4 : lookH (putH H5 h.length (.cells true [.int .i64 k, .int .i64 f, .int .i64 v, .int .i64 s, .fam 32 1 fun i => .int .u8 (nat (d i)), .osl (h.length + 2) 0 0 1 0, .v (.slice none 0 0), .osl n2 0 0 73 0, .v (.slice none 0 0), .int .i64 key, .fam 32 1 fun i => .int .u8 (nat (of i))])) (h.length + 1) = Chunk.cells true [.int .i64 0, .int .i64 0, .int .i64 0, .int .i64 0, .fam 32 1 fun _ => .int .u8 0, .v (.slice none 0 0), .v (.slice none 0 0), .v (.slice none 0 0), .v (.slice none 0 0), .int .i64 0, .fam 32 1 fun _ => .int .u8 0] := by rw [lookH_put_ne _ (by omega)]; exact k1
  have m7 : h.length + 1 < (putH H5 h.length (.cells true [.int .i64 k, .int .i64 f, .int .i64 v, .int .i64 s, .fam 32 1 fun i => .int .u8 (nat (d i)), .osl (h.length + 2) 0 0 1 0, .v (.slice none 0 0), .osl n2 0 0 73 0, .v (.slice none 0 0), .int .i64 key, .fam 32 1 fun i => .int .u8 (nat (of i))])).length := by rw [putH_len]; exact m6
  simp -implicitDefEqProofs (maxSteps := 1000000) (disch := omega) only [↓vcB,↓gd,↓opP,↓qv,↓ef,↓bslS,↓stS,↓mkS,↓rangeS,↓nextS,↓entryS,↓delS,↓mupS,↓appS,↓s2bS,↓resS,evB,Sx.look,slot,↓lkL,putS,putO,argsL,↓reduceIte,ofV,of1,lookH,putH,List.replicate,List.append,convS,fldA,nthT,idxA,idxS,fldS,oslN,bnd,slS,unS,valI,lenS,lookS,takeC,psB,asRow,csB,rdF,Ent.row,ldS,sz,szL,wrF,bldF,plT,bldS,srcS,nilS,nilEq,mapC,binH,binS2,structS,eqL,eqF,binS,arrS,isI,tupS,stor,storL,Value.oneCell',minS,maxS,capS,Nat.reduceAdd,Nat.reduceSub,Nat.reduceMul,Nat.reduceLT,Nat.reduceLeDiff,Nat.reduceEqDiff,Nat.reduceBEq,Int.reduceToNat,Int.reduceNeg,if_true,if_false,reduceIte,stays,inL,same1,qn,ldN,convN,lenN,cond_true,cond_false,implies_true,Int.reduceEq,Int.reduceNe,Int.reduceLE,Int.reduceLT,forall_eq_or_imp,forall_eq,ne_eq,reduceCtorEq,notInt,numB,tabB,Array.reduceGetElem?,upG,up,nth,lay,rcB,rnm,rnmL,wrB,pcB,res98,Option.isNone,lhB,k0,k4,lookH_at,putH_at,putH_len,lookH_put_same,m5,m6,m7,liB]
  repeat (refine ⟨by omega, ?_⟩)
  refine intoR_refl ?_ (hK _ _ _ f3 ((hE5.put _ (.inr (Nat.le_refl _))).put _ (.inr (Nat.le_succ _))) ?_ ?_)
  · rw [putH_len, putH_len]
    exact hE5.1
  · rw [lookH_put_ne _ (by omega), lookH_put_ne _ (by omega)]
    exact k2
  · rw [lookH_put_ne _ hn3, lookH_put_ne _ hn2]
    exact k3
end Go.Proofs.Ytgocfglmideobaa

set_option linter.all false
set_option maxRecDepth 40000
namespace Go.Proofs.Ytgocfglmideobaa.S
open Go Go.Sx

theorem follows_mixed : Try.prog.follows .mixedOrders = true := by kernel_rfl
def np : Nat → Plan := fun _ => .nil

theorem c74 (x : BitVec 32) (k : Int) (s : Nat) (hs : bits .and .u64 (IntKind.u64.wrap k) 31 = s) (h0 : s ≤ 32) (h : List Chunk) (K : Tok → SV → List Chunk → Prop) (hK : K .mk (.int .u32 (nat (x <<< s ||| x >>> (32 - s)))) h) : callP Try.prog 171 [.int .u32 (nat x), .int .i64 k] h K := by
  refine callP_of_code tabOk Try.func171 (by kernel_rfl) rfl (Nat.le_of_ble_eq_true rfl) (codeP_of_vc (pl := np) tabOk follows_mixed (by kernel_rfl) ?_)
  rw [Try.ntmps171]
  simp -implicitDefEqProofs (maxSteps := 1000000) (disch := omega) only [↓vcB,↓gd,↓opP,↓qv,↓ef,↓bslS,↓stS,↓mkS,↓rangeS,↓nextS,↓entryS,↓delS,↓mupS,↓appS,↓s2bS,↓resS,evB,Sx.look,slot,↓lkL,putS,putO,argsL,↓reduceIte,ofV,of1,lookH,putH,List.replicate,List.append,convS,fldA,nthT,idxA,idxS,fldS,oslN,bnd,slS,unS,valI,lenS,lookS,takeC,parts,asRow,single,rdF,Ent.row,ldS,sz,szL,wrF,bldF,plT,bldS,srcS,nilS,nilEq,mapC,binH,binS2,structS,eqL,eqF,binS,arrS,isI,tupS,stor,storL,Value.oneCell',minS,maxS,capS,Nat.reduceAdd,Nat.reduceSub,Nat.reduceMul,Nat.reduceLT,Nat.reduceLeDiff,Nat.reduceEqDiff,Nat.reduceBEq,Int.reduceToNat,Int.reduceNeg,if_true,if_false,reduceIte,stays,inL,same1,qn,ldN,convN,lenN,cond_true,cond_false,implies_true,Int.reduceEq,Int.reduceNe,Int.reduceLE,Int.reduceLT,forall_eq_or_imp,forall_eq,ne_eq,reduceCtorEq,notInt,numB,tabB,liB]
  have e : IntKind.u64.wrap (32 - (s : Int)) = ((32 - s : Nat) : Int) := by
    rw [show (32 : Int) - s = ((32 - s : Nat) : Int) by omega]
    exact Go.Sx.wrap_small (k := .u64) rfl (by omega) (by rw [show IntKind.u64.bits = 64 from rfl]; omega)
  rw [hs, e]
  simp only [shl32 x s h0, shr32 x (32 - s) (by omega), or32, Try.f171, resS, Sx.look, tupS]
  exact ⟨by omega, by omega, intoR_refl (Nat.le_refl _) hK⟩

def rotr (x : BitVec 32) (k : Nat) : BitVec 32 := x <<< (32 - k) ||| x >>> k

theorem c67 (x : BitVec 32) (k : Int) (n : Nat) (hk : k = n) (hs : bits .and .u64 (IntKind.u64.wrap (IntKind.i64.wrap (0 - k))) 31 = ((32 - n : Nat) : Int)) (hn : n ≤ 32) (h : List Chunk) (K : Tok → SV → List Chunk → Prop) (hK : K .mk (.int .u32 (nat (rotr x n))) h) : callP Try.prog 169 [.int .u32 (nat x), .int .i64 k] h K := by
  refine callP_of_code tabOk Try.func169 (by kernel_rfl) rfl (Nat.le_of_ble_eq_true rfl) (codeP_of_vc (pl := np) tabOk follows_mixed (by kernel_rfl) ?_)
  rw [Try.ntmps169]
  simp -implicitDefEqProofs (maxSteps := 1000000) (disch := omega) only [↓vcB,↓gd,↓opP,↓qv,↓ef,↓bslS,↓stS,↓mkS,↓rangeS,↓nextS,↓entryS,↓delS,↓mupS,↓appS,↓s2bS,↓resS,evB,Sx.look,slot,↓lkL,putS,putO,argsL,↓reduceIte,ofV,of1,lookH,putH,List.replicate,List.append,convS,fldA,nthT,idxA,idxS,fldS,oslN,bnd,slS,unS,valI,lenS,lookS,takeC,parts,asRow,single,rdF,Ent.row,ldS,sz,szL,wrF,bldF,plT,bldS,srcS,nilS,nilEq,mapC,binH,binS2,structS,eqL,eqF,binS,arrS,isI,tupS,stor,storL,Value.oneCell',minS,maxS,capS,Nat.reduceAdd,Nat.reduceSub,Nat.reduceMul,Nat.reduceLT,Nat.reduceLeDiff,Nat.reduceEqDiff,Nat.reduceBEq,Int.reduceToNat,Int.reduceNeg,if_true,if_false,reduceIte,stays,inL,same1,qn,ldN,convN,lenN,cond_true,cond_false,implies_true,Int.reduceEq,Int.reduceNe,Int.reduceLE,Int.reduceLT,forall_eq_or_imp,forall_eq,ne_eq,reduceCtorEq,notInt,numB,tabB,liB]
  refine c74 x _ _ hs (by omega) h _ ?_
  simp -implicitDefEqProofs (maxSteps := 1000000) (disch := omega) only [↓vcB,↓gd,↓opP,↓qv,↓ef,↓bslS,↓stS,↓mkS,↓rangeS,↓nextS,↓entryS,↓delS,↓mupS,↓appS,↓s2bS,↓resS,evB,Sx.look,slot,↓lkL,putS,putO,argsL,↓reduceIte,ofV,of1,lookH,putH,List.replicate,List.append,convS,fldA,nthT,idxA,idxS,fldS,oslN,bnd,slS,unS,valI,lenS,lookS,takeC,parts,asRow,single,rdF,Ent.row,ldS,sz,szL,wrF,bldF,plT,bldS,srcS,nilS,nilEq,mapC,binH,binS2,structS,eqL,eqF,binS,arrS,isI,tupS,stor,storL,Value.oneCell',minS,maxS,capS,Nat.reduceAdd,Nat.reduceSub,Nat.reduceMul,Nat.reduceLT,Nat.reduceLeDiff,Nat.reduceEqDiff,Nat.reduceBEq,Int.reduceToNat,Int.reduceNeg,if_true,if_false,reduceIte,stays,inL,same1,qn,ldN,convN,lenN,cond_true,cond_false,implies_true,Int.reduceEq,Int.reduceNe,Int.reduceLE,Int.reduceLT,forall_eq_or_imp,forall_eq,ne_eq,reduceCtorEq,notInt,numB,tabB,liB]
  simp only [Try.f169, resS, Sx.look, tupS]
  refine intoR_refl (Nat.le_refl _) ?_
  rw [show 32 - (32 - n) = n by omega]
  exact hK

def rootL : List (BitVec 32) := [1116352408, 1899447441, 3049323471, 3921009573, 961987163, 1508970993, 2453635748, 2870763221, 3624381080, 310598401, 607225278, 1426881987, 1925078388, 2162078206, 2614888103, 3248222580, 3835390401, 4022224774, 264347078, 604807628, 770255983, 1249150122, 1555081692, 1996064986, 2554220882, 2821834349, 2952996808, 3210313671, 3336571891, 3584528711, 113926993, 338241895, 666307205, 773529912, 1294757372, 1396182291, 1695183700, 1986661051, 2177026350, 2456956037, 2730485921, 2820302411, 3259730800, 3345764771, 3516065817, 3600352804, 4094571909, 275423344, 430227734, 506948616, 659060556, 883997877, 958139571, 1322822218, 1537002063, 1747873779, 1955562222, 2024104815, 2227730452, 2361852424, 2428436474, 2756734187, 3204031479, 3329325298]
def rootK (i : Nat) : BitVec 32 := rootL.getD i 0

theorem res68 : Try.f170.results.toList = [.cell 0 179] := rfl
theorem c68l (K : Tok → SV → List Chunk → Prop) (hK : K .mk (.fam 64 1 fun i => .int .u32 (nat (rootK i))) []) : callP Try.prog 170 [] [] K := by
  refine callP_of_code tabOk Try.func170 (by kernel_rfl) rfl (Nat.le_of_ble_eq_true rfl) (codeP_of_vc (pl := np) tabOk follows_mixed (by kernel_rfl) ?_)
  rw [Try.ntmps170]
  simp -implicitDefEqProofs (maxSteps := 1000000) (disch := omega) only [↓vcB,↓gd,↓opP,↓qv,↓ef,↓bslS,↓stS,↓mkS,↓rangeS,↓nextS,↓entryS,↓delS,↓mupS,↓appS,↓s2bS,↓resS,evB,Sx.look,slot,↓lkL,putS,putO,argsL,↓reduceIte,ofV,of1,lookH,putH,List.replicate,List.append,convS,fldA,nthT,idxA,idxS,fldS,oslN,bnd,slS,unS,valI,lenS,lookS,takeC,parts,asRow,single,rdF,Ent.row,ldS,sz,szL,wrF,bldF,plT,bldS,srcS,nilS,nilEq,mapC,binH,binS2,structS,eqL,eqF,binS,arrS,isI,tupS,stor,storL,Value.oneCell',minS,maxS,capS,Nat.reduceAdd,Nat.reduceSub,Nat.reduceMul,Nat.reduceLT,Nat.reduceLeDiff,Nat.reduceEqDiff,Nat.reduceBEq,Int.reduceToNat,Int.reduceNeg,if_true,if_false,reduceIte,stays,inL,same1,qn,ldN,convN,lenN,cond_true,cond_false,implies_true,Int.reduceEq,Int.reduceNe,Int.reduceLE,Int.reduceLT,forall_eq_or_imp,forall_eq,ne_eq,reduceCtorEq,notInt,numB,tabB,res68,liB]
  refine intoR_mk [] (.fam 64 1 fun i => .int .u32 (nat (rootK i))) [] ?_ ?_ ?_ ?_ ?_ ?_ ?_ hK
  · simp [slot, lkL, fixed, rg, renH, chEq, lookH, eqvL, eqv, eqvF, rnmL, rnm, liveN, Chunk.live, goodH, Chunk.good, okL, ok, sz, szL, storL, stor, renT, okT]
  · simp [slot, lkL, fixed, rg, renH, chEq, lookH, eqvL, eqv, eqvF, rnmL, rnm, liveN, Chunk.live, goodH, Chunk.good, okL, ok, sz, szL, storL, stor, renT, okT]
  · simp [slot, lkL, fixed, rg, renH, chEq, lookH, eqvL, eqv, eqvF, rnmL, rnm, liveN, Chunk.live, goodH, Chunk.good, okL, ok, sz, szL, storL, stor, renT, okT]
  · simp [slot, lkL, fixed, rg, renH, chEq, lookH, eqvL, eqv, eqvF, rnmL, rnm, liveN, Chunk.live, goodH, Chunk.good, okL, ok, sz, szL, storL, stor, renT, okT]
  · simp [slot, lkL, fixed, rg, renH, chEq, lookH, eqvL, eqv, eqvF, rnmL, rnm, liveN, Chunk.live, goodH, Chunk.good, okL, ok, sz, szL, storL, stor, renT, okT]
  · simp [slot, lkL, fixed, rg, renH, chEq, lookH, eqvL, eqv, eqvF, rnmL, rnm, liveN, Chunk.live, goodH, Chunk.good, okL, ok, sz, szL, storL, stor, renT, okT, rootK, rootL, nat]
  · simp [slot, lkL, fixed, rg, renH, chEq, lookH, eqvL, eqv, eqvF, rnmL, rnm, liveN, Chunk.live, goodH, Chunk.good, okL, ok, sz, szL, storL, stor, renT, okT]

theorem c68 (h : List Chunk) (K : Tok → SV → List Chunk → Prop) (hK : K .mk (.fam 64 1 fun i => .int .u32 (nat (rootK i))) h) : callP Try.prog 170 [] h K :=
  callP_frame (KL := fun _ v h' => v = .fam 64 1 (fun i => .int .u32 (nat (rootK i))) ∧ h' = []) [] (c68l _ ⟨rfl, rfl⟩) List.nodup_nil trivial trivial trivial rfl (by
    rintro v h' ⟨rfl, rfl⟩
    refine ⟨?_, trivial, ?_⟩
    · intro c hc; cases hc
    · simpa [rnm, lay] using hK)
end Go.Proofs.Ytgocfglmideobaa.S

set_option linter.all false
set_option maxRecDepth 40000
namespace Go.Proofs.Ytgocfglmideobaa.S
open Go Go.Sx

def pl166 : Nat → Plan
  | 4 => (.q 0 (.q 1 (.q 2 (.q 3 (.q 4 (.q 5 (.q 6 (.q 7 (.q 8 (.q 9 (.q 10 (.q 11 (.q 12 (.q 13 (.q 14 (.q 15 (.q 16 (.q 17 (.q 18 (.q 19 (.q 20 (.q 21 (.q 22 (.q 23 (.q 24 (.q 25 (.q 26 (.q 27 (.q 28 (.q 29 (.q 30 (.q 31 (.q 32 (.q 33 (.q 34 (.e1 35 [4, 5, 6, 12, 13, 14, 21, 22, 23, 30, 31, 32, 34] .nil))))))))))))))))))))))))))))))))))))
  | 9 => (.q 0 (.q 1 (.q 2 (.q 3 (.q 4 (.q 5 (.q 6 (.q 7 (.q 8 (.q 9 .nil))))))))))
  | 10 => (.q 0 (.q 1 (.q 2 (.q 3 (.q 4 (.q 5 (.q 7 (.q 10 (.q 11 (.q 14 (.q 15 (.q 16 (.q 17 (.q 19 (.q 21 (.q 24 (.q 25 (.e1 6 [] (.e1 8 [6] (.q 9 (.q 12 (.q 13 (.q 18 (.e1 20 [6, 8] (.e1 22 [8, 20] (.q 23 (.q 26 (.q 27 (.q 28 (.e1 29 [3, 4, 6, 8, 16, 17, 20, 22, 28] .nil))))))))))))))))))))))))))))))
  | 15 => (.q 0 (.q 1 (.q 2 (.q 3 (.q 4 (.q 5 .nil))))))
  | 16 => (.q 0 (.q 1 (.q 2 (.q 4 (.q 7 (.q 11 (.q 12 (.q 13 (.q 14 (.q 15 (.q 16 (.q 17 (.q 18 (.q 19 (.q 20 (.q 22 (.q 24 (.q 25 (.q 26 (.e1 3 [] (.e1 5 [3] (.q 6 (.e1 8 [3, 5] (.q 9 (.q 10 (.q 21 (.q 23 (.q 27 (.q 28 .nil)))))))))))))))))))))))))))))
  | 17 => (.q 0 (.q 2 (.q 5 (.q 8 (.q 9 (.q 10 (.q 11 (.q 12 (.q 13 (.q 14 (.q 15 (.q 16 (.q 17 (.q 18 (.q 19 (.q 20 (.q 21 (.q 22 (.e1 1 [] (.e1 3 [1] (.q 4 (.e1 6 [1, 3] (.q 7 (.q 23 (.q 24 .nil)))))))))))))))))))))))))
  | 23 => (.q 0 (.q 1 (.q 2 (.q 3 (.q 4 (.q 5 (.q 6 (.q 7 (.q 8 (.q 9 (.q 10 (.e1 11 [3, 4, 6, 7, 10] .nil))))))))))))
  | _ => .nil


theorem takeC_zero (l : List SV) : takeC 0 l = some ([], l) := by cases l <;> simp [takeC]

def word (b : Nat → BitVec 8) (t : Nat) : BitVec 32 :=
  (b (4 * t)).setWidth 32 <<< 24 ||| (b (4 * t + 1)).setWidth 32 <<< 16 ||| (b (4 * t + 2)).setWidth 32 <<< 8 ||| (b (4 * t + 3)).setWidth 32
def ld (b : Nat → BitVec 8) (t : Nat) : Nat → BitVec 32 := fun i => if i < t then word b i else 0
def sch (g : Nat → BitVec 32) (t : Nat) : BitVec 32 :=
  g (t - 16) + (rotr (g (t - 15)) 7 ^^^ rotr (g (t - 15)) 18 ^^^ g (t - 15) >>> 3) + g (t - 7) + (rotr (g (t - 2)) 17 ^^^ rotr (g (t - 2)) 19 ^^^ g (t - 2) >>> 10)
def schF (g : Nat → BitVec 32) : Nat → Nat → BitVec 32
  | 0 => g
  | k + 1 => fun i => if i = 16 + k then sch (schF g k) (16 + k) else schF g k i
def rnd (s : Nat → BitVec 32) (k w : BitVec 32) : Nat → BitVec 32
  | 0 => (s 7 + (rotr (s 4) 6 ^^^ rotr (s 4) 11 ^^^ rotr (s 4) 25) + (s 4 &&& s 5 ^^^ ~~~(s 4) &&& s 6) + k + w) + ((rotr (s 0) 2 ^^^ rotr (s 0) 13 ^^^ rotr (s 0) 22) + (s 0 &&& s 1 ^^^ s 0 &&& s 2 ^^^ s 1 &&& s 2))
  | 1 => s 0
  | 2 => s 1
  | 3 => s 2
  | 4 => s 3 + (s 7 + (rotr (s 4) 6 ^^^ rotr (s 4) 11 ^^^ rotr (s 4) 25) + (s 4 &&& s 5 ^^^ ~~~(s 4) &&& s 6) + k + w)
  | 5 => s 4
  | 6 => s 5
  | _ => s 6
def rnds (s : Nat → BitVec 32) (w : Nat → BitVec 32) : Nat → Nat → BitVec 32
  | 0 => s
  | t + 1 => rnd (rnds s w t) (rootK t) (w t)
/-- What a block makes of the words. -/
def comp (s : Nat → BitVec 32) (b : Nat → BitVec 8) (i : Nat) : BitVec 32 := s i + rnds s (schF (ld b 16) 48) 64 i

set_option maxHeartbeats 4000000 in
theorem c54l (w : Nat → BitVec 32) (rest : List SV) (d e n : Nat) (b : Nat → BitVec 8) (hn : e + 64 ≤ n) (hro : okL 2 rest) (hrs : storL rest) (K : Tok → SV → List Chunk → Prop)
    (hK : K .mk (.tup []) [.cells true ([.int .u32 (nat (comp w (fun i => b (e + i)) 0)), .int .u32 (nat (comp w (fun i => b (e + i)) 1)), .int .u32 (nat (comp w (fun i => b (e + i)) 2)), .int .u32 (nat (comp w (fun i => b (e + i)) 3)), .int .u32 (nat (comp w (fun i => b (e + i)) 4)), .int .u32 (nat (comp w (fun i => b (e + i)) 5)), .int .u32 (nat (comp w (fun i => b (e + i)) 6)), .int .u32 (nat (comp w (fun i => b (e + i)) 7))] ++ rest), .row false n 1 fun i => .int .u8 (nat (b i))]) :
    callP Try.prog 166 [.ptr 0 0, .osl 1 d e 1 64] [.cells true ([.int .u32 (nat (w 0)), .int .u32 (nat (w 1)), .int .u32 (nat (w 2)), .int .u32 (nat (w 3)), .int .u32 (nat (w 4)), .int .u32 (nat (w 5)), .int .u32 (nat (w 6)), .int .u32 (nat (w 7))] ++ rest), .row false n 1 fun i => .int .u8 (nat (b i))] K := by
  refine callP_of_code tabOk Try.func166 (by kernel_rfl) rfl (Nat.le_of_ble_eq_true rfl) (codeP_of_vc (pl := pl166) tabOk follows_mixed (by kernel_rfl) ?_)
  rw [Try.ntmps166]
  simp -implicitDefEqProofs (maxSteps := 1000000) (disch := omega) only [↓vcB,↓gd,↓opP,↓qv,↓ef,↓bslS,↓stS,↓mkS,↓rangeS,↓nextS,↓entryS,↓delS,↓mupS,↓appS,↓s2bS,↓resS,evB,Sx.look,slot,↓lkL,putS,putO,argsL,↓reduceIte,ofV,of1,lookH,putH,List.replicate,List.append,convS,fldA,nthT,idxA,idxS,fldS,oslN,bnd,slS,unS,valI,lenS,lookS,takeC,parts,asRow,single,rdF,Ent.row,ldS,sz,szL,wrF,bldF,plT,bldS,srcS,nilS,nilEq,mapC,binH,binS2,structS,eqL,eqF,binS,arrS,isI,tupS,stor,storL,Value.oneCell',minS,maxS,capS,Nat.reduceAdd,Nat.reduceSub,Nat.reduceMul,Nat.reduceLT,Nat.reduceLeDiff,Nat.reduceEqDiff,Nat.reduceBEq,Int.reduceToNat,Int.reduceNeg,if_true,if_false,reduceIte,stays,inL,same1,qn,ldN,convN,lenN,cond_true,cond_false,implies_true,Int.reduceEq,Int.reduceNe,Int.reduceLE,Int.reduceLT,forall_eq_or_imp,forall_eq,ne_eq,reduceCtorEq,notInt,numB,tabB,Array.reduceGetElem?,pl166,takeC_zero,liB]
  have hr3 : ∀ r, eqvL rest (rnmL (rg (some 0 :: some 1 :: r)) rest) := fun r => rnmL_fix (n := 2) (fun k hk => by
    rcases k with _ | _ | k
    · rfl
    · rfl
    · omega) rest hro
  have hok3 : ∀ m, 2 ≤ m → okL m rest := fun m h => okL_mono h rest hro
  refine codeP_loop (pl := pl166) tabOk follows_mixed (by kernel_rfl) (fun m s => ∃ (t : Nat) (j : Nat → Value), t + m = 16 ∧ s = ⟨⟨195, [(0, .ptr 0 0), (1, .osl 1 d e 1 64), (4, .ptr 2 0), (17, .int .i64 (t : Nat))], j⟩, [.cells true ([.int .u32 (nat (w 0)), .int .u32 (nat (w 1)), .int .u32 (nat (w 2)), .int .u32 (nat (w 3)), .int .u32 (nat (w 4)), .int .u32 (nat (w 5)), .int .u32 (nat (w 6)), .int .u32 (nat (w 7))] ++ rest), .row false n 1 fun i => .int .u8 (nat (b i)), .cells true [.fam 64 1 fun i => .int .u32 (nat (ld (fun i => b (e + i)) t i))]], []⟩) ?_ ?_
  · refine into_mk [some 0, some 1, some 2] [(0, .ptr 0 0), (1, .osl 1 d e 1 64), (4, .ptr 2 0), (17, .int .i64 0)] [.cells true ([.int .u32 (nat (w 0)), .int .u32 (nat (w 1)), .int .u32 (nat (w 2)), .int .u32 (nat (w 3)), .int .u32 (nat (w 4)), .int .u32 (nat (w 5)), .int .u32 (nat (w 6)), .int .u32 (nat (w 7))] ++ rest), .row false n 1 fun i => .int .u8 (nat (b i)), .cells true [.fam 64 1 fun i => .int .u32 (nat (ld (fun i => b (e + i)) 0 i))]] ?_ ?_ ?_ ?_ ?_ ?_ ?_ ?_
    · simp [slot, lkL, fixed, rg, renH, chEq, lookH, eqvL, eqv, eqvF, rnmL, rnm, liveN, Chunk.live, goodH, Chunk.good, okL, ok, sz, szL, storL, stor, renT, okT]
    · simp [slot, lkL, fixed, rg, renH, chEq, lookH, eqvL, eqv, eqvF, rnmL, rnm, liveN, Chunk.live, goodH, Chunk.good, okL, ok, sz, szL, storL, stor, renT, okT]
    · simp [slot, lkL, fixed, rg, renH, chEq, lookH, eqvL, eqv, eqvF, rnmL, rnm, liveN, Chunk.live, goodH, Chunk.good, okL, ok, sz, szL, storL, stor, renT, okT, hr3, ld, nat]
    · simp [slot, lkL, fixed, rg, renH, chEq, lookH, eqvL, eqv, eqvF, rnmL, rnm, liveN, Chunk.live, goodH, Chunk.good, okL, ok, sz, szL, storL, stor, renT, okT]
    · simp [slot, lkL, fixed, rg, renH, chEq, lookH, eqvL, eqv, eqvF, rnmL, rnm, liveN, Chunk.live, goodH, Chunk.good, okL, ok, sz, szL, storL, stor, renT, okT, hok3, hrs]
    · simp [slot, lkL, fixed, rg, renH, chEq, lookH, eqvL, eqv, eqvF, rnmL, rnm, liveN, Chunk.live, goodH, Chunk.good, okL, ok, sz, szL, storL, stor, renT, okT]
    · simp [slot, lkL, fixed, rg, renH, chEq, lookH, eqvL, eqv, eqvF, rnmL, rnm, liveN, Chunk.live, goodH, Chunk.good, okL, ok, sz, szL, storL, stor, renT, okT]
    · intro j
      exact ⟨16, 0, j, rfl, rfl⟩
  · rintro m s ⟨t, j, ht, rfl⟩
    have a0 : IntKind.i64.wrap (4 * (t : Int)) = ((4 * t : Nat) : Int) := by rw [wrap64 (by omega) (by omega)]; omega
    have a1 : IntKind.i64.wrap (((4 * t : Nat) : Int) + 1) = ((4 * t + 1 : Nat) : Int) := by rw [wrap64 (by omega) (by omega)]; omega
    have a2 : IntKind.i64.wrap (((4 * t : Nat) : Int) + 2) = ((4 * t + 2 : Nat) : Int) := by rw [wrap64 (by omega) (by omega)]; omega
    have a3 : IntKind.i64.wrap (((4 * t : Nat) : Int) + 3) = ((4 * t + 3 : Nat) : Int) := by rw [wrap64 (by omega) (by omega)]; omega
    have a4 : IntKind.i64.wrap ((t : Int) + 1) = ((t + 1 : Nat) : Int) := by rw [wrap64 (by omega) (by omega)]; omega
    simp -implicitDefEqProofs (maxSteps := 1000000) (disch := omega) only [↓vcB,↓gd,↓opP,↓qv,↓ef,↓bslS,↓stS,↓mkS,↓rangeS,↓nextS,↓entryS,↓delS,↓mupS,↓appS,↓s2bS,↓resS,evB,Sx.look,slot,↓lkL,putS,putO,argsL,↓reduceIte,ofV,of1,lookH,putH,List.replicate,List.append,convS,fldA,nthT,idxA,idxS,fldS,oslN,bnd,slS,unS,valI,lenS,lookS,takeC,parts,asRow,single,rdF,Ent.row,ldS,sz,szL,wrF,bldF,plT,bldS,srcS,nilS,nilEq,mapC,binH,binS2,structS,eqL,eqF,binS,arrS,isI,tupS,stor,storL,Value.oneCell',minS,maxS,capS,Nat.reduceAdd,Nat.reduceSub,Nat.reduceMul,Nat.reduceLT,Nat.reduceLeDiff,Nat.reduceEqDiff,Nat.reduceBEq,Int.reduceToNat,Int.reduceNeg,if_true,if_false,reduceIte,stays,inL,same1,qn,ldN,convN,lenN,cond_true,cond_false,implies_true,Int.reduceEq,Int.reduceNe,Int.reduceLE,Int.reduceLT,forall_eq_or_imp,forall_eq,ne_eq,reduceCtorEq,notInt,numB,tabB,↓Array.reduceGetElem?,pl166,takeC_zero,a0,a1,a2,a3,a4,liB]
    refine ⟨Sx.imp_intro fun hc => ?_, Sx.imp_intro fun hc => ?_⟩
    · have ht' : t < 16 := by have := of_decide_eq_true hc; omega
      and_intros <;> try omega
      refine into_mk [some 0, some 1, some 2] [(0, .ptr 0 0), (1, .osl 1 d e 1 64), (4, .ptr 2 0), (17, .int .i64 (t + 1 : Nat))] [.cells true ([.int .u32 (nat (w 0)), .int .u32 (nat (w 1)), .int .u32 (nat (w 2)), .int .u32 (nat (w 3)), .int .u32 (nat (w 4)), .int .u32 (nat (w 5)), .int .u32 (nat (w 6)), .int .u32 (nat (w 7))] ++ rest), .row false n 1 fun i => .int .u8 (nat (b i)), .cells true [.fam 64 1 fun i => .int .u32 (nat (ld (fun i => b (e + i)) (t + 1) i))]] ?_ ?_ ?_ ?_ ?_ ?_ ?_ ?_
      · simp [slot, lkL, fixed, rg, renH, chEq, lookH, eqvL, eqv, eqvF, rnmL, rnm, liveN, Chunk.live, goodH, Chunk.good, okL, ok, sz, szL, storL, stor, renT, okT]
      · simp [slot, lkL, fixed, rg, renH, chEq, lookH, eqvL, eqv, eqvF, rnmL, rnm, liveN, Chunk.live, goodH, Chunk.good, okL, ok, sz, szL, storL, stor, renT, okT]
      · simp [slot, lkL, fixed, rg, renH, chEq, lookH, eqvL, eqv, eqvF, rnmL, rnm, liveN, Chunk.live, goodH, Chunk.good, okL, ok, sz, szL, storL, stor, renT, okT, hr3]
        intro i hi
        by_cases h : i = t
        · subst h
          simp [ld, word, eqv]
        · simp [ld, eqv, h, show (i < t + 1) = (i < t) by simp; omega]
      · simp [slot, lkL, fixed, rg, renH, chEq, lookH, eqvL, eqv, eqvF, rnmL, rnm, liveN, Chunk.live, goodH, Chunk.good, okL, ok, sz, szL, storL, stor, renT, okT]
      · simp [slot, lkL, fixed, rg, renH, chEq, lookH, eqvL, eqv, eqvF, rnmL, rnm, liveN, Chunk.live, goodH, Chunk.good, okL, ok, sz, szL, storL, stor, renT, okT, hok3, hrs]
      · simp [slot, lkL, fixed, rg, renH, chEq, lookH, eqvL, eqv, eqvF, rnmL, rnm, liveN, Chunk.live, goodH, Chunk.good, okL, ok, sz, szL, storL, stor, renT, okT]
      · simp [slot, lkL, fixed, rg, renH, chEq, lookH, eqvL, eqv, eqvF, rnmL, rnm, liveN, Chunk.live, goodH, Chunk.good, okL, ok, sz, szL, storL, stor, renT, okT]
      · intro j
        exact ⟨m - 1, by omega, t + 1, j, by omega, rfl⟩
    · have ht' : t = 16 := by
        have := of_decide_eq_false hc
        omega
      subst ht'
      refine codeP_loop (pl := pl166) tabOk follows_mixed (by kernel_rfl) (fun m s => ∃ (k : Nat) (j : Nat → Value), k + m = 48 ∧ s = ⟨⟨195, [(0, .ptr 0 0), (4, .ptr 2 0), (6, .int .i64 (16 + k : Nat))], j⟩, [.cells true ([.int .u32 (nat (w 0)), .int .u32 (nat (w 1)), .int .u32 (nat (w 2)), .int .u32 (nat (w 3)), .int .u32 (nat (w 4)), .int .u32 (nat (w 5)), .int .u32 (nat (w 6)), .int .u32 (nat (w 7))] ++ rest), .row false n 1 fun i => .int .u8 (nat (b i)), .cells true [.fam 64 1 fun i => .int .u32 (nat (schF (ld (fun i => b (e + i)) 16) k i))]], []⟩) ?_ ?_
      · refine into_mk [some 0, some 1, some 2] [(0, .ptr 0 0), (4, .ptr 2 0), (6, .int .i64 (16 + 0 : Nat))] [.cells true ([.int .u32 (nat (w 0)), .int .u32 (nat (w 1)), .int .u32 (nat (w 2)), .int .u32 (nat (w 3)), .int .u32 (nat (w 4)), .int .u32 (nat (w 5)), .int .u32 (nat (w 6)), .int .u32 (nat (w 7))] ++ rest), .row false n 1 fun i => .int .u8 (nat (b i)), .cells true [.fam 64 1 fun i => .int .u32 (nat (schF (ld (fun i => b (e + i)) 16) 0 i))]] ?_ ?_ ?_ ?_ ?_ ?_ ?_ ?_
        · simp [slot, lkL, fixed, rg, renH, chEq, lookH, eqvL, eqv, eqvF, rnmL, rnm, liveN, Chunk.live, goodH, Chunk.good, okL, ok, sz, szL, storL, stor, renT, okT]
        · simp [slot, lkL, fixed, rg, renH, chEq, lookH, eqvL, eqv, eqvF, rnmL, rnm, liveN, Chunk.live, goodH, Chunk.good, okL, ok, sz, szL, storL, stor, renT, okT]
        · simp [slot, lkL, fixed, rg, renH, chEq, lookH, eqvL, eqv, eqvF, rnmL, rnm, liveN, Chunk.live, goodH, Chunk.good, okL, ok, sz, szL, storL, stor, renT, okT, hr3, schF]
        · simp [slot, lkL, fixed, rg, renH, chEq, lookH, eqvL, eqv, eqvF, rnmL, rnm, liveN, Chunk.live, goodH, Chunk.good, okL, ok, sz, szL, storL, stor, renT, okT]
        · simp [slot, lkL, fixed, rg, renH, chEq, lookH, eqvL, eqv, eqvF, rnmL, rnm, liveN, Chunk.live, goodH, Chunk.good, okL, ok, sz, szL, storL, stor, renT, okT, hok3, hrs]
        · simp [slot, lkL, fixed, rg, renH, chEq, lookH, eqvL, eqv, eqvF, rnmL, rnm, liveN, Chunk.live, goodH, Chunk.good, okL, ok, sz, szL, storL, stor, renT, okT]
        · simp [slot, lkL, fixed, rg, renH, chEq, lookH, eqvL, eqv, eqvF, rnmL, rnm, liveN, Chunk.live, goodH, Chunk.good, okL, ok, sz, szL, storL, stor, renT, okT]
        · intro j
          exact ⟨48, 0, j, rfl, rfl⟩
      · rintro m2 s ⟨k, j, hk, rfl⟩
        have b0 : IntKind.i64.wrap (((16 + k : Nat) : Int) - 15) = ((k + 1 : Nat) : Int) := by rw [wrap64 (by omega) (by omega)]; omega
        have b1 : IntKind.i64.wrap (((16 + k : Nat) : Int) - 2) = ((k + 14 : Nat) : Int) := by rw [wrap64 (by omega) (by omega)]; omega
        have b2 : IntKind.i64.wrap (((16 + k : Nat) : Int) - 16) = ((k : Nat) : Int) := by rw [wrap64 (by omega) (by omega)]; omega
        have b3 : IntKind.i64.wrap (((16 + k : Nat) : Int) - 7) = ((k + 9 : Nat) : Int) := by rw [wrap64 (by omega) (by omega)]; omega
        have b4 : IntKind.i64.wrap (((16 + k : Nat) : Int) + 1) = ((16 + (k + 1) : Nat) : Int) := by rw [wrap64 (by omega) (by omega)]; omega
        simp -implicitDefEqProofs (maxSteps := 1000000) (disch := omega) only [↓vcB,↓gd,↓opP,↓qv,↓ef,↓bslS,↓stS,↓mkS,↓rangeS,↓nextS,↓entryS,↓delS,↓mupS,↓appS,↓s2bS,↓resS,evB,Sx.look,slot,↓lkL,putS,putO,argsL,↓reduceIte,ofV,of1,lookH,putH,List.replicate,List.append,convS,fldA,nthT,idxA,idxS,fldS,oslN,bnd,slS,unS,valI,lenS,lookS,takeC,parts,asRow,single,rdF,Ent.row,ldS,sz,szL,wrF,bldF,plT,bldS,srcS,nilS,nilEq,mapC,binH,binS2,structS,eqL,eqF,binS,arrS,isI,tupS,stor,storL,Value.oneCell',minS,maxS,capS,Nat.reduceAdd,Nat.reduceSub,Nat.reduceMul,Nat.reduceLT,Nat.reduceLeDiff,Nat.reduceEqDiff,Nat.reduceBEq,Int.reduceToNat,Int.reduceNeg,if_true,if_false,reduceIte,stays,inL,same1,qn,ldN,convN,lenN,cond_true,cond_false,implies_true,Int.reduceEq,Int.reduceNe,Int.reduceLE,Int.reduceLT,forall_eq_or_imp,forall_eq,ne_eq,reduceCtorEq,notInt,numB,tabB,↓Array.reduceGetElem?,pl166,takeC_zero,b0,b1,b2,b3,b4,liB]
        refine ⟨Sx.imp_intro fun hc => ?_, Sx.imp_intro fun hc => ?_⟩
        · have hk' : k < 48 := by have := of_decide_eq_true hc; omega
          and_intros <;> try omega
          refine c67 _ _ 7 rfl rfl (by decide) _ _ ?_
          simp -implicitDefEqProofs (maxSteps := 1000000) (disch := omega) only [↓vcB,↓gd,↓opP,↓qv,↓ef,↓bslS,↓stS,↓mkS,↓rangeS,↓nextS,↓entryS,↓delS,↓mupS,↓appS,↓s2bS,↓resS,evB,Sx.look,slot,↓lkL,putS,putO,argsL,↓reduceIte,ofV,of1,lookH,putH,List.replicate,List.append,convS,fldA,nthT,idxA,idxS,fldS,oslN,bnd,slS,unS,valI,lenS,lookS,takeC,parts,asRow,single,rdF,Ent.row,ldS,sz,szL,wrF,bldF,plT,bldS,srcS,nilS,nilEq,mapC,binH,binS2,structS,eqL,eqF,binS,arrS,isI,tupS,stor,storL,Value.oneCell',minS,maxS,capS,Nat.reduceAdd,Nat.reduceSub,Nat.reduceMul,Nat.reduceLT,Nat.reduceLeDiff,Nat.reduceEqDiff,Nat.reduceBEq,Int.reduceToNat,Int.reduceNeg,if_true,if_false,reduceIte,stays,inL,same1,qn,ldN,convN,lenN,cond_true,cond_false,implies_true,Int.reduceEq,Int.reduceNe,Int.reduceLE,Int.reduceLT,forall_eq_or_imp,forall_eq,ne_eq,reduceCtorEq,notInt,numB,tabB,↓Array.reduceGetElem?,pl166,takeC_zero,b0,b1,b2,b3,b4,liB]
          refine c67 _ _ 18 rfl rfl (by decide) _ _ ?_
          simp -implicitDefEqProofs (maxSteps := 1000000) (disch := omega) only [↓vcB,↓gd,↓opP,↓qv,↓ef,↓bslS,↓stS,↓mkS,↓rangeS,↓nextS,↓entryS,↓delS,↓mupS,↓appS,↓s2bS,↓resS,evB,Sx.look,slot,↓lkL,putS,putO,argsL,↓reduceIte,ofV,of1,lookH,putH,List.replicate,List.append,convS,fldA,nthT,idxA,idxS,fldS,oslN,bnd,slS,unS,valI,lenS,lookS,takeC,parts,asRow,single,rdF,Ent.row,ldS,sz,szL,wrF,bldF,plT,bldS,srcS,nilS,nilEq,mapC,binH,binS2,structS,eqL,eqF,binS,arrS,isI,tupS,stor,storL,Value.oneCell',minS,maxS,capS,Nat.reduceAdd,Nat.reduceSub,Nat.reduceMul,Nat.reduceLT,Nat.reduceLeDiff,Nat.reduceEqDiff,Nat.reduceBEq,Int.reduceToNat,Int.reduceNeg,if_true,if_false,reduceIte,stays,inL,same1,qn,ldN,convN,lenN,cond_true,cond_false,implies_true,Int.reduceEq,Int.reduceNe,Int.reduceLE,Int.reduceLT,forall_eq_or_imp,forall_eq,ne_eq,reduceCtorEq,notInt,numB,tabB,↓Array.reduceGetElem?,pl166,takeC_zero,b0,b1,b2,b3,b4,liB]
          and_intros <;> try omega
          refine c67 _ _ 17 rfl rfl (by decide) _ _ ?_
          simp -implicitDefEqProofs (maxSteps := 1000000) (disch := omega) only [↓vcB,↓gd,↓opP,↓qv,↓ef,↓bslS,↓stS,↓mkS,↓rangeS,↓nextS,↓entryS,↓delS,↓mupS,↓appS,↓s2bS,↓resS,evB,Sx.look,slot,↓lkL,putS,putO,argsL,↓reduceIte,ofV,of1,lookH,putH,List.replicate,List.append,convS,fldA,nthT,idxA,idxS,fldS,oslN,bnd,slS,unS,valI,lenS,lookS,takeC,parts,asRow,single,rdF,Ent.row,ldS,sz,szL,wrF,bldF,plT,bldS,srcS,nilS,nilEq,mapC,binH,binS2,structS,eqL,eqF,binS,arrS,isI,tupS,stor,storL,Value.oneCell',minS,maxS,capS,Nat.reduceAdd,Nat.reduceSub,Nat.reduceMul,Nat.reduceLT,Nat.reduceLeDiff,Nat.reduceEqDiff,Nat.reduceBEq,Int.reduceToNat,Int.reduceNeg,if_true,if_false,reduceIte,stays,inL,same1,qn,ldN,convN,lenN,cond_true,cond_false,implies_true,Int.reduceEq,Int.reduceNe,Int.reduceLE,Int.reduceLT,forall_eq_or_imp,forall_eq,ne_eq,reduceCtorEq,notInt,numB,tabB,↓Array.reduceGetElem?,pl166,takeC_zero,b0,b1,b2,b3,b4,liB]
          refine c67 _ _ 19 rfl rfl (by decide) _ _ ?_
          simp -implicitDefEqProofs (maxSteps := 1000000) (disch := omega) only [↓vcB,↓gd,↓opP,↓qv,↓ef,↓bslS,↓stS,↓mkS,↓rangeS,↓nextS,↓entryS,↓delS,↓mupS,↓appS,↓s2bS,↓resS,evB,Sx.look,slot,↓lkL,putS,putO,argsL,↓reduceIte,ofV,of1,lookH,putH,List.replicate,List.append,convS,fldA,nthT,idxA,idxS,fldS,oslN,bnd,slS,unS,valI,lenS,lookS,takeC,parts,asRow,single,rdF,Ent.row,ldS,sz,szL,wrF,bldF,plT,bldS,srcS,nilS,nilEq,mapC,binH,binS2,structS,eqL,eqF,binS,arrS,isI,tupS,stor,storL,Value.oneCell',minS,maxS,capS,Nat.reduceAdd,Nat.reduceSub,Nat.reduceMul,Nat.reduceLT,Nat.reduceLeDiff,Nat.reduceEqDiff,Nat.reduceBEq,Int.reduceToNat,Int.reduceNeg,if_true,if_false,reduceIte,stays,inL,same1,qn,ldN,convN,lenN,cond_true,cond_false,implies_true,Int.reduceEq,Int.reduceNe,Int.reduceLE,Int.reduceLT,forall_eq_or_imp,forall_eq,ne_eq,reduceCtorEq,notInt,numB,tabB,↓Array.reduceGetElem?,pl166,takeC_zero,b0,b1,b2,b3,b4,liB]
          and_intros <;> try omega
          refine into_mk [some 0, some 1, some 2] [(0, .ptr 0 0), (4, .ptr 2 0), (6, .int .i64 (16 + (k + 1) : Nat))] [.cells true ([.int .u32 (nat (w 0)), .int .u32 (nat (w 1)), .int .u32 (nat (w 2)), .int .u32 (nat (w 3)), .int .u32 (nat (w 4)), .int .u32 (nat (w 5)), .int .u32 (nat (w 6)), .int .u32 (nat (w 7))] ++ rest), .row false n 1 fun i => .int .u8 (nat (b i)), .cells true [.fam 64 1 fun i => .int .u32 (nat (schF (ld (fun i => b (e + i)) 16) (k + 1) i))]] ?_ ?_ ?_ ?_ ?_ ?_ ?_ ?_
          · simp [slot, lkL, fixed, rg, renH, chEq, lookH, eqvL, eqv, eqvF, rnmL, rnm, liveN, Chunk.live, goodH, Chunk.good, okL, ok, sz, szL, storL, stor, renT, okT]
          · simp [slot, lkL, fixed, rg, renH, chEq, lookH, eqvL, eqv, eqvF, rnmL, rnm, liveN, Chunk.live, goodH, Chunk.good, okL, ok, sz, szL, storL, stor, renT, okT]
          · simp [slot, lkL, fixed, rg, renH, chEq, lookH, eqvL, eqv, eqvF, rnmL, rnm, liveN, Chunk.live, goodH, Chunk.good, okL, ok, sz, szL, storL, stor, renT, okT, hr3]
            intro i hi
            by_cases h : i = 16 + k
            · subst h
              simp [schF, sch, eqv, show 16 + k - 15 = k + 1 by omega, show 16 + k - 7 = k + 9 by omega, show 16 + k - 2 = k + 14 by omega]
            · simp [schF, eqv, h]
          · simp [slot, lkL, fixed, rg, renH, chEq, lookH, eqvL, eqv, eqvF, rnmL, rnm, liveN, Chunk.live, goodH, Chunk.good, okL, ok, sz, szL, storL, stor, renT, okT]
          · simp [slot, lkL, fixed, rg, renH, chEq, lookH, eqvL, eqv, eqvF, rnmL, rnm, liveN, Chunk.live, goodH, Chunk.good, okL, ok, sz, szL, storL, stor, renT, okT, hok3, hrs]
          · simp [slot, lkL, fixed, rg, renH, chEq, lookH, eqvL, eqv, eqvF, rnmL, rnm, liveN, Chunk.live, goodH, Chunk.good, okL, ok, sz, szL, storL, stor, renT, okT]
          · simp [slot, lkL, fixed, rg, renH, chEq, lookH, eqvL, eqv, eqvF, rnmL, rnm, liveN, Chunk.live, goodH, Chunk.good, okL, ok, sz, szL, storL, stor, renT, okT]
          · intro j
            exact ⟨m2 - 1, by omega, k + 1, j, by omega, rfl⟩
        · have hk' : k = 48 := by
            have := of_decide_eq_false hc
            omega
          subst hk'
          refine c68 _ _ ?_
          simp -implicitDefEqProofs (maxSteps := 1000000) (disch := omega) only [↓vcB,↓gd,↓opP,↓qv,↓ef,↓bslS,↓stS,↓mkS,↓rangeS,↓nextS,↓entryS,↓delS,↓mupS,↓appS,↓s2bS,↓resS,evB,Sx.look,slot,↓lkL,putS,putO,argsL,↓reduceIte,ofV,of1,lookH,putH,List.replicate,List.append,convS,fldA,nthT,idxA,idxS,fldS,oslN,bnd,slS,unS,valI,lenS,lookS,takeC,parts,asRow,single,rdF,Ent.row,ldS,sz,szL,wrF,bldF,plT,bldS,srcS,nilS,nilEq,mapC,binH,binS2,structS,eqL,eqF,binS,arrS,isI,tupS,stor,storL,Value.oneCell',minS,maxS,capS,Nat.reduceAdd,Nat.reduceSub,Nat.reduceMul,Nat.reduceLT,Nat.reduceLeDiff,Nat.reduceEqDiff,Nat.reduceBEq,Int.reduceToNat,Int.reduceNeg,if_true,if_false,reduceIte,stays,inL,same1,qn,ldN,convN,lenN,cond_true,cond_false,implies_true,Int.reduceEq,Int.reduceNe,Int.reduceLE,Int.reduceLT,forall_eq_or_imp,forall_eq,ne_eq,reduceCtorEq,notInt,numB,tabB,↓Array.reduceGetElem?,pl166,takeC_zero,liB]
          obtain ⟨W, hW⟩ : ∃ W, W = schF (ld (fun i => b (e + i)) 16) 48 := ⟨_, rfl⟩
          rw [← hW]
          refine codeP_loop (pl := pl166) tabOk follows_mixed (by kernel_rfl) (fun m s => ∃ (t : Nat) (j : Nat → Value), t + m = 64 ∧ s = ⟨⟨195, [(0, .ptr 0 0), (4, .ptr 2 0), (9, .ptr 3 0), (100, .fam 64 1 fun i => .int .u32 (nat (rootK i))), (101, .int .i64 (t : Nat))], j⟩, [.cells true ([.int .u32 (nat (w 0)), .int .u32 (nat (w 1)), .int .u32 (nat (w 2)), .int .u32 (nat (w 3)), .int .u32 (nat (w 4)), .int .u32 (nat (w 5)), .int .u32 (nat (w 6)), .int .u32 (nat (w 7))] ++ rest), .row false n 1 fun i => .int .u8 (nat (b i)), .cells true [.fam 64 1 fun i => .int .u32 (nat (W i))], .cells true [.int .u32 (nat (rnds w W t 0)), .int .u32 (nat (rnds w W t 1)), .int .u32 (nat (rnds w W t 2)), .int .u32 (nat (rnds w W t 3)), .int .u32 (nat (rnds w W t 4)), .int .u32 (nat (rnds w W t 5)), .int .u32 (nat (rnds w W t 6)), .int .u32 (nat (rnds w W t 7))]], []⟩) ?_ ?_
          · refine into_mk [some 0, some 1, some 2, some 3] [(0, .ptr 0 0), (4, .ptr 2 0), (9, .ptr 3 0), (100, .fam 64 1 fun i => .int .u32 (nat (rootK i))), (101, .int .i64 (0 : Nat))] [.cells true ([.int .u32 (nat (w 0)), .int .u32 (nat (w 1)), .int .u32 (nat (w 2)), .int .u32 (nat (w 3)), .int .u32 (nat (w 4)), .int .u32 (nat (w 5)), .int .u32 (nat (w 6)), .int .u32 (nat (w 7))] ++ rest), .row false n 1 fun i => .int .u8 (nat (b i)), .cells true [.fam 64 1 fun i => .int .u32 (nat (W i))], .cells true [.int .u32 (nat (rnds w W 0 0)), .int .u32 (nat (rnds w W 0 1)), .int .u32 (nat (rnds w W 0 2)), .int .u32 (nat (rnds w W 0 3)), .int .u32 (nat (rnds w W 0 4)), .int .u32 (nat (rnds w W 0 5)), .int .u32 (nat (rnds w W 0 6)), .int .u32 (nat (rnds w W 0 7))]] ?_ ?_ ?_ ?_ ?_ ?_ ?_ ?_
            · simp [slot, lkL, fixed, rg, renH, chEq, lookH, eqvL, eqv, eqvF, rnmL, rnm, liveN, Chunk.live, goodH, Chunk.good, okL, ok, sz, szL, storL, stor, renT, okT]
            · simp [slot, lkL, fixed, rg, renH, chEq, lookH, eqvL, eqv, eqvF, rnmL, rnm, liveN, Chunk.live, goodH, Chunk.good, okL, ok, sz, szL, storL, stor, renT, okT]
            · simp [slot, lkL, fixed, rg, renH, chEq, lookH, eqvL, eqv, eqvF, rnmL, rnm, liveN, Chunk.live, goodH, Chunk.good, okL, ok, sz, szL, storL, stor, renT, okT, hr3, rnds]
            · simp [slot, lkL, fixed, rg, renH, chEq, lookH, eqvL, eqv, eqvF, rnmL, rnm, liveN, Chunk.live, goodH, Chunk.good, okL, ok, sz, szL, storL, stor, renT, okT]
            · simp [slot, lkL, fixed, rg, renH, chEq, lookH, eqvL, eqv, eqvF, rnmL, rnm, liveN, Chunk.live, goodH, Chunk.good, okL, ok, sz, szL, storL, stor, renT, okT, hok3, hrs]
            · simp [slot, lkL, fixed, rg, renH, chEq, lookH, eqvL, eqv, eqvF, rnmL, rnm, liveN, Chunk.live, goodH, Chunk.good, okL, ok, sz, szL, storL, stor, renT, okT]
            · simp [slot, lkL, fixed, rg, renH, chEq, lookH, eqvL, eqv, eqvF, rnmL, rnm, liveN, Chunk.live, goodH, Chunk.good, okL, ok, sz, szL, storL, stor, renT, okT]
            · intro j
              exact ⟨64, 0, j, rfl, rfl⟩
          · rintro m3 s ⟨t, j, ht, rfl⟩
            have d0 : IntKind.i64.wrap ((t : Int) + 1) = ((t + 1 : Nat) : Int) := by rw [wrap64 (by omega) (by omega)]; omega
            simp -implicitDefEqProofs (maxSteps := 1000000) (disch := omega) only [↓vcB,↓gd,↓opP,↓qv,↓ef,↓bslS,↓stS,↓mkS,↓rangeS,↓nextS,↓entryS,↓delS,↓mupS,↓appS,↓s2bS,↓resS,evB,Sx.look,slot,↓lkL,putS,putO,argsL,↓reduceIte,ofV,of1,lookH,putH,List.replicate,List.append,convS,fldA,nthT,idxA,idxS,fldS,oslN,bnd,slS,unS,valI,lenS,lookS,takeC,parts,asRow,single,rdF,Ent.row,ldS,sz,szL,wrF,bldF,plT,bldS,srcS,nilS,nilEq,mapC,binH,binS2,structS,eqL,eqF,binS,arrS,isI,tupS,stor,storL,Value.oneCell',minS,maxS,capS,Nat.reduceAdd,Nat.reduceSub,Nat.reduceMul,Nat.reduceLT,Nat.reduceLeDiff,Nat.reduceEqDiff,Nat.reduceBEq,Int.reduceToNat,Int.reduceNeg,if_true,if_false,reduceIte,stays,inL,same1,qn,ldN,convN,lenN,cond_true,cond_false,implies_true,Int.reduceEq,Int.reduceNe,Int.reduceLE,Int.reduceLT,forall_eq_or_imp,forall_eq,ne_eq,reduceCtorEq,notInt,numB,tabB,↓Array.reduceGetElem?,pl166,takeC_zero,d0,liB]
            refine ⟨Sx.imp_intro fun hc => ?_, Sx.imp_intro fun hc => ?_⟩
            · have ht' : t < 64 := by have := of_decide_eq_true hc; omega
              and_intros <;> try omega
              refine c67 _ _ 6 rfl rfl (by decide) _ _ ?_
              simp -implicitDefEqProofs (maxSteps := 1000000) (disch := omega) only [↓vcB,↓gd,↓opP,↓qv,↓ef,↓bslS,↓stS,↓mkS,↓rangeS,↓nextS,↓entryS,↓delS,↓mupS,↓appS,↓s2bS,↓resS,evB,Sx.look,slot,↓lkL,putS,putO,argsL,↓reduceIte,ofV,of1,lookH,putH,List.replicate,List.append,convS,fldA,nthT,idxA,idxS,fldS,oslN,bnd,slS,unS,valI,lenS,lookS,takeC,parts,asRow,single,rdF,Ent.row,ldS,sz,szL,wrF,bldF,plT,bldS,srcS,nilS,nilEq,mapC,binH,binS2,structS,eqL,eqF,binS,arrS,isI,tupS,stor,storL,Value.oneCell',minS,maxS,capS,Nat.reduceAdd,Nat.reduceSub,Nat.reduceMul,Nat.reduceLT,Nat.reduceLeDiff,Nat.reduceEqDiff,Nat.reduceBEq,Int.reduceToNat,Int.reduceNeg,if_true,if_false,reduceIte,stays,inL,same1,qn,ldN,convN,lenN,cond_true,cond_false,implies_true,Int.reduceEq,Int.reduceNe,Int.reduceLE,Int.reduceLT,forall_eq_or_imp,forall_eq,ne_eq,reduceCtorEq,notInt,numB,tabB,↓Array.reduceGetElem?,pl166,takeC_zero,d0,liB]
              refine c67 _ _ 11 rfl rfl (by decide) _ _ ?_
              simp -implicitDefEqProofs (maxSteps := 1000000) (disch := omega) only [↓vcB,↓gd,↓opP,↓qv,↓ef,↓bslS,↓stS,↓mkS,↓rangeS,↓nextS,↓entryS,↓delS,↓mupS,↓appS,↓s2bS,↓resS,evB,Sx.look,slot,↓lkL,putS,putO,argsL,↓reduceIte,ofV,of1,lookH,putH,List.replicate,List.append,convS,fldA,nthT,idxA,idxS,fldS,oslN,bnd,slS,unS,valI,lenS,lookS,takeC,parts,asRow,single,rdF,Ent.row,ldS,sz,szL,wrF,bldF,plT,bldS,srcS,nilS,nilEq,mapC,binH,binS2,structS,eqL,eqF,binS,arrS,isI,tupS,stor,storL,Value.oneCell',minS,maxS,capS,Nat.reduceAdd,Nat.reduceSub,Nat.reduceMul,Nat.reduceLT,Nat.reduceLeDiff,Nat.reduceEqDiff,Nat.reduceBEq,Int.reduceToNat,Int.reduceNeg,if_true,if_false,reduceIte,stays,inL,same1,qn,ldN,convN,lenN,cond_true,cond_false,implies_true,Int.reduceEq,Int.reduceNe,Int.reduceLE,Int.reduceLT,forall_eq_or_imp,forall_eq,ne_eq,reduceCtorEq,notInt,numB,tabB,↓Array.reduceGetElem?,pl166,takeC_zero,d0,liB]
              refine c67 _ _ 25 rfl rfl (by decide) _ _ ?_
              simp -implicitDefEqProofs (maxSteps := 1000000) (disch := omega) only [↓vcB,↓gd,↓opP,↓qv,↓ef,↓bslS,↓stS,↓mkS,↓rangeS,↓nextS,↓entryS,↓delS,↓mupS,↓appS,↓s2bS,↓resS,evB,Sx.look,slot,↓lkL,putS,putO,argsL,↓reduceIte,ofV,of1,lookH,putH,List.replicate,List.append,convS,fldA,nthT,idxA,idxS,fldS,oslN,bnd,slS,unS,valI,lenS,lookS,takeC,parts,asRow,single,rdF,Ent.row,ldS,sz,szL,wrF,bldF,plT,bldS,srcS,nilS,nilEq,mapC,binH,binS2,structS,eqL,eqF,binS,arrS,isI,tupS,stor,storL,Value.oneCell',minS,maxS,capS,Nat.reduceAdd,Nat.reduceSub,Nat.reduceMul,Nat.reduceLT,Nat.reduceLeDiff,Nat.reduceEqDiff,Nat.reduceBEq,Int.reduceToNat,Int.reduceNeg,if_true,if_false,reduceIte,stays,inL,same1,qn,ldN,convN,lenN,cond_true,cond_false,implies_true,Int.reduceEq,Int.reduceNe,Int.reduceLE,Int.reduceLT,forall_eq_or_imp,forall_eq,ne_eq,reduceCtorEq,notInt,numB,tabB,↓Array.reduceGetElem?,pl166,takeC_zero,d0,liB]
              and_intros <;> try omega
              refine c67 _ _ 2 rfl rfl (by decide) _ _ ?_
              simp -implicitDefEqProofs (maxSteps := 1000000) (disch := omega) only [↓vcB,↓gd,↓opP,↓qv,↓ef,↓bslS,↓stS,↓mkS,↓rangeS,↓nextS,↓entryS,↓delS,↓mupS,↓appS,↓s2bS,↓resS,evB,Sx.look,slot,↓lkL,putS,putO,argsL,↓reduceIte,ofV,of1,lookH,putH,List.replicate,List.append,convS,fldA,nthT,idxA,idxS,fldS,oslN,bnd,slS,unS,valI,lenS,lookS,takeC,parts,asRow,single,rdF,Ent.row,ldS,sz,szL,wrF,bldF,plT,bldS,srcS,nilS,nilEq,mapC,binH,binS2,structS,eqL,eqF,binS,arrS,isI,tupS,stor,storL,Value.oneCell',minS,maxS,capS,Nat.reduceAdd,Nat.reduceSub,Nat.reduceMul,Nat.reduceLT,Nat.reduceLeDiff,Nat.reduceEqDiff,Nat.reduceBEq,Int.reduceToNat,Int.reduceNeg,if_true,if_false,reduceIte,stays,inL,same1,qn,ldN,convN,lenN,cond_true,cond_false,implies_true,Int.reduceEq,Int.reduceNe,Int.reduceLE,Int.reduceLT,forall_eq_or_imp,forall_eq,ne_eq,reduceCtorEq,notInt,numB,tabB,↓Array.reduceGetElem?,pl166,takeC_zero,d0,liB]
              refine c67 _ _ 13 rfl rfl (by decide) _ _ ?_
              simp -implicitDefEqProofs (maxSteps := 1000000) (disch := omega) only [↓vcB,↓gd,↓opP,↓qv,↓ef,↓bslS,↓stS,↓mkS,↓rangeS,↓nextS,↓entryS,↓delS,↓mupS,↓appS,↓s2bS,↓resS,evB,Sx.look,slot,↓lkL,putS,putO,argsL,↓reduceIte,ofV,of1,lookH,putH,List.replicate,List.append,convS,fldA,nthT,idxA,idxS,fldS,oslN,bnd,slS,unS,valI,lenS,lookS,takeC,parts,asRow,single,rdF,Ent.row,ldS,sz,szL,wrF,bldF,plT,bldS,srcS,nilS,nilEq,mapC,binH,binS2,structS,eqL,eqF,binS,arrS,isI,tupS,stor,storL,Value.oneCell',minS,maxS,capS,Nat.reduceAdd,Nat.reduceSub,Nat.reduceMul,Nat.reduceLT,Nat.reduceLeDiff,Nat.reduceEqDiff,Nat.reduceBEq,Int.reduceToNat,Int.reduceNeg,if_true,if_false,reduceIte,stays,inL,same1,qn,ldN,convN,lenN,cond_true,cond_false,implies_true,Int.reduceEq,Int.reduceNe,Int.reduceLE,Int.reduceLT,forall_eq_or_imp,forall_eq,ne_eq,reduceCtorEq,notInt,numB,tabB,↓Array.reduceGetElem?,pl166,takeC_zero,d0,liB]
              refine c67 _ _ 22 rfl rfl (by decide) _ _ ?_
              simp -implicitDefEqProofs (maxSteps := 1000000) (disch := omega) only [↓vcB,↓gd,↓opP,↓qv,↓ef,↓bslS,↓stS,↓mkS,↓rangeS,↓nextS,↓entryS,↓delS,↓mupS,↓appS,↓s2bS,↓resS,evB,Sx.look,slot,↓lkL,putS,putO,argsL,↓reduceIte,ofV,of1,lookH,putH,List.replicate,List.append,convS,fldA,nthT,idxA,idxS,fldS,oslN,bnd,slS,unS,valI,lenS,lookS,takeC,parts,asRow,single,rdF,Ent.row,ldS,sz,szL,wrF,bldF,plT,bldS,srcS,nilS,nilEq,mapC,binH,binS2,structS,eqL,eqF,binS,arrS,isI,tupS,stor,storL,Value.oneCell',minS,maxS,capS,Nat.reduceAdd,Nat.reduceSub,Nat.reduceMul,Nat.reduceLT,Nat.reduceLeDiff,Nat.reduceEqDiff,Nat.reduceBEq,Int.reduceToNat,Int.reduceNeg,if_true,if_false,reduceIte,stays,inL,same1,qn,ldN,convN,lenN,cond_true,cond_false,implies_true,Int.reduceEq,Int.reduceNe,Int.reduceLE,Int.reduceLT,forall_eq_or_imp,forall_eq,ne_eq,reduceCtorEq,notInt,numB,tabB,↓Array.reduceGetElem?,pl166,takeC_zero,d0,liB]
              and_intros <;> try omega
              refine into_mk [some 0, some 1, some 2, some 3] [(0, .ptr 0 0), (4, .ptr 2 0), (9, .ptr 3 0), (100, .fam 64 1 fun i => .int .u32 (nat (rootK i))), (101, .int .i64 (t + 1 : Nat))] [.cells true ([.int .u32 (nat (w 0)), .int .u32 (nat (w 1)), .int .u32 (nat (w 2)), .int .u32 (nat (w 3)), .int .u32 (nat (w 4)), .int .u32 (nat (w 5)), .int .u32 (nat (w 6)), .int .u32 (nat (w 7))] ++ rest), .row false n 1 fun i => .int .u8 (nat (b i)), .cells true [.fam 64 1 fun i => .int .u32 (nat (W i))], .cells true [.int .u32 (nat (rnds w W (t + 1) 0)), .int .u32 (nat (rnds w W (t + 1) 1)), .int .u32 (nat (rnds w W (t + 1) 2)), .int .u32 (nat (rnds w W (t + 1) 3)), .int .u32 (nat (rnds w W (t + 1) 4)), .int .u32 (nat (rnds w W (t + 1) 5)), .int .u32 (nat (rnds w W (t + 1) 6)), .int .u32 (nat (rnds w W (t + 1) 7))]] ?_ ?_ ?_ ?_ ?_ ?_ ?_ ?_
              · simp [slot, lkL, fixed, rg, renH, chEq, lookH, eqvL, eqv, eqvF, rnmL, rnm, liveN, Chunk.live, goodH, Chunk.good, okL, ok, sz, szL, storL, stor, renT, okT]
              · simp [slot, lkL, fixed, rg, renH, chEq, lookH, eqvL, eqv, eqvF, rnmL, rnm, liveN, Chunk.live, goodH, Chunk.good, okL, ok, sz, szL, storL, stor, renT, okT]
              · simp [slot, lkL, fixed, rg, renH, chEq, lookH, eqvL, eqv, eqvF, rnmL, rnm, liveN, Chunk.live, goodH, Chunk.good, okL, ok, sz, szL, storL, stor, renT, okT, hr3, rnds, rnd]
              · simp [slot, lkL, fixed, rg, renH, chEq, lookH, eqvL, eqv, eqvF, rnmL, rnm, liveN, Chunk.live, goodH, Chunk.good, okL, ok, sz, szL, storL, stor, renT, okT]
              · simp [slot, lkL, fixed, rg, renH, chEq, lookH, eqvL, eqv, eqvF, rnmL, rnm, liveN, Chunk.live, goodH, Chunk.good, okL, ok, sz, szL, storL, stor, renT, okT, hok3, hrs]
              · simp [slot, lkL, fixed, rg, renH, chEq, lookH, eqvL, eqv, eqvF, rnmL, rnm, liveN, Chunk.live, goodH, Chunk.good, okL, ok, sz, szL, storL, stor, renT, okT]
              · simp [slot, lkL, fixed, rg, renH, chEq, lookH, eqvL, eqv, eqvF, rnmL, rnm, liveN, Chunk.live, goodH, Chunk.good, okL, ok, sz, szL, storL, stor, renT, okT]
              · intro j
                exact ⟨m3 - 1, by omega, t + 1, j, by omega, rfl⟩
            · have ht' : t = 64 := by
                have := of_decide_eq_false hc
                omega
              subst ht'
              refine codeP_rounds tabOk follows_mixed (pl := pl166) (by kernel_rfl) 9 ?_
              simp -implicitDefEqProofs (maxSteps := 1000000) (disch := omega) only [↓vcB,↓gd,↓opP,↓qv,↓ef,↓bslS,↓stS,↓mkS,↓rangeS,↓nextS,↓entryS,↓delS,↓mupS,↓appS,↓s2bS,↓resS,evB,Sx.look,slot,↓lkL,putS,putO,argsL,↓reduceIte,ofV,of1,lookH,putH,List.replicate,List.append,convS,fldA,nthT,idxA,idxS,fldS,oslN,bnd,slS,unS,valI,lenS,lookS,takeC,parts,asRow,single,rdF,Ent.row,ldS,sz,szL,wrF,bldF,plT,bldS,srcS,nilS,nilEq,mapC,binH,binS2,structS,eqL,eqF,binS,arrS,isI,tupS,stor,storL,Value.oneCell',minS,maxS,capS,Nat.reduceAdd,Nat.reduceSub,Nat.reduceMul,Nat.reduceLT,Nat.reduceLeDiff,Nat.reduceEqDiff,Nat.reduceBEq,Int.reduceToNat,Int.reduceNeg,if_true,if_false,reduceIte,stays,inL,same1,qn,ldN,convN,lenN,cond_true,cond_false,implies_true,Int.reduceEq,Int.reduceNe,Int.reduceLE,Int.reduceLT,forall_eq_or_imp,forall_eq,ne_eq,reduceCtorEq,notInt,numB,tabB,↓Array.reduceGetElem?,pl166,takeC_zero,wrap64,Int.reduceAdd,liB]
              subst hW
              and_intros <;> try omega
              refine intoR_mk [some 0, some 1] (.tup []) [.cells true ([.int .u32 (nat (comp w (fun i => b (e + i)) 0)), .int .u32 (nat (comp w (fun i => b (e + i)) 1)), .int .u32 (nat (comp w (fun i => b (e + i)) 2)), .int .u32 (nat (comp w (fun i => b (e + i)) 3)), .int .u32 (nat (comp w (fun i => b (e + i)) 4)), .int .u32 (nat (comp w (fun i => b (e + i)) 5)), .int .u32 (nat (comp w (fun i => b (e + i)) 6)), .int .u32 (nat (comp w (fun i => b (e + i)) 7))] ++ rest), .row false n 1 fun i => .int .u8 (nat (b i))] ?_ ?_ ?_ ?_ ?_ ?_ ?_ hK
              · simp [slot, lkL, fixed, rg, renH, chEq, lookH, eqvL, eqv, eqvF, rnmL, rnm, liveN, Chunk.live, goodH, Chunk.good, okL, ok, sz, szL, storL, stor, renT, okT]
              · simp [slot, lkL, fixed, rg, renH, chEq, lookH, eqvL, eqv, eqvF, rnmL, rnm, liveN, Chunk.live, goodH, Chunk.good, okL, ok, sz, szL, storL, stor, renT, okT]
              · simp [slot, lkL, fixed, rg, renH, chEq, lookH, eqvL, eqv, eqvF, rnmL, rnm, liveN, Chunk.live, goodH, Chunk.good, okL, ok, sz, szL, storL, stor, renT, okT, hr3, comp]
              · simp [slot, lkL, fixed, rg, renH, chEq, lookH, eqvL, eqv, eqvF, rnmL, rnm, liveN, Chunk.live, goodH, Chunk.good, okL, ok, sz, szL, storL, stor, renT, okT]
              · simp [slot, lkL, fixed, rg, renH, chEq, lookH, eqvL, eqv, eqvF, rnmL, rnm, liveN, Chunk.live, goodH, Chunk.good, okL, ok, sz, szL, storL, stor, renT, okT, hok3, hrs]
              · simp [slot, lkL, fixed, rg, renH, chEq, lookH, eqvL, eqv, eqvF, rnmL, rnm, liveN, Chunk.live, goodH, Chunk.good, okL, ok, sz, szL, storL, stor, renT, okT]
              · simp [slot, lkL, fixed, rg, renH, chEq, lookH, eqvL, eqv, eqvF, rnmL, rnm, liveN, Chunk.live, goodH, Chunk.good, okL, ok, sz, szL, storL, stor, renT, okT]
end Go.Proofs.Ytgocfglmideobaa.S

set_option linter.all false
set_option maxRecDepth 40000
namespace Go.Proofs.Ytgocfglmideobaa.S
open Go Go.Sx

def ivL : List (BitVec 32) := [1779033703, 3144134277, 1013904242, 2773480762, 1359893119, 2600822924, 528734635, 1541459225]
def iv (i : Nat) : BitVec 32 := ivL.getD i 0
theorem res53 : Try.f165.results.toList = [.cell 0 200] := rfl
theorem c53l (K : Tok → SV → List Chunk → Prop) (hK : K .mk (.agg [.int .u32 (nat (iv 0)), .int .u32 (nat (iv 1)), .int .u32 (nat (iv 2)), .int .u32 (nat (iv 3)), .int .u32 (nat (iv 4)), .int .u32 (nat (iv 5)), .int .u32 (nat (iv 6)), .int .u32 (nat (iv 7))]) []) : callP Try.prog 165 [] [] K := by
  refine callP_of_code tabOk Try.func165 (by kernel_rfl) rfl (Nat.le_of_ble_eq_true rfl) (codeP_of_vc (pl := np) tabOk follows_mixed (by kernel_rfl) ?_)
  rw [Try.ntmps165]
  simp -implicitDefEqProofs (maxSteps := 1000000) (disch := omega) only [↓vcB,↓gd,↓opP,↓qv,↓ef,↓bslS,↓stS,↓mkS,↓rangeS,↓nextS,↓entryS,↓delS,↓mupS,↓appS,↓s2bS,↓resS,evB,Sx.look,slot,↓lkL,putS,putO,argsL,↓reduceIte,ofV,of1,lookH,putH,List.replicate,List.append,convS,fldA,nthT,idxA,idxS,fldS,oslN,bnd,slS,unS,valI,lenS,lookS,takeC,parts,asRow,single,rdF,Ent.row,ldS,sz,szL,wrF,bldF,plT,bldS,srcS,nilS,nilEq,mapC,binH,binS2,structS,eqL,eqF,binS,arrS,isI,tupS,stor,storL,Value.oneCell',minS,maxS,capS,Nat.reduceAdd,Nat.reduceSub,Nat.reduceMul,Nat.reduceLT,Nat.reduceLeDiff,Nat.reduceEqDiff,Nat.reduceBEq,Int.reduceToNat,Int.reduceNeg,if_true,if_false,reduceIte,stays,inL,same1,qn,ldN,convN,lenN,cond_true,cond_false,implies_true,Int.reduceEq,Int.reduceNe,Int.reduceLE,Int.reduceLT,forall_eq_or_imp,forall_eq,ne_eq,reduceCtorEq,notInt,numB,tabB,res53,liB]
  refine intoR_mk [] (.agg [.int .u32 (nat (iv 0)), .int .u32 (nat (iv 1)), .int .u32 (nat (iv 2)), .int .u32 (nat (iv 3)), .int .u32 (nat (iv 4)), .int .u32 (nat (iv 5)), .int .u32 (nat (iv 6)), .int .u32 (nat (iv 7))]) [] ?_ ?_ ?_ ?_ ?_ ?_ ?_ hK
  · simp [slot, lkL, fixed, rg, renH, chEq, lookH, eqvL, eqv, eqvF, rnmL, rnm, liveN, Chunk.live, goodH, Chunk.good, okL, ok, sz, szL, storL, stor, renT, okT]
  · simp [slot, lkL, fixed, rg, renH, chEq, lookH, eqvL, eqv, eqvF, rnmL, rnm, liveN, Chunk.live, goodH, Chunk.good, okL, ok, sz, szL, storL, stor, renT, okT]
  · simp [slot, lkL, fixed, rg, renH, chEq, lookH, eqvL, eqv, eqvF, rnmL, rnm, liveN, Chunk.live, goodH, Chunk.good, okL, ok, sz, szL, storL, stor, renT, okT]
  · simp [slot, lkL, fixed, rg, renH, chEq, lookH, eqvL, eqv, eqvF, rnmL, rnm, liveN, Chunk.live, goodH, Chunk.good, okL, ok, sz, szL, storL, stor, renT, okT]
  · simp [slot, lkL, fixed, rg, renH, chEq, lookH, eqvL, eqv, eqvF, rnmL, rnm, liveN, Chunk.live, goodH, Chunk.good, okL, ok, sz, szL, storL, stor, renT, okT]
  · simp [slot, lkL, fixed, rg, renH, chEq, lookH, eqvL, eqv, eqvF, rnmL, rnm, liveN, Chunk.live, goodH, Chunk.good, okL, ok, sz, szL, storL, stor, renT, okT, iv, ivL, nat]
  · simp [slot, lkL, fixed, rg, renH, chEq, lookH, eqvL, eqv, eqvF, rnmL, rnm, liveN, Chunk.live, goodH, Chunk.good, okL, ok, sz, szL, storL, stor, renT, okT]
theorem c53 (h : List Chunk) (K : Tok → SV → List Chunk → Prop) (hK : K .mk (.agg [.int .u32 (nat (iv 0)), .int .u32 (nat (iv 1)), .int .u32 (nat (iv 2)), .int .u32 (nat (iv 3)), .int .u32 (nat (iv 4)), .int .u32 (nat (iv 5)), .int .u32 (nat (iv 6)), .int .u32 (nat (iv 7))]) h) : callP Try.prog 165 [] h K :=
  callP_frame (KL := fun _ v h' => v = .agg [.int .u32 (nat (iv 0)), .int .u32 (nat (iv 1)), .int .u32 (nat (iv 2)), .int .u32 (nat (iv 3)), .int .u32 (nat (iv 4)), .int .u32 (nat (iv 5)), .int .u32 (nat (iv 6)), .int .u32 (nat (iv 7))] ∧ h' = []) [] (c53l _ ⟨rfl, rfl⟩) List.nodup_nil trivial trivial trivial rfl (by
    rintro v h' ⟨rfl, rfl⟩
    refine ⟨?_, trivial, ?_⟩
    · intro c hc; cases hc
    · simpa [rnm, rnmL, lay] using hK)

theorem res16 : Try.f148.results.toList = [.tmp 0] := rfl
/-- A new hash. -/
theorem c16l (K : Tok → SV → List Chunk → Prop) (hK : K .mk (.ptr 0 0) [.cells true [.int .u32 (nat (iv 0)), .int .u32 (nat (iv 1)), .int .u32 (nat (iv 2)), .int .u32 (nat (iv 3)), .int .u32 (nat (iv 4)), .int .u32 (nat (iv 5)), .int .u32 (nat (iv 6)), .int .u32 (nat (iv 7)), .osl 1 0 0 1 0, .int .i64 0], .row true 0 1 fun i => .int .u8 0]) : callP Try.prog 148 [] [] K := by
  refine callP_of_code tabOk Try.func148 (by kernel_rfl) rfl (Nat.le_of_ble_eq_true rfl) (codeP_of_vc (pl := np) tabOk follows_mixed (by kernel_rfl) ?_)
  rw [Try.ntmps148]
  simp -implicitDefEqProofs (maxSteps := 1000000) (disch := omega) only [↓vcB,↓gd,↓opP,↓qv,↓ef,↓bslS,↓stS,↓mkS,↓rangeS,↓nextS,↓entryS,↓delS,↓mupS,↓appS,↓s2bS,↓resS,evB,Sx.look,slot,↓lkL,putS,putO,argsL,↓reduceIte,ofV,of1,lookH,putH,List.replicate,List.append,convS,fldA,nthT,idxA,idxS,fldS,oslN,bnd,slS,unS,valI,lenS,lookS,takeC,parts,asRow,single,rdF,Ent.row,ldS,sz,szL,wrF,bldF,plT,bldS,srcS,nilS,nilEq,mapC,binH,binS2,structS,eqL,eqF,binS,arrS,isI,tupS,stor,storL,Value.oneCell',minS,maxS,capS,Nat.reduceAdd,Nat.reduceSub,Nat.reduceMul,Nat.reduceLT,Nat.reduceLeDiff,Nat.reduceEqDiff,Nat.reduceBEq,Int.reduceToNat,Int.reduceNeg,if_true,if_false,reduceIte,stays,inL,same1,qn,ldN,convN,lenN,cond_true,cond_false,implies_true,Int.reduceEq,Int.reduceNe,Int.reduceLE,Int.reduceLT,forall_eq_or_imp,forall_eq,ne_eq,reduceCtorEq,notInt,numB,tabB,res16,liB]
  refine c53 _ _ ?_
  simp -implicitDefEqProofs (maxSteps := 1000000) (disch := omega) only [↓vcB,↓gd,↓opP,↓qv,↓ef,↓bslS,↓stS,↓mkS,↓rangeS,↓nextS,↓entryS,↓delS,↓mupS,↓appS,↓s2bS,↓resS,evB,Sx.look,slot,↓lkL,putS,putO,argsL,↓reduceIte,ofV,of1,lookH,putH,List.replicate,List.append,convS,fldA,nthT,idxA,idxS,fldS,oslN,bnd,slS,unS,valI,lenS,lookS,takeC,parts,asRow,single,rdF,Ent.row,ldS,sz,szL,wrF,bldF,plT,bldS,srcS,nilS,nilEq,mapC,binH,binS2,structS,eqL,eqF,binS,arrS,isI,tupS,stor,storL,Value.oneCell',minS,maxS,capS,Nat.reduceAdd,Nat.reduceSub,Nat.reduceMul,Nat.reduceLT,Nat.reduceLeDiff,Nat.reduceEqDiff,Nat.reduceBEq,Int.reduceToNat,Int.reduceNeg,if_true,if_false,reduceIte,stays,inL,same1,qn,ldN,convN,lenN,cond_true,cond_false,implies_true,Int.reduceEq,Int.reduceNe,Int.reduceLE,Int.reduceLT,forall_eq_or_imp,forall_eq,ne_eq,reduceCtorEq,notInt,numB,tabB,res16,liB]
  refine intoR_mk [some 0, none] (.ptr 0 0) [.cells true [.int .u32 (nat (iv 0)), .int .u32 (nat (iv 1)), .int .u32 (nat (iv 2)), .int .u32 (nat (iv 3)), .int .u32 (nat (iv 4)), .int .u32 (nat (iv 5)), .int .u32 (nat (iv 6)), .int .u32 (nat (iv 7)), .osl 1 0 0 1 0, .int .i64 0], .row true 0 1 fun i => .int .u8 0] ?_ ?_ ?_ ?_ ?_ ?_ ?_ hK
  · simp [slot, lkL, fixed, rg, renH, chEq, lookH, eqvL, eqv, eqvF, rnmL, rnm, liveN, Chunk.live, goodH, Chunk.good, okL, ok, sz, szL, storL, stor, renT, okT]
  · simp [slot, lkL, fixed, rg, renH, chEq, lookH, eqvL, eqv, eqvF, rnmL, rnm, liveN, Chunk.live, goodH, Chunk.good, okL, ok, sz, szL, storL, stor, renT, okT]
  · simp [slot, lkL, fixed, rg, renH, chEq, lookH, eqvL, eqv, eqvF, rnmL, rnm, liveN, Chunk.live, goodH, Chunk.good, okL, ok, sz, szL, storL, stor, renT, okT]
  · simp [slot, lkL, fixed, rg, renH, chEq, lookH, eqvL, eqv, eqvF, rnmL, rnm, liveN, Chunk.live, goodH, Chunk.good, okL, ok, sz, szL, storL, stor, renT, okT]
  · simp [slot, lkL, fixed, rg, renH, chEq, lookH, eqvL, eqv, eqvF, rnmL, rnm, liveN, Chunk.live, goodH, Chunk.good, okL, ok, sz, szL, storL, stor, renT, okT]
  · simp [slot, lkL, fixed, rg, renH, chEq, lookH, eqvL, eqv, eqvF, rnmL, rnm, liveN, Chunk.live, goodH, Chunk.good, okL, ok, sz, szL, storL, stor, renT, okT]
  · simp [slot, lkL, fixed, rg, renH, chEq, lookH, eqvL, eqv, eqvF, rnmL, rnm, liveN, Chunk.live, goodH, Chunk.good, okL, ok, sz, szL, storL, stor, renT, okT]

def pl149 : Nat → Plan
  | 4 => (.q 0 (.q 1 (.q 2 (.q 3 (.q 4 (.q 5 (.q 6 (.q 7 (.e1 8 [6, 7] .nil)))))))))
  | _ => .nil


/-- The words behind so many blocks. -/
def blk (w : Nat → BitVec 32) (T : Nat → BitVec 8) : Nat → Nat → BitVec 32
  | 0 => w
  | j + 1 => comp (blk w T j) fun i => T (64 * j + i)
def cat (n : Nat) (L B : Nat → BitVec 8) (i : Nat) : BitVec 8 := if i < n then L i else B (i - n)

theorem res17 : Try.f149.results.toList = [] := rfl
set_option maxHeartbeats 4000000 in
theorem c17l (w : Nat → BitVec 32) (cnt n d e len m : Nat) (L B : Nat → BitVec 8) (hm : e + len ≤ m) (hc : cnt + len < 9223372036854775808) (hl : n + len ≤ 70368744177664) (K : Tok → SV → List Chunk → Prop)
    (hK : K .mk (.tup []) [.cells true [.int .u32 (nat (blk w (cat n L fun i => B (e + i)) ((n + len) / 64) 0)), .int .u32 (nat (blk w (cat n L fun i => B (e + i)) ((n + len) / 64) 1)), .int .u32 (nat (blk w (cat n L fun i => B (e + i)) ((n + len) / 64) 2)), .int .u32 (nat (blk w (cat n L fun i => B (e + i)) ((n + len) / 64) 3)), .int .u32 (nat (blk w (cat n L fun i => B (e + i)) ((n + len) / 64) 4)), .int .u32 (nat (blk w (cat n L fun i => B (e + i)) ((n + len) / 64) 5)), .int .u32 (nat (blk w (cat n L fun i => B (e + i)) ((n + len) / 64) 6)), .int .u32 (nat (blk w (cat n L fun i => B (e + i)) ((n + len) / 64) 7)), .osl 3 0 0 1 (n + len - 64 * ((n + len) / 64)), .int .i64 (cnt + len : Nat)], .none, .row false m 1 (fun i => .int .u8 (nat (B i))),
      .row true (n + len - 64 * ((n + len) / 64)) 1 fun i => .int .u8 (nat (cat n L (fun i => B (e + i)) (64 * ((n + len) / 64) + i)))]) :
    callP Try.prog 149 [.ptr 0 0, .osl 2 d e 1 len] [.cells true [.int .u32 (nat (w 0)), .int .u32 (nat (w 1)), .int .u32 (nat (w 2)), .int .u32 (nat (w 3)), .int .u32 (nat (w 4)), .int .u32 (nat (w 5)), .int .u32 (nat (w 6)), .int .u32 (nat (w 7)), .osl 1 0 0 1 n, .int .i64 (cnt : Nat)], .row true n 1 (fun i => .int .u8 (nat (L i))), .row false m 1 fun i => .int .u8 (nat (B i))] K := by
  refine callP_of_code tabOk Try.func149 (by kernel_rfl) rfl (Nat.le_of_ble_eq_true rfl) (codeP_of_vc (pl := pl149) tabOk follows_mixed (by kernel_rfl) ?_)
  rw [Try.ntmps149]
  have a0 : IntKind.i64.wrap ((cnt : Int) + (len : Int)) = ((cnt + len : Nat) : Int) := by rw [wrap64 (by omega) (by omega)]; omega
  simp -implicitDefEqProofs (maxSteps := 1000000) (disch := omega) only [↓vcB,↓gd,↓opP,↓qv,↓ef,↓bslS,↓stS,↓mkS,↓rangeS,↓nextS,↓entryS,↓delS,↓mupS,↓appS,↓s2bS,↓resS,evB,Sx.look,slot,↓lkL,putS,putO,argsL,↓reduceIte,ofV,of1,lookH,putH,List.replicate,List.append,convS,fldA,nthT,idxA,idxS,fldS,oslN,bnd,slS,unS,valI,lenS,lookS,takeC,parts,asRow,single,rdF,Ent.row,ldS,sz,szL,wrF,bldF,plT,bldS,srcS,nilS,nilEq,mapC,binH,binS2,structS,eqL,eqF,binS,arrS,isI,tupS,stor,storL,Value.oneCell',minS,maxS,capS,Nat.reduceAdd,Nat.reduceSub,Nat.reduceMul,Nat.reduceLT,Nat.reduceLeDiff,Nat.reduceEqDiff,Nat.reduceBEq,Int.reduceToNat,Int.reduceNeg,if_true,if_false,reduceIte,stays,inL,same1,qn,ldN,convN,lenN,cond_true,cond_false,implies_true,Int.reduceEq,Int.reduceNe,Int.reduceLE,Int.reduceLT,forall_eq_or_imp,forall_eq,ne_eq,reduceCtorEq,notInt,numB,tabB,Array.reduceGetElem?,pl149,a0,Option.isNone,liB]
  refine ⟨⟨hm, by omega, by omega⟩, ?_⟩
  obtain ⟨T, hT⟩ : ∃ T, T = cat n L fun i => B (e + i) := ⟨_, rfl⟩
  rw [← hT] at hK
  refine codeP_loop (pl := pl149) tabOk follows_mixed (by kernel_rfl) (fun m' s => ∃ (k d' : Nat) (j : Nat → Value), k + m' = (n + len) / 64 ∧ s = ⟨⟨55, [(0, .ptr 0 0)], j⟩, [.cells true [.int .u32 (nat (blk w T k 0)), .int .u32 (nat (blk w T k 1)), .int .u32 (nat (blk w T k 2)), .int .u32 (nat (blk w T k 3)), .int .u32 (nat (blk w T k 4)), .int .u32 (nat (blk w T k 5)), .int .u32 (nat (blk w T k 6)), .int .u32 (nat (blk w T k 7)), .osl 3 d' (64 * k) 1 (n + len - 64 * k), .int .i64 (cnt + len : Nat)], .none, .row false m 1 (fun i => .int .u8 (nat (B i))), .row true (n + len) 1 fun i => .int .u8 (nat (T i))], []⟩) ?_ ?_
  · refine into_mk [some 0, some 1, some 2, some 3] [(0, .ptr 0 0)] [.cells true [.int .u32 (nat (blk w T 0 0)), .int .u32 (nat (blk w T 0 1)), .int .u32 (nat (blk w T 0 2)), .int .u32 (nat (blk w T 0 3)), .int .u32 (nat (blk w T 0 4)), .int .u32 (nat (blk w T 0 5)), .int .u32 (nat (blk w T 0 6)), .int .u32 (nat (blk w T 0 7)), .osl 3 0 (64 * 0) 1 (n + len - 64 * 0), .int .i64 (cnt + len : Nat)], .none, .row false m 1 (fun i => .int .u8 (nat (B i))), .row true (n + len) 1 fun i => .int .u8 (nat (T i))] ?_ ?_ ?_ ?_ ?_ ?_ ?_ ?_
    · simp [slot, lkL, fixed, rg, renH, chEq, lookH, eqvL, eqv, eqvF, rnmL, rnm, liveN, Chunk.live, goodH, Chunk.good, okL, ok, sz, szL, storL, stor, renT, okT]
    · simp [slot, lkL, fixed, rg, renH, chEq, lookH, eqvL, eqv, eqvF, rnmL, rnm, liveN, Chunk.live, goodH, Chunk.good, okL, ok, sz, szL, storL, stor, renT, okT]
    · simp [slot, lkL, fixed, rg, renH, chEq, lookH, eqvL, eqv, eqvF, rnmL, rnm, liveN, Chunk.live, goodH, Chunk.good, okL, ok, sz, szL, storL, stor, renT, okT, blk]
      intro i hi
      subst hT
      by_cases h : i < n <;> simp [h, cat, eqv]
    · simp [slot, lkL, fixed, rg, renH, chEq, lookH, eqvL, eqv, eqvF, rnmL, rnm, liveN, Chunk.live, goodH, Chunk.good, okL, ok, sz, szL, storL, stor, renT, okT]
    · simp [slot, lkL, fixed, rg, renH, chEq, lookH, eqvL, eqv, eqvF, rnmL, rnm, liveN, Chunk.live, goodH, Chunk.good, okL, ok, sz, szL, storL, stor, renT, okT]
    · simp [slot, lkL, fixed, rg, renH, chEq, lookH, eqvL, eqv, eqvF, rnmL, rnm, liveN, Chunk.live, goodH, Chunk.good, okL, ok, sz, szL, storL, stor, renT, okT]
    · simp [slot, lkL, fixed, rg, renH, chEq, lookH, eqvL, eqv, eqvF, rnmL, rnm, liveN, Chunk.live, goodH, Chunk.good, okL, ok, sz, szL, storL, stor, renT, okT]
    · intro j
      exact ⟨(n + len) / 64, 0, 0, j, by omega, rfl⟩
  · rintro m' s ⟨k, d', j, hk, rfl⟩
    have hk2 : 64 * k ≤ n + len := by omega
    simp -implicitDefEqProofs (maxSteps := 1000000) (disch := omega) only [↓vcB,↓gd,↓opP,↓qv,↓ef,↓bslS,↓stS,↓mkS,↓rangeS,↓nextS,↓entryS,↓delS,↓mupS,↓appS,↓s2bS,↓resS,evB,Sx.look,slot,↓lkL,putS,putO,argsL,↓reduceIte,ofV,of1,lookH,putH,List.replicate,List.append,convS,fldA,nthT,idxA,idxS,fldS,oslN,bnd,slS,unS,valI,lenS,lookS,takeC,parts,asRow,single,rdF,Ent.row,ldS,sz,szL,wrF,bldF,plT,bldS,srcS,nilS,nilEq,mapC,binH,binS2,structS,eqL,eqF,binS,arrS,isI,tupS,stor,storL,Value.oneCell',minS,maxS,capS,Nat.reduceAdd,Nat.reduceSub,Nat.reduceMul,Nat.reduceLT,Nat.reduceLeDiff,Nat.reduceEqDiff,Nat.reduceBEq,Int.reduceToNat,Int.reduceNeg,if_true,if_false,reduceIte,stays,inL,same1,qn,ldN,convN,lenN,cond_true,cond_false,implies_true,Int.reduceEq,Int.reduceNe,Int.reduceLE,Int.reduceLT,forall_eq_or_imp,forall_eq,ne_eq,reduceCtorEq,notInt,numB,tabB,↓Array.reduceGetElem?,pl149,res17,liB]
    refine ⟨Sx.imp_intro fun hc' => ?_, Sx.imp_intro fun hc' => ?_⟩
    · have hk3 : 64 * k + 64 ≤ n + len := by have := of_decide_eq_true hc'; omega
      and_intros <;> try omega
      refine callP_frame (hl := [.cells true ([.int .u32 (nat (blk w T k 0)), .int .u32 (nat (blk w T k 1)), .int .u32 (nat (blk w T k 2)), .int .u32 (nat (blk w T k 3)), .int .u32 (nat (blk w T k 4)), .int .u32 (nat (blk w T k 5)), .int .u32 (nat (blk w T k 6)), .int .u32 (nat (blk w T k 7))] ++ [.osl 1 d' (64 * k) 1 (n + len - 64 * k), .int .i64 (cnt + len : Nat)]), .row false (n + len) 1 fun i => .int .u8 (nat (T i))]) (argsL := [.ptr 0 0, .osl 1 d' (64 * k) 1 64])
        (KL := fun _ v h' => v = .tup [] ∧ h' = [.cells true ([.int .u32 (nat (comp (blk w T k) (fun i => T (64 * k + i)) 0)), .int .u32 (nat (comp (blk w T k) (fun i => T (64 * k + i)) 1)), .int .u32 (nat (comp (blk w T k) (fun i => T (64 * k + i)) 2)), .int .u32 (nat (comp (blk w T k) (fun i => T (64 * k + i)) 3)), .int .u32 (nat (comp (blk w T k) (fun i => T (64 * k + i)) 4)), .int .u32 (nat (comp (blk w T k) (fun i => T (64 * k + i)) 5)), .int .u32 (nat (comp (blk w T k) (fun i => T (64 * k + i)) 6)), .int .u32 (nat (comp (blk w T k) (fun i => T (64 * k + i)) 7))] ++ [.osl 1 d' (64 * k) 1 (n + len - 64 * k), .int .i64 (cnt + len : Nat)]), .row false (n + len) 1 fun i => .int .u8 (nat (T i))]) [0, 3]
        (c54l (blk w T k) [.osl 1 d' (64 * k) 1 (n + len - 64 * k), .int .i64 (cnt + len : Nat)] d' (64 * k) (n + len) T (by omega) (by simp [okL, ok]) (by simp [storL, stor]) _ ⟨rfl, rfl⟩) ?_ ?_ ?_ ?_ ?_ ?_
      · simp
      · simp [slot, lkL, fixed, rg, renH, chEq, lookH, eqvL, eqv, eqvF, rnmL, rnm, liveN, Chunk.live, goodH, Chunk.good, okL, ok, sz, szL, storL, stor, renT, okT, has, upG, up, nth, roOk, keepsLive, Chunk.wr, lay, rnmC, putH]
      · simp [slot, lkL, fixed, rg, renH, chEq, lookH, eqvL, eqv, eqvF, rnmL, rnm, liveN, Chunk.live, goodH, Chunk.good, okL, ok, sz, szL, storL, stor, renT, okT, has, upG, up, nth, roOk, keepsLive, Chunk.wr, lay, rnmC, putH]
      · simp [slot, lkL, fixed, rg, renH, chEq, lookH, eqvL, eqv, eqvF, rnmL, rnm, liveN, Chunk.live, goodH, Chunk.good, okL, ok, sz, szL, storL, stor, renT, okT, has, upG, up, nth, roOk, keepsLive, Chunk.wr, lay, rnmC, putH]
      · simp [slot, lkL, fixed, rg, renH, chEq, lookH, eqvL, eqv, eqvF, rnmL, rnm, liveN, Chunk.live, goodH, Chunk.good, okL, ok, sz, szL, storL, stor, renT, okT, has, upG, up, nth, roOk, keepsLive, Chunk.wr, lay, rnmC, putH]
      · rintro v h' ⟨rfl, rfl⟩
        refine ⟨by simp [slot, lkL, fixed, rg, renH, chEq, lookH, eqvL, eqv, eqvF, rnmL, rnm, liveN, Chunk.live, goodH, Chunk.good, okL, ok, sz, szL, storL, stor, renT, okT, has, upG, up, nth, roOk, keepsLive, Chunk.wr, lay, rnmC, putH], by simp [slot, lkL, fixed, rg, renH, chEq, lookH, eqvL, eqv, eqvF, rnmL, rnm, liveN, Chunk.live, goodH, Chunk.good, okL, ok, sz, szL, storL, stor, renT, okT, has, upG, up, nth, roOk, keepsLive, Chunk.wr, lay, rnmC, putH], ?_⟩
        simp -implicitDefEqProofs (maxSteps := 1000000) (disch := omega) only [↓vcB,↓gd,↓opP,↓qv,↓ef,↓bslS,↓stS,↓mkS,↓rangeS,↓nextS,↓entryS,↓delS,↓mupS,↓appS,↓s2bS,↓resS,evB,Sx.look,slot,↓lkL,putS,putO,argsL,↓reduceIte,ofV,of1,lookH,putH,List.replicate,List.append,convS,fldA,nthT,idxA,idxS,fldS,oslN,bnd,slS,unS,valI,lenS,lookS,takeC,parts,asRow,single,rdF,Ent.row,ldS,sz,szL,wrF,bldF,plT,bldS,srcS,nilS,nilEq,mapC,binH,binS2,structS,eqL,eqF,binS,arrS,isI,tupS,stor,storL,Value.oneCell',minS,maxS,capS,Nat.reduceAdd,Nat.reduceSub,Nat.reduceMul,Nat.reduceLT,Nat.reduceLeDiff,Nat.reduceEqDiff,Nat.reduceBEq,Int.reduceToNat,Int.reduceNeg,if_true,if_false,reduceIte,stays,inL,same1,qn,ldN,convN,lenN,cond_true,cond_false,implies_true,Int.reduceEq,Int.reduceNe,Int.reduceLE,Int.reduceLT,forall_eq_or_imp,forall_eq,ne_eq,reduceCtorEq,notInt,numB,tabB,↓Array.reduceGetElem?,pl149,upG,up,nth,lay,rnmC,rnm,rnmL,Chunk.wr,liB]
        and_intros <;> try omega
        refine into_mk [some 0, some 1, some 2, some 3] [(0, .ptr 0 0)] [.cells true [.int .u32 (nat (blk w T (k + 1) 0)), .int .u32 (nat (blk w T (k + 1) 1)), .int .u32 (nat (blk w T (k + 1) 2)), .int .u32 (nat (blk w T (k + 1) 3)), .int .u32 (nat (blk w T (k + 1) 4)), .int .u32 (nat (blk w T (k + 1) 5)), .int .u32 (nat (blk w T (k + 1) 6)), .int .u32 (nat (blk w T (k + 1) 7)), .osl 3 (64 * k) (64 * (k + 1)) 1 (n + len - 64 * (k + 1)), .int .i64 (cnt + len : Nat)], .none, .row false m 1 (fun i => .int .u8 (nat (B i))), .row true (n + len) 1 fun i => .int .u8 (nat (T i))] ?_ ?_ ?_ ?_ ?_ ?_ ?_ ?_
        · simp [slot, lkL, fixed, rg, renH, chEq, lookH, eqvL, eqv, eqvF, rnmL, rnm, liveN, Chunk.live, goodH, Chunk.good, okL, ok, sz, szL, storL, stor, renT, okT]
        · simp [slot, lkL, fixed, rg, renH, chEq, lookH, eqvL, eqv, eqvF, rnmL, rnm, liveN, Chunk.live, goodH, Chunk.good, okL, ok, sz, szL, storL, stor, renT, okT]
        · simp [slot, lkL, fixed, rg, renH, chEq, lookH, eqvL, eqv, eqvF, rnmL, rnm, liveN, Chunk.live, goodH, Chunk.good, okL, ok, sz, szL, storL, stor, renT, okT, blk, Nat.mul_add]
          try omega
        · simp [slot, lkL, fixed, rg, renH, chEq, lookH, eqvL, eqv, eqvF, rnmL, rnm, liveN, Chunk.live, goodH, Chunk.good, okL, ok, sz, szL, storL, stor, renT, okT]
        · simp [slot, lkL, fixed, rg, renH, chEq, lookH, eqvL, eqv, eqvF, rnmL, rnm, liveN, Chunk.live, goodH, Chunk.good, okL, ok, sz, szL, storL, stor, renT, okT]
        · simp [slot, lkL, fixed, rg, renH, chEq, lookH, eqvL, eqv, eqvF, rnmL, rnm, liveN, Chunk.live, goodH, Chunk.good, okL, ok, sz, szL, storL, stor, renT, okT]
        · simp [slot, lkL, fixed, rg, renH, chEq, lookH, eqvL, eqv, eqvF, rnmL, rnm, liveN, Chunk.live, goodH, Chunk.good, okL, ok, sz, szL, storL, stor, renT, okT]
        · intro j
          exact ⟨m' - 1, by omega, k + 1, 64 * k, j, by omega, rfl⟩
    · have hk3 : n + len < 64 * k + 64 := by have := of_decide_eq_false hc'; omega
      have hk4 : k = (n + len) / 64 := by omega
      subst hk4
      refine ⟨⟨by omega, by omega, by omega⟩, ?_⟩
      refine intoR_mk [some 0, some 1, some 2, some 4] (.tup []) [.cells true [.int .u32 (nat (blk w T ((n + len) / 64) 0)), .int .u32 (nat (blk w T ((n + len) / 64) 1)), .int .u32 (nat (blk w T ((n + len) / 64) 2)), .int .u32 (nat (blk w T ((n + len) / 64) 3)), .int .u32 (nat (blk w T ((n + len) / 64) 4)), .int .u32 (nat (blk w T ((n + len) / 64) 5)), .int .u32 (nat (blk w T ((n + len) / 64) 6)), .int .u32 (nat (blk w T ((n + len) / 64) 7)), .osl 3 0 0 1 (n + len - 64 * ((n + len) / 64)), .int .i64 (cnt + len : Nat)], .none, .row false m 1 (fun i => .int .u8 (nat (B i))),
        .row true (n + len - 64 * ((n + len) / 64)) 1 fun i => .int .u8 (nat (T (64 * ((n + len) / 64) + i)))] ?_ ?_ ?_ ?_ ?_ ?_ ?_ hK
      · simp [slot, lkL, fixed, rg, renH, chEq, lookH, eqvL, eqv, eqvF, rnmL, rnm, liveN, Chunk.live, goodH, Chunk.good, okL, ok, sz, szL, storL, stor, renT, okT]
      · simp [slot, lkL, fixed, rg, renH, chEq, lookH, eqvL, eqv, eqvF, rnmL, rnm, liveN, Chunk.live, goodH, Chunk.good, okL, ok, sz, szL, storL, stor, renT, okT]
      · simp [slot, lkL, fixed, rg, renH, chEq, lookH, eqvL, eqv, eqvF, rnmL, rnm, liveN, Chunk.live, goodH, Chunk.good, okL, ok, sz, szL, storL, stor, renT, okT]
      · simp [slot, lkL, fixed, rg, renH, chEq, lookH, eqvL, eqv, eqvF, rnmL, rnm, liveN, Chunk.live, goodH, Chunk.good, okL, ok, sz, szL, storL, stor, renT, okT]
      · simp [slot, lkL, fixed, rg, renH, chEq, lookH, eqvL, eqv, eqvF, rnmL, rnm, liveN, Chunk.live, goodH, Chunk.good, okL, ok, sz, szL, storL, stor, renT, okT]
      · simp [slot, lkL, fixed, rg, renH, chEq, lookH, eqvL, eqv, eqvF, rnmL, rnm, liveN, Chunk.live, goodH, Chunk.good, okL, ok, sz, szL, storL, stor, renT, okT]
      · simp [slot, lkL, fixed, rg, renH, chEq, lookH, eqvL, eqv, eqvF, rnmL, rnm, liveN, Chunk.live, goodH, Chunk.good, okL, ok, sz, szL, storL, stor, renT, okT]
end Go.Proofs.Ytgocfglmideobaa.S

set_option linter.all false
set_option maxRecDepth 40000
namespace Go.Proofs.Ytgocfglmideobaa.S
open Go Go.Sx

def zs (n : Nat) : Nat := (119 - n) % 64
def pad0 (n z : Nat) (L : Nat → BitVec 8) (i : Nat) : BitVec 8 := if i < n then L i else if i = n then 128#8 else 0
def padF (n : Nat) (cnt : BitVec 64) (L : Nat → BitVec 8) (i : Nat) : BitVec 8 :=
  if i < n + 1 + zs n then pad0 n (zs n) L i else ((cnt <<< 3) >>> (8 * (7 - (i - (n + 1 + zs n))))).setWidth 8
def dig (W : Nat → BitVec 32) (i : Nat) : BitVec 8 := (W (i / 4) >>> (24 - 8 * (i % 4))).setWidth 8
theorem rem_nat (a b : Nat) : ((a : Int)).tmod (b : Int) = ((a % b : Nat) : Int) := by
  rw [Int.tmod_eq_emod_of_nonneg (by omega)]; exact (Int.natCast_emod a b).symm

theorem res19 : Try.f150.results.toList = [.cell 2 23] := rfl
set_option maxHeartbeats 4000000 in
theorem c19l (w : Nat → BitVec 32) (cnt n : Nat) (L : Nat → BitVec 8) (hn : n < 64) (hc : cnt < 9223372036854775808) (K : Tok → SV → List Chunk → Prop)
    (hK : K .mk (.fam 32 1 fun i => .int .u8 (nat (dig (blk w (padF n (BitVec.ofNat 64 cnt) L) ((n + 1 + zs n + 8) / 64)) i))) [.cells true [.int .u32 (nat (w 0)), .int .u32 (nat (w 1)), .int .u32 (nat (w 2)), .int .u32 (nat (w 3)), .int .u32 (nat (w 4)), .int .u32 (nat (w 5)), .int .u32 (nat (w 6)), .int .u32 (nat (w 7)), .osl 1 0 0 1 n, .int .i64 (cnt : Nat)], .row true n 1 (fun i => .int .u8 (nat (L i)))]) :
    callP Try.prog 150 [.ptr 0 0] [.cells true [.int .u32 (nat (w 0)), .int .u32 (nat (w 1)), .int .u32 (nat (w 2)), .int .u32 (nat (w 3)), .int .u32 (nat (w 4)), .int .u32 (nat (w 5)), .int .u32 (nat (w 6)), .int .u32 (nat (w 7)), .osl 1 0 0 1 n, .int .i64 (cnt : Nat)], .row true n 1 (fun i => .int .u8 (nat (L i)))] K := by
  refine callP_of_code tabOk Try.func150 (by kernel_rfl) rfl (Nat.le_of_ble_eq_true rfl) (codeP_of_vc (pl := np) tabOk follows_mixed (by kernel_rfl) ?_)
  rw [Try.ntmps150]
  simp -implicitDefEqProofs (maxSteps := 1000000) (disch := omega) only [↓vcB,↓gd,↓opP,↓qv,↓ef,↓bslS,↓stS,↓mkS,↓rangeS,↓nextS,↓entryS,↓delS,↓mupS,↓appS,↓s2bS,↓resS,evB,Sx.look,slot,↓lkL,putS,putO,argsL,↓reduceIte,ofV,of1,lookH,putH,List.replicate,List.append,convS,fldA,nthT,idxA,idxS,fldS,oslN,bnd,slS,unS,valI,lenS,lookS,takeC,parts,asRow,single,rdF,Ent.row,ldS,sz,szL,wrF,bldF,plT,bldS,srcS,nilS,nilEq,mapC,binH,binS2,structS,eqL,eqF,binS,arrS,isI,tupS,stor,storL,Value.oneCell',minS,maxS,capS,Nat.reduceAdd,Nat.reduceSub,Nat.reduceMul,Nat.reduceLT,Nat.reduceLeDiff,Nat.reduceEqDiff,Nat.reduceBEq,Int.reduceToNat,Int.reduceNeg,if_true,if_false,reduceIte,stays,inL,same1,qn,ldN,convN,lenN,cond_true,cond_false,implies_true,Int.reduceEq,Int.reduceNe,Int.reduceLE,Int.reduceLT,forall_eq_or_imp,forall_eq,ne_eq,reduceCtorEq,notInt,numB,tabB,Array.reduceGetElem?,Option.isNone,liB]
  and_intros <;> try omega
  refine codeP_loop (pl := np) tabOk follows_mixed (by kernel_rfl) (fun m s => ∃ (z : Nat) (j : Nat → Value), z + m = zs n ∧ s = ⟨⟨88, [(0, .ptr 0 0), (2, .ptr 2 0), (3, .ptr 3 0), (4, .osl 4 0 0 1 (n + 1 + z))], j⟩, [.cells true [.int .u32 (nat (w 0)), .int .u32 (nat (w 1)), .int .u32 (nat (w 2)), .int .u32 (nat (w 3)), .int .u32 (nat (w 4)), .int .u32 (nat (w 5)), .int .u32 (nat (w 6)), .int .u32 (nat (w 7)), .osl 1 0 0 1 n, .int .i64 (cnt : Nat)], .row true n 1 (fun i => .int .u8 (nat (L i))), .cells true [.fam 32 1 fun _ => .int .u8 0], .cells true [.fam 32 1 fun _ => .int .u8 0], .row true (n + 1 + z) 1 fun i => .int .u8 (nat (pad0 n z L i))], []⟩) ?_ ?_
  · refine into_mk [some 0, some 1, some 2, some 3, some 6] [(0, .ptr 0 0), (2, .ptr 2 0), (3, .ptr 3 0), (4, .osl 4 0 0 1 (n + 1 + 0))] [.cells true [.int .u32 (nat (w 0)), .int .u32 (nat (w 1)), .int .u32 (nat (w 2)), .int .u32 (nat (w 3)), .int .u32 (nat (w 4)), .int .u32 (nat (w 5)), .int .u32 (nat (w 6)), .int .u32 (nat (w 7)), .osl 1 0 0 1 n, .int .i64 (cnt : Nat)], .row true n 1 (fun i => .int .u8 (nat (L i))), .cells true [.fam 32 1 fun _ => .int .u8 0], .cells true [.fam 32 1 fun _ => .int .u8 0], .row true (n + 1 + 0) 1 fun i => .int .u8 (nat (pad0 n 0 L i))] ?_ ?_ ?_ ?_ ?_ ?_ ?_ ?_
    · simp [slot, lkL, fixed, rg, renH, chEq, lookH, eqvL, eqv, eqvF, rnmL, rnm, liveN, Chunk.live, goodH, Chunk.good, okL, ok, sz, szL, storL, stor, renT, okT]
    · simp [slot, lkL, fixed, rg, renH, chEq, lookH, eqvL, eqv, eqvF, rnmL, rnm, liveN, Chunk.live, goodH, Chunk.good, okL, ok, sz, szL, storL, stor, renT, okT]
    · simp [slot, lkL, fixed, rg, renH, chEq, lookH, eqvL, eqv, eqvF, rnmL, rnm, liveN, Chunk.live, goodH, Chunk.good, okL, ok, sz, szL, storL, stor, renT, okT]
      intro i hi
      by_cases h : i < n
      · simp [h, pad0, eqv]
      · have h2 : i = n := by omega
        subst h2
        simp [pad0, eqv, Sx.look, nat]
    · simp [slot, lkL, fixed, rg, renH, chEq, lookH, eqvL, eqv, eqvF, rnmL, rnm, liveN, Chunk.live, goodH, Chunk.good, okL, ok, sz, szL, storL, stor, renT, okT]
    · simp [slot, lkL, fixed, rg, renH, chEq, lookH, eqvL, eqv, eqvF, rnmL, rnm, liveN, Chunk.live, goodH, Chunk.good, okL, ok, sz, szL, storL, stor, renT, okT]
    · simp [slot, lkL, fixed, rg, renH, chEq, lookH, eqvL, eqv, eqvF, rnmL, rnm, liveN, Chunk.live, goodH, Chunk.good, okL, ok, sz, szL, storL, stor, renT, okT]
    · simp [slot, lkL, fixed, rg, renH, chEq, lookH, eqvL, eqv, eqvF, rnmL, rnm, liveN, Chunk.live, goodH, Chunk.good, okL, ok, sz, szL, storL, stor, renT, okT]
    · intro j
      exact ⟨zs n, 0, j, by omega, rfl⟩
  · rintro m s ⟨z, j, hz, rfl⟩
    have e0 : ((n + 1 + z : Nat) : Int).tmod 64 = (((n + 1 + z) % 64 : Nat) : Int) := rem_nat (n + 1 + z) 64
    simp -implicitDefEqProofs (maxSteps := 1000000) (disch := omega) only [↓vcB,↓gd,↓opP,↓qv,↓ef,↓bslS,↓stS,↓mkS,↓rangeS,↓nextS,↓entryS,↓delS,↓mupS,↓appS,↓s2bS,↓resS,evB,Sx.look,slot,↓lkL,putS,putO,argsL,↓reduceIte,ofV,of1,lookH,putH,List.replicate,List.append,convS,fldA,nthT,idxA,idxS,fldS,oslN,bnd,slS,unS,valI,lenS,lookS,takeC,parts,asRow,single,rdF,Ent.row,ldS,sz,szL,wrF,bldF,plT,bldS,srcS,nilS,nilEq,mapC,binH,binS2,structS,eqL,eqF,binS,arrS,isI,tupS,stor,storL,Value.oneCell',minS,maxS,capS,Nat.reduceAdd,Nat.reduceSub,Nat.reduceMul,Nat.reduceLT,Nat.reduceLeDiff,Nat.reduceEqDiff,Nat.reduceBEq,Int.reduceToNat,Int.reduceNeg,if_true,if_false,reduceIte,stays,inL,same1,qn,ldN,convN,lenN,cond_true,cond_false,implies_true,Int.reduceEq,Int.reduceNe,Int.reduceLE,Int.reduceLT,forall_eq_or_imp,forall_eq,ne_eq,reduceCtorEq,notInt,numB,tabB,Array.reduceGetElem?,e0,liB]
    refine ⟨Sx.imp_intro fun hc' => ?_, Sx.imp_intro fun hc' => ?_⟩
    · have hz2 : z < zs n := by
        simp only [bne_iff_ne, ne_eq] at hc'
        simp only [zs] at hz ⊢
        omega
      have hz3 : zs n < 64 := Nat.mod_lt _ (by decide)
      and_intros <;> try omega
      refine into_mk [some 0, some 1, some 2, some 3, some 6] [(0, .ptr 0 0), (2, .ptr 2 0), (3, .ptr 3 0), (4, .osl 4 0 0 1 (n + 1 + (z + 1)))] [.cells true [.int .u32 (nat (w 0)), .int .u32 (nat (w 1)), .int .u32 (nat (w 2)), .int .u32 (nat (w 3)), .int .u32 (nat (w 4)), .int .u32 (nat (w 5)), .int .u32 (nat (w 6)), .int .u32 (nat (w 7)), .osl 1 0 0 1 n, .int .i64 (cnt : Nat)], .row true n 1 (fun i => .int .u8 (nat (L i))), .cells true [.fam 32 1 fun _ => .int .u8 0], .cells true [.fam 32 1 fun _ => .int .u8 0], .row true (n + 1 + (z + 1)) 1 fun i => .int .u8 (nat (pad0 n (z + 1) L i))] ?_ ?_ ?_ ?_ ?_ ?_ ?_ ?_
      · simp [slot, lkL, fixed, rg, renH, chEq, lookH, eqvL, eqv, eqvF, rnmL, rnm, liveN, Chunk.live, goodH, Chunk.good, okL, ok, sz, szL, storL, stor, renT, okT]
      · simp [slot, lkL, fixed, rg, renH, chEq, lookH, eqvL, eqv, eqvF, rnmL, rnm, liveN, Chunk.live, goodH, Chunk.good, okL, ok, sz, szL, storL, stor, renT, okT]
      · simp [slot, lkL, fixed, rg, renH, chEq, lookH, eqvL, eqv, eqvF, rnmL, rnm, liveN, Chunk.live, goodH, Chunk.good, okL, ok, sz, szL, storL, stor, renT, okT]
        refine ⟨by omega, fun i hi => ?_⟩
        by_cases h : i < n + 1 + z
        · simp [h, pad0, eqv]
        · have h2 : i = n + 1 + z := by omega
          subst h2
          simp [pad0, eqv, Sx.look, nat, show ¬ n + 1 + z < n by omega, show ¬ n + 1 + z = n by omega]
      · simp [slot, lkL, fixed, rg, renH, chEq, lookH, eqvL, eqv, eqvF, rnmL, rnm, liveN, Chunk.live, goodH, Chunk.good, okL, ok, sz, szL, storL, stor, renT, okT]
      · simp [slot, lkL, fixed, rg, renH, chEq, lookH, eqvL, eqv, eqvF, rnmL, rnm, liveN, Chunk.live, goodH, Chunk.good, okL, ok, sz, szL, storL, stor, renT, okT]
      · simp [slot, lkL, fixed, rg, renH, chEq, lookH, eqvL, eqv, eqvF, rnmL, rnm, liveN, Chunk.live, goodH, Chunk.good, okL, ok, sz, szL, storL, stor, renT, okT]
        omega
      · simp [slot, lkL, fixed, rg, renH, chEq, lookH, eqvL, eqv, eqvF, rnmL, rnm, liveN, Chunk.live, goodH, Chunk.good, okL, ok, sz, szL, storL, stor, renT, okT]
      · intro j
        exact ⟨m - 1, by omega, z + 1, j, by omega, rfl⟩
    · have hz2 : z = zs n := by
        simp only [bne_eq_false_iff_eq] at hc'
        simp only [zs] at hz ⊢
        omega
      subst hz2
      have hz3 : zs n < 64 := Nat.mod_lt _ (by decide)
      have f0 : IntKind.u64.wrap (cnt : Int) = nat (BitVec.ofNat 64 cnt) := by
        rw [Go.Sx.wrap_small (k := .u64) rfl (by omega) (by rw [show IntKind.u64.bits = 64 from rfl]; omega)]
        simp only [nat, BitVec.toNat_ofNat]
        omega
      refine codeP_loop (pl := np) tabOk follows_mixed (by kernel_rfl) (fun m s => ∃ (k : Nat) (j : Nat → Value), k + m = 8 ∧ s = ⟨⟨88, [(0, .ptr 0 0), (2, .ptr 2 0), (3, .ptr 3 0), (4, .osl 4 0 0 1 (n + 1 + zs n + k)), (5, .int .i64 (7 - (k : Nat)))], j⟩, [.cells true [.int .u32 (nat (w 0)), .int .u32 (nat (w 1)), .int .u32 (nat (w 2)), .int .u32 (nat (w 3)), .int .u32 (nat (w 4)), .int .u32 (nat (w 5)), .int .u32 (nat (w 6)), .int .u32 (nat (w 7)), .osl 1 0 0 1 n, .int .i64 (cnt : Nat)], .row true n 1 (fun i => .int .u8 (nat (L i))), .cells true [.fam 32 1 fun _ => .int .u8 0], .cells true [.fam 32 1 fun _ => .int .u8 0], .row true (n + 1 + zs n + k) 1 fun i => .int .u8 (nat (padF n (BitVec.ofNat 64 cnt) L i))], []⟩) ?_ ?_
      · refine into_mk [some 0, some 1, some 2, some 3, some 4] [(0, .ptr 0 0), (2, .ptr 2 0), (3, .ptr 3 0), (4, .osl 4 0 0 1 (n + 1 + zs n + 0)), (5, .int .i64 (7 - (0 : Nat)))] [.cells true [.int .u32 (nat (w 0)), .int .u32 (nat (w 1)), .int .u32 (nat (w 2)), .int .u32 (nat (w 3)), .int .u32 (nat (w 4)), .int .u32 (nat (w 5)), .int .u32 (nat (w 6)), .int .u32 (nat (w 7)), .osl 1 0 0 1 n, .int .i64 (cnt : Nat)], .row true n 1 (fun i => .int .u8 (nat (L i))), .cells true [.fam 32 1 fun _ => .int .u8 0], .cells true [.fam 32 1 fun _ => .int .u8 0], .row true (n + 1 + zs n + 0) 1 fun i => .int .u8 (nat (padF n (BitVec.ofNat 64 cnt) L i))] ?_ ?_ ?_ ?_ ?_ ?_ ?_ ?_
        · simp [slot, lkL, fixed, rg, renH, chEq, lookH, eqvL, eqv, eqvF, rnmL, rnm, liveN, Chunk.live, goodH, Chunk.good, okL, ok, sz, szL, storL, stor, renT, okT]
        · simp [slot, lkL, fixed, rg, renH, chEq, lookH, eqvL, eqv, eqvF, rnmL, rnm, liveN, Chunk.live, goodH, Chunk.good, okL, ok, sz, szL, storL, stor, renT, okT]
        · simp [slot, lkL, fixed, rg, renH, chEq, lookH, eqvL, eqv, eqvF, rnmL, rnm, liveN, Chunk.live, goodH, Chunk.good, okL, ok, sz, szL, storL, stor, renT, okT]
          intro i hi
          simp [padF, hi, eqv]
        · simp [slot, lkL, fixed, rg, renH, chEq, lookH, eqvL, eqv, eqvF, rnmL, rnm, liveN, Chunk.live, goodH, Chunk.good, okL, ok, sz, szL, storL, stor, renT, okT]
        · simp [slot, lkL, fixed, rg, renH, chEq, lookH, eqvL, eqv, eqvF, rnmL, rnm, liveN, Chunk.live, goodH, Chunk.good, okL, ok, sz, szL, storL, stor, renT, okT]
        · simp [slot, lkL, fixed, rg, renH, chEq, lookH, eqvL, eqv, eqvF, rnmL, rnm, liveN, Chunk.live, goodH, Chunk.good, okL, ok, sz, szL, storL, stor, renT, okT]
        · simp [slot, lkL, fixed, rg, renH, chEq, lookH, eqvL, eqv, eqvF, rnmL, rnm, liveN, Chunk.live, goodH, Chunk.good, okL, ok, sz, szL, storL, stor, renT, okT]
        · intro j
          exact ⟨8, 0, j, by omega, rfl⟩
      · rintro m2 s ⟨k, j2, hk, rfl⟩
        by_cases hk8 : k = 8
        · subst hk8
          have f3 : (decide ((7 - ((8 : Nat) : Int)) ≥ 0)) = false := by decide
          simp -implicitDefEqProofs (maxSteps := 1000000) (disch := omega) only [↓vcB,↓gd,↓opP,↓qv,↓ef,↓bslS,↓stS,↓mkS,↓rangeS,↓nextS,↓entryS,↓delS,↓mupS,↓appS,↓s2bS,↓resS,evB,Sx.look,slot,↓lkL,putS,putO,argsL,↓reduceIte,ofV,of1,lookH,putH,List.replicate,List.append,convS,fldA,nthT,idxA,idxS,fldS,oslN,bnd,slS,unS,valI,lenS,lookS,takeC,parts,asRow,single,rdF,Ent.row,ldS,sz,szL,wrF,bldF,plT,bldS,srcS,nilS,nilEq,mapC,binH,binS2,structS,eqL,eqF,binS,arrS,isI,tupS,stor,storL,Value.oneCell',minS,maxS,capS,Nat.reduceAdd,Nat.reduceSub,Nat.reduceMul,Nat.reduceLT,Nat.reduceLeDiff,Nat.reduceEqDiff,Nat.reduceBEq,Int.reduceToNat,Int.reduceNeg,if_true,if_false,reduceIte,stays,inL,same1,qn,ldN,convN,lenN,cond_true,cond_false,implies_true,Int.reduceEq,Int.reduceNe,Int.reduceLE,Int.reduceLT,forall_eq_or_imp,forall_eq,ne_eq,reduceCtorEq,notInt,numB,tabB,Array.reduceGetElem?,f3,liB]
          obtain ⟨N, hN⟩ : ∃ N, N = n + 1 + zs n + 8 := ⟨_, rfl⟩
          obtain ⟨T, hT⟩ : ∃ T, T = padF n (BitVec.ofNat 64 cnt) L := ⟨_, rfl⟩
          rw [← hN, ← hT] at hK ⊢
          have hN64 : N % 64 = 0 := by simp only [zs] at hN; omega
          refine codeP_loop (pl := np) tabOk follows_mixed (by kernel_rfl) (fun m s => ∃ (k d' : Nat) (j : Nat → Value), k + m = N / 64 ∧ s = ⟨⟨88, [(0, .ptr 0 0), (2, .ptr 2 0), (3, .ptr 3 0), (4, .osl 4 d' (64 * k) 1 (N - 64 * k)), (6, .ptr 5 0)], j⟩, [.cells true [.int .u32 (nat (w 0)), .int .u32 (nat (w 1)), .int .u32 (nat (w 2)), .int .u32 (nat (w 3)), .int .u32 (nat (w 4)), .int .u32 (nat (w 5)), .int .u32 (nat (w 6)), .int .u32 (nat (w 7)), .osl 1 0 0 1 n, .int .i64 (cnt : Nat)], .row true n 1 (fun i => .int .u8 (nat (L i))), .cells true [.fam 32 1 fun _ => .int .u8 0], .cells true [.fam 32 1 fun _ => .int .u8 0], .row true N 1 (fun i => .int .u8 (nat (T i))), .cells true [.int .u32 (nat (blk w T k 0)), .int .u32 (nat (blk w T k 1)), .int .u32 (nat (blk w T k 2)), .int .u32 (nat (blk w T k 3)), .int .u32 (nat (blk w T k 4)), .int .u32 (nat (blk w T k 5)), .int .u32 (nat (blk w T k 6)), .int .u32 (nat (blk w T k 7))]], []⟩) ?_ ?_
          · refine into_mk [some 0, some 1, some 2, some 3, some 4, some 5] [(0, .ptr 0 0), (2, .ptr 2 0), (3, .ptr 3 0), (4, .osl 4 0 (64 * 0) 1 (N - 64 * 0)), (6, .ptr 5 0)] [.cells true [.int .u32 (nat (w 0)), .int .u32 (nat (w 1)), .int .u32 (nat (w 2)), .int .u32 (nat (w 3)), .int .u32 (nat (w 4)), .int .u32 (nat (w 5)), .int .u32 (nat (w 6)), .int .u32 (nat (w 7)), .osl 1 0 0 1 n, .int .i64 (cnt : Nat)], .row true n 1 (fun i => .int .u8 (nat (L i))), .cells true [.fam 32 1 fun _ => .int .u8 0], .cells true [.fam 32 1 fun _ => .int .u8 0], .row true N 1 (fun i => .int .u8 (nat (T i))), .cells true [.int .u32 (nat (blk w T 0 0)), .int .u32 (nat (blk w T 0 1)), .int .u32 (nat (blk w T 0 2)), .int .u32 (nat (blk w T 0 3)), .int .u32 (nat (blk w T 0 4)), .int .u32 (nat (blk w T 0 5)), .int .u32 (nat (blk w T 0 6)), .int .u32 (nat (blk w T 0 7))]] ?_ ?_ ?_ ?_ ?_ ?_ ?_ ?_
            · simp [slot, lkL, fixed, rg, renH, chEq, lookH, eqvL, eqv, eqvF, rnmL, rnm, liveN, Chunk.live, goodH, Chunk.good, okL, ok, sz, szL, storL, stor, renT, okT]
            · simp [slot, lkL, fixed, rg, renH, chEq, lookH, eqvL, eqv, eqvF, rnmL, rnm, liveN, Chunk.live, goodH, Chunk.good, okL, ok, sz, szL, storL, stor, renT, okT]
            · simp [slot, lkL, fixed, rg, renH, chEq, lookH, eqvL, eqv, eqvF, rnmL, rnm, liveN, Chunk.live, goodH, Chunk.good, okL, ok, sz, szL, storL, stor, renT, okT, blk]
            · simp [slot, lkL, fixed, rg, renH, chEq, lookH, eqvL, eqv, eqvF, rnmL, rnm, liveN, Chunk.live, goodH, Chunk.good, okL, ok, sz, szL, storL, stor, renT, okT]
            · simp [slot, lkL, fixed, rg, renH, chEq, lookH, eqvL, eqv, eqvF, rnmL, rnm, liveN, Chunk.live, goodH, Chunk.good, okL, ok, sz, szL, storL, stor, renT, okT]
            · simp [slot, lkL, fixed, rg, renH, chEq, lookH, eqvL, eqv, eqvF, rnmL, rnm, liveN, Chunk.live, goodH, Chunk.good, okL, ok, sz, szL, storL, stor, renT, okT]
            · simp [slot, lkL, fixed, rg, renH, chEq, lookH, eqvL, eqv, eqvF, rnmL, rnm, liveN, Chunk.live, goodH, Chunk.good, okL, ok, sz, szL, storL, stor, renT, okT]
            · intro j
              exact ⟨N / 64, 0, 0, j, by omega, rfl⟩
          · rintro m3 s ⟨k, d', j3, hk, rfl⟩
            have hk2 : 64 * k ≤ N := by omega
            simp -implicitDefEqProofs (maxSteps := 1000000) (disch := omega) only [↓vcB,↓gd,↓opP,↓qv,↓ef,↓bslS,↓stS,↓mkS,↓rangeS,↓nextS,↓entryS,↓delS,↓mupS,↓appS,↓s2bS,↓resS,evB,Sx.look,slot,↓lkL,putS,putO,argsL,↓reduceIte,ofV,of1,lookH,putH,List.replicate,List.append,convS,fldA,nthT,idxA,idxS,fldS,oslN,bnd,slS,unS,valI,lenS,lookS,takeC,parts,asRow,single,rdF,Ent.row,ldS,sz,szL,wrF,bldF,plT,bldS,srcS,nilS,nilEq,mapC,binH,binS2,structS,eqL,eqF,binS,arrS,isI,tupS,stor,storL,Value.oneCell',minS,maxS,capS,Nat.reduceAdd,Nat.reduceSub,Nat.reduceMul,Nat.reduceLT,Nat.reduceLeDiff,Nat.reduceEqDiff,Nat.reduceBEq,Int.reduceToNat,Int.reduceNeg,if_true,if_false,reduceIte,stays,inL,same1,qn,ldN,convN,lenN,cond_true,cond_false,implies_true,Int.reduceEq,Int.reduceNe,Int.reduceLE,Int.reduceLT,forall_eq_or_imp,forall_eq,ne_eq,reduceCtorEq,notInt,numB,tabB,↓Array.reduceGetElem?,liB]
            refine ⟨Sx.imp_intro fun hc' => ?_, Sx.imp_intro fun hc' => ?_⟩
            · have hk3 : 64 * k + 64 ≤ N := by have := of_decide_eq_true hc'; omega
              and_intros <;> try omega
              refine callP_frame (hl := [.cells true ([.int .u32 (nat (blk w T k 0)), .int .u32 (nat (blk w T k 1)), .int .u32 (nat (blk w T k 2)), .int .u32 (nat (blk w T k 3)), .int .u32 (nat (blk w T k 4)), .int .u32 (nat (blk w T k 5)), .int .u32 (nat (blk w T k 6)), .int .u32 (nat (blk w T k 7))] ++ []), .row false N 1 fun i => .int .u8 (nat (T i))]) (argsL := [.ptr 0 0, .osl 1 d' (64 * k) 1 64])
                (KL := fun _ v h' => v = .tup [] ∧ h' = [.cells true ([.int .u32 (nat (comp (blk w T k) (fun i => T (64 * k + i)) 0)), .int .u32 (nat (comp (blk w T k) (fun i => T (64 * k + i)) 1)), .int .u32 (nat (comp (blk w T k) (fun i => T (64 * k + i)) 2)), .int .u32 (nat (comp (blk w T k) (fun i => T (64 * k + i)) 3)), .int .u32 (nat (comp (blk w T k) (fun i => T (64 * k + i)) 4)), .int .u32 (nat (comp (blk w T k) (fun i => T (64 * k + i)) 5)), .int .u32 (nat (comp (blk w T k) (fun i => T (64 * k + i)) 6)), .int .u32 (nat (comp (blk w T k) (fun i => T (64 * k + i)) 7))] ++ []), .row false N 1 fun i => .int .u8 (nat (T i))]) [5, 4]
                (c54l (blk w T k) [] d' (64 * k) N T (by omega) (by simp [okL, ok]) (by simp [storL, stor]) _ ⟨rfl, rfl⟩) ?_ ?_ ?_ ?_ ?_ ?_
              · simp
              · simp [slot, lkL, fixed, rg, renH, chEq, lookH, eqvL, eqv, eqvF, rnmL, rnm, liveN, Chunk.live, goodH, Chunk.good, okL, ok, sz, szL, storL, stor, renT, okT, has, upG, up, nth, roOk, keepsLive, Chunk.wr, lay, rnmC, putH]
              · simp [slot, lkL, fixed, rg, renH, chEq, lookH, eqvL, eqv, eqvF, rnmL, rnm, liveN, Chunk.live, goodH, Chunk.good, okL, ok, sz, szL, storL, stor, renT, okT, has, upG, up, nth, roOk, keepsLive, Chunk.wr, lay, rnmC, putH]
              · simp [slot, lkL, fixed, rg, renH, chEq, lookH, eqvL, eqv, eqvF, rnmL, rnm, liveN, Chunk.live, goodH, Chunk.good, okL, ok, sz, szL, storL, stor, renT, okT, has, upG, up, nth, roOk, keepsLive, Chunk.wr, lay, rnmC, putH]
              · simp [slot, lkL, fixed, rg, renH, chEq, lookH, eqvL, eqv, eqvF, rnmL, rnm, liveN, Chunk.live, goodH, Chunk.good, okL, ok, sz, szL, storL, stor, renT, okT, has, upG, up, nth, roOk, keepsLive, Chunk.wr, lay, rnmC, putH]
              · rintro v h' ⟨rfl, rfl⟩
                refine ⟨by simp [slot, lkL, fixed, rg, renH, chEq, lookH, eqvL, eqv, eqvF, rnmL, rnm, liveN, Chunk.live, goodH, Chunk.good, okL, ok, sz, szL, storL, stor, renT, okT, has, upG, up, nth, roOk, keepsLive, Chunk.wr, lay, rnmC, putH], by simp [slot, lkL, fixed, rg, renH, chEq, lookH, eqvL, eqv, eqvF, rnmL, rnm, liveN, Chunk.live, goodH, Chunk.good, okL, ok, sz, szL, storL, stor, renT, okT, has, upG, up, nth, roOk, keepsLive, Chunk.wr, lay, rnmC, putH], ?_⟩
                simp -implicitDefEqProofs (maxSteps := 1000000) (disch := omega) only [↓vcB,↓gd,↓opP,↓qv,↓ef,↓bslS,↓stS,↓mkS,↓rangeS,↓nextS,↓entryS,↓delS,↓mupS,↓appS,↓s2bS,↓resS,evB,Sx.look,slot,↓lkL,putS,putO,argsL,↓reduceIte,ofV,of1,lookH,putH,List.replicate,List.append,convS,fldA,nthT,idxA,idxS,fldS,oslN,bnd,slS,unS,valI,lenS,lookS,takeC,parts,asRow,single,rdF,Ent.row,ldS,sz,szL,wrF,bldF,plT,bldS,srcS,nilS,nilEq,mapC,binH,binS2,structS,eqL,eqF,binS,arrS,isI,tupS,stor,storL,Value.oneCell',minS,maxS,capS,Nat.reduceAdd,Nat.reduceSub,Nat.reduceMul,Nat.reduceLT,Nat.reduceLeDiff,Nat.reduceEqDiff,Nat.reduceBEq,Int.reduceToNat,Int.reduceNeg,if_true,if_false,reduceIte,stays,inL,same1,qn,ldN,convN,lenN,cond_true,cond_false,implies_true,Int.reduceEq,Int.reduceNe,Int.reduceLE,Int.reduceLT,forall_eq_or_imp,forall_eq,ne_eq,reduceCtorEq,notInt,numB,tabB,↓Array.reduceGetElem?,upG,up,nth,lay,rnmC,rnm,rnmL,Chunk.wr,liB]
                and_intros <;> try omega
                refine into_mk [some 0, some 1, some 2, some 3, some 4, some 5] [(0, .ptr 0 0), (2, .ptr 2 0), (3, .ptr 3 0), (4, .osl 4 (64 * k) (64 * (k + 1)) 1 (N - 64 * (k + 1))), (6, .ptr 5 0)] [.cells true [.int .u32 (nat (w 0)), .int .u32 (nat (w 1)), .int .u32 (nat (w 2)), .int .u32 (nat (w 3)), .int .u32 (nat (w 4)), .int .u32 (nat (w 5)), .int .u32 (nat (w 6)), .int .u32 (nat (w 7)), .osl 1 0 0 1 n, .int .i64 (cnt : Nat)], .row true n 1 (fun i => .int .u8 (nat (L i))), .cells true [.fam 32 1 fun _ => .int .u8 0], .cells true [.fam 32 1 fun _ => .int .u8 0], .row true N 1 (fun i => .int .u8 (nat (T i))), .cells true [.int .u32 (nat (blk w T (k + 1) 0)), .int .u32 (nat (blk w T (k + 1) 1)), .int .u32 (nat (blk w T (k + 1) 2)), .int .u32 (nat (blk w T (k + 1) 3)), .int .u32 (nat (blk w T (k + 1) 4)), .int .u32 (nat (blk w T (k + 1) 5)), .int .u32 (nat (blk w T (k + 1) 6)), .int .u32 (nat (blk w T (k + 1) 7))]] ?_ ?_ ?_ ?_ ?_ ?_ ?_ ?_
                · simp [slot, lkL, fixed, rg, renH, chEq, lookH, eqvL, eqv, eqvF, rnmL, rnm, liveN, Chunk.live, goodH, Chunk.good, okL, ok, sz, szL, storL, stor, renT, okT]
                · simp [slot, lkL, fixed, rg, renH, chEq, lookH, eqvL, eqv, eqvF, rnmL, rnm, liveN, Chunk.live, goodH, Chunk.good, okL, ok, sz, szL, storL, stor, renT, okT]
                · simp [slot, lkL, fixed, rg, renH, chEq, lookH, eqvL, eqv, eqvF, rnmL, rnm, liveN, Chunk.live, goodH, Chunk.good, okL, ok, sz, szL, storL, stor, renT, okT, blk]
                · simp [slot, lkL, fixed, rg, renH, chEq, lookH, eqvL, eqv, eqvF, rnmL, rnm, liveN, Chunk.live, goodH, Chunk.good, okL, ok, sz, szL, storL, stor, renT, okT]
                · simp [slot, lkL, fixed, rg, renH, chEq, lookH, eqvL, eqv, eqvF, rnmL, rnm, liveN, Chunk.live, goodH, Chunk.good, okL, ok, sz, szL, storL, stor, renT, okT]
                · simp [slot, lkL, fixed, rg, renH, chEq, lookH, eqvL, eqv, eqvF, rnmL, rnm, liveN, Chunk.live, goodH, Chunk.good, okL, ok, sz, szL, storL, stor, renT, okT, Nat.mul_add]
                  try omega
                · simp [slot, lkL, fixed, rg, renH, chEq, lookH, eqvL, eqv, eqvF, rnmL, rnm, liveN, Chunk.live, goodH, Chunk.good, okL, ok, sz, szL, storL, stor, renT, okT]
                · intro j
                  exact ⟨m3 - 1, by omega, k + 1, 64 * k, j, by omega, rfl⟩
            · have hk4 : k = N / 64 := by have := of_decide_eq_false hc'; omega
              subst hk4
              obtain ⟨V, hV⟩ : ∃ V, V = blk w T (N / 64) := ⟨_, rfl⟩
              rw [← hV] at hK ⊢
              refine codeP_loop (pl := np) tabOk follows_mixed (by kernel_rfl) (fun m s => ∃ (k : Nat) (j : Nat → Value), k + m = 8 ∧ s = ⟨⟨88, [(0, .ptr 0 0), (2, .ptr 2 0), (3, .ptr 3 0), (55, .fam 8 1 fun i => .int .u32 (nat (V i))), (56, .int .i64 (k : Nat))], j⟩, [.cells true [.int .u32 (nat (w 0)), .int .u32 (nat (w 1)), .int .u32 (nat (w 2)), .int .u32 (nat (w 3)), .int .u32 (nat (w 4)), .int .u32 (nat (w 5)), .int .u32 (nat (w 6)), .int .u32 (nat (w 7)), .osl 1 0 0 1 n, .int .i64 (cnt : Nat)], .row true n 1 (fun i => .int .u8 (nat (L i))), .cells true [.fam 32 1 fun _ => .int .u8 0], .cells true [.fam 32 1 fun i => .int .u8 (nat (if i < 4 * k then dig V i else 0))]], []⟩) ?_ ?_
              · refine into_mk [some 0, some 1, some 2, some 3] [(0, .ptr 0 0), (2, .ptr 2 0), (3, .ptr 3 0), (55, .fam 8 1 fun i => .int .u32 (nat (V i))), (56, .int .i64 (0 : Nat))] [.cells true [.int .u32 (nat (w 0)), .int .u32 (nat (w 1)), .int .u32 (nat (w 2)), .int .u32 (nat (w 3)), .int .u32 (nat (w 4)), .int .u32 (nat (w 5)), .int .u32 (nat (w 6)), .int .u32 (nat (w 7)), .osl 1 0 0 1 n, .int .i64 (cnt : Nat)], .row true n 1 (fun i => .int .u8 (nat (L i))), .cells true [.fam 32 1 fun _ => .int .u8 0], .cells true [.fam 32 1 fun i => .int .u8 (nat (if i < 4 * 0 then dig V i else 0))]] ?_ ?_ ?_ ?_ ?_ ?_ ?_ ?_
                · simp [slot, lkL, fixed, rg, renH, chEq, lookH, eqvL, eqv, eqvF, rnmL, rnm, liveN, Chunk.live, goodH, Chunk.good, okL, ok, sz, szL, storL, stor, renT, okT]
                · simp [slot, lkL, fixed, rg, renH, chEq, lookH, eqvL, eqv, eqvF, rnmL, rnm, liveN, Chunk.live, goodH, Chunk.good, okL, ok, sz, szL, storL, stor, renT, okT]
                · simp [slot, lkL, fixed, rg, renH, chEq, lookH, eqvL, eqv, eqvF, rnmL, rnm, liveN, Chunk.live, goodH, Chunk.good, okL, ok, sz, szL, storL, stor, renT, okT, nat]
                · simp [slot, lkL, fixed, rg, renH, chEq, lookH, eqvL, eqv, eqvF, rnmL, rnm, liveN, Chunk.live, goodH, Chunk.good, okL, ok, sz, szL, storL, stor, renT, okT]
                · simp [slot, lkL, fixed, rg, renH, chEq, lookH, eqvL, eqv, eqvF, rnmL, rnm, liveN, Chunk.live, goodH, Chunk.good, okL, ok, sz, szL, storL, stor, renT, okT]
                · simp [slot, lkL, fixed, rg, renH, chEq, lookH, eqvL, eqv, eqvF, rnmL, rnm, liveN, Chunk.live, goodH, Chunk.good, okL, ok, sz, szL, storL, stor, renT, okT]
                · simp [slot, lkL, fixed, rg, renH, chEq, lookH, eqvL, eqv, eqvF, rnmL, rnm, liveN, Chunk.live, goodH, Chunk.good, okL, ok, sz, szL, storL, stor, renT, okT]
                · intro j
                  exact ⟨8, 0, j, by omega, rfl⟩
              · rintro m4 s ⟨k, j4, hk, rfl⟩
                have a0 : IntKind.i64.wrap (4 * (k : Int)) = ((4 * k : Nat) : Int) := by rw [wrap64 (by omega) (by omega)]; omega
                have a1 : IntKind.i64.wrap (((4 * k : Nat) : Int) + 1) = ((4 * k + 1 : Nat) : Int) := by rw [wrap64 (by omega) (by omega)]; omega
                have a2 : IntKind.i64.wrap (((4 * k : Nat) : Int) + 2) = ((4 * k + 2 : Nat) : Int) := by rw [wrap64 (by omega) (by omega)]; omega
                have a3 : IntKind.i64.wrap (((4 * k : Nat) : Int) + 3) = ((4 * k + 3 : Nat) : Int) := by rw [wrap64 (by omega) (by omega)]; omega
                have a4 : IntKind.i64.wrap ((k : Int) + 1) = ((k + 1 : Nat) : Int) := by rw [wrap64 (by omega) (by omega)]; omega
                simp -implicitDefEqProofs (maxSteps := 1000000) (disch := omega) only [↓vcB,↓gd,↓opP,↓qv,↓ef,↓bslS,↓stS,↓mkS,↓rangeS,↓nextS,↓entryS,↓delS,↓mupS,↓appS,↓s2bS,↓resS,evB,Sx.look,slot,↓lkL,putS,putO,argsL,↓reduceIte,ofV,of1,lookH,putH,List.replicate,List.append,convS,fldA,nthT,idxA,idxS,fldS,oslN,bnd,slS,unS,valI,lenS,lookS,takeC,parts,asRow,single,rdF,Ent.row,ldS,sz,szL,wrF,bldF,plT,bldS,srcS,nilS,nilEq,mapC,binH,binS2,structS,eqL,eqF,binS,arrS,isI,tupS,stor,storL,Value.oneCell',minS,maxS,capS,Nat.reduceAdd,Nat.reduceSub,Nat.reduceMul,Nat.reduceLT,Nat.reduceLeDiff,Nat.reduceEqDiff,Nat.reduceBEq,Int.reduceToNat,Int.reduceNeg,if_true,if_false,reduceIte,stays,inL,same1,qn,ldN,convN,lenN,cond_true,cond_false,implies_true,Int.reduceEq,Int.reduceNe,Int.reduceLE,Int.reduceLT,forall_eq_or_imp,forall_eq,ne_eq,reduceCtorEq,notInt,numB,tabB,↓Array.reduceGetElem?,a0,a1,a2,a3,a4,res19,liB]
                refine ⟨Sx.imp_intro fun hc' => ?_, Sx.imp_intro fun hc' => ?_⟩
                · have hk3 : k < 8 := by have := of_decide_eq_true hc'; omega
                  and_intros <;> try omega
                  refine into_mk [some 0, some 1, some 2, some 3] [(0, .ptr 0 0), (2, .ptr 2 0), (3, .ptr 3 0), (55, .fam 8 1 fun i => .int .u32 (nat (V i))), (56, .int .i64 (k + 1 : Nat))] [.cells true [.int .u32 (nat (w 0)), .int .u32 (nat (w 1)), .int .u32 (nat (w 2)), .int .u32 (nat (w 3)), .int .u32 (nat (w 4)), .int .u32 (nat (w 5)), .int .u32 (nat (w 6)), .int .u32 (nat (w 7)), .osl 1 0 0 1 n, .int .i64 (cnt : Nat)], .row true n 1 (fun i => .int .u8 (nat (L i))), .cells true [.fam 32 1 fun _ => .int .u8 0], .cells true [.fam 32 1 fun i => .int .u8 (nat (if i < 4 * (k + 1) then dig V i else 0))]] ?_ ?_ ?_ ?_ ?_ ?_ ?_ ?_
                  · simp [slot, lkL, fixed, rg, renH, chEq, lookH, eqvL, eqv, eqvF, rnmL, rnm, liveN, Chunk.live, goodH, Chunk.good, okL, ok, sz, szL, storL, stor, renT, okT]
                  · simp [slot, lkL, fixed, rg, renH, chEq, lookH, eqvL, eqv, eqvF, rnmL, rnm, liveN, Chunk.live, goodH, Chunk.good, okL, ok, sz, szL, storL, stor, renT, okT]
                  · simp [slot, lkL, fixed, rg, renH, chEq, lookH, eqvL, eqv, eqvF, rnmL, rnm, liveN, Chunk.live, goodH, Chunk.good, okL, ok, sz, szL, storL, stor, renT, okT]
                    intro i hi
                    by_cases h3 : i = 4 * k + 3
                    · subst h3
                      simp [eqv, dig, show 4 * k + 3 < 4 * (k + 1) by omega, show (4 * k + 3) / 4 = k by omega, show (4 * k + 3) % 4 = 3 by omega]
                    by_cases h2 : i = 4 * k + 2
                    · subst h2
                      simp [eqv, dig, show 4 * k + 2 < 4 * (k + 1) by omega, show (4 * k + 2) / 4 = k by omega, show (4 * k + 2) % 4 = 2 by omega]
                    by_cases h1 : i = 4 * k + 1
                    · subst h1
                      simp [eqv, dig, show 4 * k + 1 < 4 * (k + 1) by omega, show (4 * k + 1) / 4 = k by omega, show (4 * k + 1) % 4 = 1 by omega]
                    by_cases h0 : i = 4 * k
                    · subst h0
                      simp [eqv, dig, show 4 * k < 4 * (k + 1) by omega, show (4 * k) / 4 = k by omega, show (4 * k) % 4 = 0 by omega]
                    · have e : (i < 4 * (k + 1)) = (i < 4 * k) := by simp only [eq_iff_iff]; omega
                      simp only [h3, h2, h1, h0, if_false, e, eqv]
                  · simp [slot, lkL, fixed, rg, renH, chEq, lookH, eqvL, eqv, eqvF, rnmL, rnm, liveN, Chunk.live, goodH, Chunk.good, okL, ok, sz, szL, storL, stor, renT, okT]
                  · simp [slot, lkL, fixed, rg, renH, chEq, lookH, eqvL, eqv, eqvF, rnmL, rnm, liveN, Chunk.live, goodH, Chunk.good, okL, ok, sz, szL, storL, stor, renT, okT]
                  · simp [slot, lkL, fixed, rg, renH, chEq, lookH, eqvL, eqv, eqvF, rnmL, rnm, liveN, Chunk.live, goodH, Chunk.good, okL, ok, sz, szL, storL, stor, renT, okT]
                  · simp [slot, lkL, fixed, rg, renH, chEq, lookH, eqvL, eqv, eqvF, rnmL, rnm, liveN, Chunk.live, goodH, Chunk.good, okL, ok, sz, szL, storL, stor, renT, okT]
                  · intro j
                    exact ⟨m4 - 1, by omega, k + 1, j, by omega, rfl⟩
                · have hk4 : k = 8 := by have := of_decide_eq_false hc'; omega
                  subst hk4
                  refine intoR_mk [some 0, some 1] (.fam 32 1 fun i => .int .u8 (nat (dig V i))) [.cells true [.int .u32 (nat (w 0)), .int .u32 (nat (w 1)), .int .u32 (nat (w 2)), .int .u32 (nat (w 3)), .int .u32 (nat (w 4)), .int .u32 (nat (w 5)), .int .u32 (nat (w 6)), .int .u32 (nat (w 7)), .osl 1 0 0 1 n, .int .i64 (cnt : Nat)], .row true n 1 (fun i => .int .u8 (nat (L i)))] ?_ ?_ ?_ ?_ ?_ ?_ ?_ hK
                  · simp [slot, lkL, fixed, rg, renH, chEq, lookH, eqvL, eqv, eqvF, rnmL, rnm, liveN, Chunk.live, goodH, Chunk.good, okL, ok, sz, szL, storL, stor, renT, okT]
                  · simp [slot, lkL, fixed, rg, renH, chEq, lookH, eqvL, eqv, eqvF, rnmL, rnm, liveN, Chunk.live, goodH, Chunk.good, okL, ok, sz, szL, storL, stor, renT, okT]
                  · simp [slot, lkL, fixed, rg, renH, chEq, lookH, eqvL, eqv, eqvF, rnmL, rnm, liveN, Chunk.live, goodH, Chunk.good, okL, ok, sz, szL, storL, stor, renT, okT]
                  · simp [slot, lkL, fixed, rg, renH, chEq, lookH, eqvL, eqv, eqvF, rnmL, rnm, liveN, Chunk.live, goodH, Chunk.good, okL, ok, sz, szL, storL, stor, renT, okT]
                  · simp [slot, lkL, fixed, rg, renH, chEq, lookH, eqvL, eqv, eqvF, rnmL, rnm, liveN, Chunk.live, goodH, Chunk.good, okL, ok, sz, szL, storL, stor, renT, okT]
                  · simp [slot, lkL, fixed, rg, renH, chEq, lookH, eqvL, eqv, eqvF, rnmL, rnm, liveN, Chunk.live, goodH, Chunk.good, okL, ok, sz, szL, storL, stor, renT, okT]
                    intro i hi
                    simp [hi, eqv]
                  · simp [slot, lkL, fixed, rg, renH, chEq, lookH, eqvL, eqv, eqvF, rnmL, rnm, liveN, Chunk.live, goodH, Chunk.good, okL, ok, sz, szL, storL, stor, renT, okT]
        · have f1 : IntKind.i64.wrap (8 * (7 - (k : Int))) = ((8 * (7 - k) : Nat) : Int) := by rw [wrap64 (by omega) (by omega)]; omega
          have f2 : IntKind.i64.wrap ((7 - (k : Int)) - 1) = 7 - ((k + 1 : Nat) : Int) := by rw [wrap64 (by omega) (by omega)]; omega
          have f3 : (decide ((7 - (k : Int)) ≥ 0)) = true := by simp; omega
          simp -implicitDefEqProofs (maxSteps := 1000000) (disch := omega) only [↓vcB,↓gd,↓opP,↓qv,↓ef,↓bslS,↓stS,↓mkS,↓rangeS,↓nextS,↓entryS,↓delS,↓mupS,↓appS,↓s2bS,↓resS,evB,Sx.look,slot,↓lkL,putS,putO,argsL,↓reduceIte,ofV,of1,lookH,putH,List.replicate,List.append,convS,fldA,nthT,idxA,idxS,fldS,oslN,bnd,slS,unS,valI,lenS,lookS,takeC,parts,asRow,single,rdF,Ent.row,ldS,sz,szL,wrF,bldF,plT,bldS,srcS,nilS,nilEq,mapC,binH,binS2,structS,eqL,eqF,binS,arrS,isI,tupS,stor,storL,Value.oneCell',minS,maxS,capS,Nat.reduceAdd,Nat.reduceSub,Nat.reduceMul,Nat.reduceLT,Nat.reduceLeDiff,Nat.reduceEqDiff,Nat.reduceBEq,Int.reduceToNat,Int.reduceNeg,if_true,if_false,reduceIte,stays,inL,same1,qn,ldN,convN,lenN,cond_true,cond_false,implies_true,Int.reduceEq,Int.reduceNe,Int.reduceLE,Int.reduceLT,forall_eq_or_imp,forall_eq,ne_eq,reduceCtorEq,notInt,numB,tabB,Array.reduceGetElem?,f0,f1,f2,f3,liB]
          and_intros <;> try omega
          refine into_mk [some 0, some 1, some 2, some 3, some 6] [(0, .ptr 0 0), (2, .ptr 2 0), (3, .ptr 3 0), (4, .osl 4 0 0 1 (n + 1 + zs n + (k + 1))), (5, .int .i64 (7 - (k + 1 : Nat)))] [.cells true [.int .u32 (nat (w 0)), .int .u32 (nat (w 1)), .int .u32 (nat (w 2)), .int .u32 (nat (w 3)), .int .u32 (nat (w 4)), .int .u32 (nat (w 5)), .int .u32 (nat (w 6)), .int .u32 (nat (w 7)), .osl 1 0 0 1 n, .int .i64 (cnt : Nat)], .row true n 1 (fun i => .int .u8 (nat (L i))), .cells true [.fam 32 1 fun _ => .int .u8 0], .cells true [.fam 32 1 fun _ => .int .u8 0], .row true (n + 1 + zs n + (k + 1)) 1 fun i => .int .u8 (nat (padF n (BitVec.ofNat 64 cnt) L i))] ?_ ?_ ?_ ?_ ?_ ?_ ?_ ?_
          · simp [slot, lkL, fixed, rg, renH, chEq, lookH, eqvL, eqv, eqvF, rnmL, rnm, liveN, Chunk.live, goodH, Chunk.good, okL, ok, sz, szL, storL, stor, renT, okT]
          · simp [slot, lkL, fixed, rg, renH, chEq, lookH, eqvL, eqv, eqvF, rnmL, rnm, liveN, Chunk.live, goodH, Chunk.good, okL, ok, sz, szL, storL, stor, renT, okT]
          · simp [slot, lkL, fixed, rg, renH, chEq, lookH, eqvL, eqv, eqvF, rnmL, rnm, liveN, Chunk.live, goodH, Chunk.good, okL, ok, sz, szL, storL, stor, renT, okT]
            refine ⟨by omega, fun i hi => ?_⟩
            by_cases h : i < n + 1 + zs n + k
            · simp [h, eqv]
            · have h2 : i = n + 1 + zs n + k := by omega
              subst h2
              simp [padF, eqv, Sx.look, show ¬ n + 1 + zs n + k < n + 1 + zs n by omega]
          · simp [slot, lkL, fixed, rg, renH, chEq, lookH, eqvL, eqv, eqvF, rnmL, rnm, liveN, Chunk.live, goodH, Chunk.good, okL, ok, sz, szL, storL, stor, renT, okT]
          · simp [slot, lkL, fixed, rg, renH, chEq, lookH, eqvL, eqv, eqvF, rnmL, rnm, liveN, Chunk.live, goodH, Chunk.good, okL, ok, sz, szL, storL, stor, renT, okT]
          · simp [slot, lkL, fixed, rg, renH, chEq, lookH, eqvL, eqv, eqvF, rnmL, rnm, liveN, Chunk.live, goodH, Chunk.good, okL, ok, sz, szL, storL, stor, renT, okT]
            omega
          · simp [slot, lkL, fixed, rg, renH, chEq, lookH, eqvL, eqv, eqvF, rnmL, rnm, liveN, Chunk.live, goodH, Chunk.good, okL, ok, sz, szL, storL, stor, renT, okT]
          · intro j
            exact ⟨m2 - 1, by omega, k + 1, j, by omega, rfl⟩
end Go.Proofs.Ytgocfglmideobaa.S
