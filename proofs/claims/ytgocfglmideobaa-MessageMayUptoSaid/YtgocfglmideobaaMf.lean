/- Texts put together: Contracts of functions that the laws reach, by the symbolic executor. No condition. -/
import Derived.Test.YtgocfglmideobaaMe
set_option linter.all false
set_option maxRecDepth 40000
namespace Go.Proofs.Ytgocfglmideobaa
open Go Go.Sx
theorem res108 : Try.f108.results.toList = [.tmp 6] := rfl
theorem res109 : Try.f109.results.toList = [.tmp 6] := rfl
theorem res110 : Try.f110.results.toList = [.tmp 4] := rfl
theorem res111 : Try.f111.results.toList = [.tmp 6] := rfl
theorem res112 : Try.f112.results.toList = [.tmp 4] := rfl
def pl112 : Nat → Plan
  | 1 => (.q 0 (.q 1 (.q 2 (.q 4 (.q 5 (.e1 3 [2] (.e1 6 [2, 3, 5] (.q 7 .nil))))))))
  | _ => .nil

theorem MsgH.open {h : List Chunk} {m : Msg} {l : List SV} (H : MsgH h m l) : ∃ (xk xf xv xs : Int) (xd : Nat → By) (xkb xnb xkbs xnbs xkp xnp xkq xnq : Nat) (xkey : Int) (xof : Nat → By), l = [.int .i64 xk, .int .i64 xf, .int .i64 xv, .int .i64 xs, .fam 32 1 fun i => .int .u8 (nat (xd i)), .osl xkb 0 0 1 xnb, .osl xkbs 0 0 1 xnbs, .osl xkp 0 0 73 xnp, .osl xkq 0 0 74 xnq, .int .i64 xkey, .fam 32 1 fun i => .int .u8 (nat (xof i))] := by
  obtain ⟨k, f, v, s, d, b, bs, p, q, key, of⟩ := m
  rw [MsgH] at H
  obtain ⟨sb, sbs, kp, wp, fp, kq, wq, fq, hl, h1, h2, _⟩ := H
  obtain ⟨kb, wb, rfl, _⟩ := h1
  obtain ⟨kbs, wbs, fb, rfl, _, _⟩ := h2
  exact ⟨_, _, _, _, _, _, _, _, _, _, _, _, _, _, _, hl⟩
theorem putB_pos (b : List By) : 1 ≤ (putB b).length := by
  unfold putB
  rw [List.length_append]
  have := leb_pos b.length
  omega
theorem putB_pos2 (b c : List By) : 1 ≤ (putB b ++ c).length := by
  rw [List.length_append]
  have := putB_pos b
  omega
theorem len_flat {α : Type} (f : α → List By) (hf : ∀ x, 1 ≤ (f x).length) : ∀ l : List α, l.length ≤ (l.flatMap f).length
  | [] => Nat.le_refl _
  | a :: l => by
    rw [List.flatMap_cons, List.length_append, List.length_cons]
    have := hf a
    have := len_flat f hf l
    omega
abbrev EncAt (F : FuncId) (m : Msg) : Prop := ∀ (l : List SV) (h : List Chunk), MsgH h m l → (enc m).length ≤ 17592186044416 → ∀ (K : Tok → SV → List Chunk → Prop), Out (fun _ => False) h (enc m) K → callP Try.prog F [.agg l] h K
set_option maxHeartbeats 4000000 in
theorem c110 (B : List By) (k : Nat) (w : Bool) (m : Msg) (hR : EncAt 51 m) (l : List SV) (h : List Chunk) (hm : MsgH h m l) (hk : lookH h k = .row w B.length 1 (fun i => .int .u8 (nat (B.getD i 0)))) (hlen : (B ++ putB (enc m)).length ≤ 17592186044416) (K : Tok → SV → List Chunk → Prop) (hK : Out (fun j => False) h (B ++ putB (enc m)) K) :
    callP Try.prog 110 [.osl k 0 0 1 B.length, .agg l] h K := by
  obtain ⟨xk, xf, xv, xs, xd, xkb, xnb, xkbs, xnbs, xkp, xnp, xkq, xnq, xkey, xof, rfl⟩ := hm.open
  have hlen1 := hlen
  unfold putB at hlen1
  simp only [List.length_append] at hlen1
  refine callP_of_code tabOk Try.func110 (by kernel_rfl) rfl (Nat.le_of_ble_eq_true rfl) (codeP_of_vc (pl := np) tabOk follows_mixed (by kernel_rfl) ?_)
  rw [Try.ntmps110]
  simp -implicitDefEqProofs (maxSteps := 1000000) (disch := omega) only [↓vcB,↓gd,↓opP,↓qv,↓ef,↓bslS,↓stS,↓mkS,↓rangeS,↓nextS,↓entryS,↓delS,↓mupS,↓appS,↓s2bS,↓resS,evB,Sx.look,slot,↓lkL,putS,putO,argsL,↓reduceIte,ofV,of1,lookH,putH,List.replicate,List.append,convS,fldA,nthT,idxA,idxS,fldS,oslN,bnd,slS,unS,valI,lenS,lookS,takeC,psB,asRow,csB,rdF,Ent.row,ldS,sz,szL,wrF,bldF,plT,bldS,srcS,nilS,nilEq,mapC,binH,binS2,structS,eqL,eqF,binS,arrS,isI,tupS,stor,storL,Value.oneCell',minS,maxS,capS,Nat.reduceAdd,Nat.reduceSub,Nat.reduceMul,Nat.reduceLT,Nat.reduceLeDiff,Nat.reduceEqDiff,Nat.reduceBEq,Int.reduceToNat,Int.reduceNeg,if_true,if_false,reduceIte,stays,inL,same1,qn,ldN,convN,lenN,cond_true,cond_false,implies_true,Int.reduceEq,Int.reduceNe,Int.reduceLE,Int.reduceLT,forall_eq_or_imp,forall_eq,ne_eq,reduceCtorEq,notInt,numB,tabB,Array.reduceGetElem?,upG,up,nth,lay,rcB,rnm,rnmL,wrB,pcB,res108,res109,res110,res111,res112,pl112,Option.isNone,lhB,liB]
  repeat (refine ⟨by omega, ?_⟩)
  have hE0 : Ext (fun _ => False) h (h ++ [Chunk.cells true [.int .i64 xk, .int .i64 xf, .int .i64 xv, .int .i64 xs, .fam 32 1 fun i => .int .u8 (nat (xd i)), .osl xkb 0 0 1 xnb, .osl xkbs 0 0 1 xnbs, .osl xkp 0 0 73 xnp, .osl xkq 0 0 74 xnq, .int .i64 xkey, .fam 32 1 fun i => .int .u8 (nat (xof i))]]) := (Ext.refl _ _).app _
  refine hR _ _ (hm.ext hE0) (by omega) _ ?_
  intro H m1 hE hm1 hrow
  have hE1 := hE0.trans hE
  have hk1 := hE1.look hk (by simp) fun h => h
  obtain ⟨C, hC⟩ : ∃ C, C = enc m := ⟨_, rfl⟩
  rw [← hC] at hrow hK hlen1 ⊢
  simp -implicitDefEqProofs (maxSteps := 1000000) (disch := omega) only [↓vcB,↓gd,↓opP,↓qv,↓ef,↓bslS,↓stS,↓mkS,↓rangeS,↓nextS,↓entryS,↓delS,↓mupS,↓appS,↓s2bS,↓resS,evB,Sx.look,slot,↓lkL,putS,putO,argsL,↓reduceIte,ofV,of1,lookH,putH,List.replicate,List.append,convS,fldA,nthT,idxA,idxS,fldS,oslN,bnd,slS,unS,valI,lenS,lookS,takeC,psB,asRow,csB,rdF,Ent.row,ldS,sz,szL,wrF,bldF,plT,bldS,srcS,nilS,nilEq,mapC,binH,binS2,structS,eqL,eqF,binS,arrS,isI,tupS,stor,storL,Value.oneCell',minS,maxS,capS,Nat.reduceAdd,Nat.reduceSub,Nat.reduceMul,Nat.reduceLT,Nat.reduceLeDiff,Nat.reduceEqDiff,Nat.reduceBEq,Int.reduceToNat,Int.reduceNeg,if_true,if_false,reduceIte,stays,inL,same1,qn,ldN,convN,lenN,cond_true,cond_false,implies_true,Int.reduceEq,Int.reduceNe,Int.reduceLE,Int.reduceLT,forall_eq_or_imp,forall_eq,ne_eq,reduceCtorEq,notInt,numB,tabB,Array.reduceGetElem?,upG,up,nth,lay,rcB,rnm,rnmL,wrB,pcB,res108,res109,res110,res111,res112,pl112,Option.isNone,lhB,liB]
  repeat (refine ⟨by omega, ?_⟩)
  refine c107 B C k m1 w true H hk1 hrow (by omega) _ ?_
  intro H2 m2 hE2 hm2 hrow2
  obtain ⟨D, hD⟩ : ∃ D, D = B ++ putB C := ⟨_, rfl⟩
  rw [← hD] at hK hrow2 ⊢
  have hE3 := hE1.trans hE2
  have hl3 := hE3.1
  have hl1 := hE1.1
  simp -implicitDefEqProofs (maxSteps := 1000000) (disch := omega) only [↓vcB,↓gd,↓opP,↓qv,↓ef,↓bslS,↓stS,↓mkS,↓rangeS,↓nextS,↓entryS,↓delS,↓mupS,↓appS,↓s2bS,↓resS,evB,Sx.look,slot,↓lkL,putS,putO,argsL,↓reduceIte,ofV,of1,lookH,putH,List.replicate,List.append,convS,fldA,nthT,idxA,idxS,fldS,oslN,bnd,slS,unS,valI,lenS,lookS,takeC,psB,asRow,csB,rdF,Ent.row,ldS,sz,szL,wrF,bldF,plT,bldS,srcS,nilS,nilEq,mapC,binH,binS2,structS,eqL,eqF,binS,arrS,isI,tupS,stor,storL,Value.oneCell',minS,maxS,capS,Nat.reduceAdd,Nat.reduceSub,Nat.reduceMul,Nat.reduceLT,Nat.reduceLeDiff,Nat.reduceEqDiff,Nat.reduceBEq,Int.reduceToNat,Int.reduceNeg,if_true,if_false,reduceIte,stays,inL,same1,qn,ldN,convN,lenN,cond_true,cond_false,implies_true,Int.reduceEq,Int.reduceNe,Int.reduceLE,Int.reduceLT,forall_eq_or_imp,forall_eq,ne_eq,reduceCtorEq,notInt,numB,tabB,Array.reduceGetElem?,upG,up,nth,lay,rcB,rnm,rnmL,wrB,pcB,res108,res109,res110,res111,res112,pl112,Option.isNone,lhB,liB]
  repeat (refine ⟨by omega, ?_⟩)
  exact intoR_refl hl3 (hK _ _ hE3 (by omega) hrow2)
set_option maxHeartbeats 4000000 in
theorem c108 (B : List By) (k : Nat) (w : Bool) (bs : List (List By)) (kr : Nat) (wr : Bool) (fb : Nat → SV) (h : List Chunk) (hr : lookH h kr = .row wr bs.length 1 fb) (hbs : ∀ i, i < bs.length → rowB h (fb i) (bs.getD i [])) (hk : lookH h k = .row w B.length 1 (fun i => .int .u8 (nat (B.getD i 0)))) (hlen : (B ++ (leb bs.length ++ bs.flatMap putB)).length ≤ 17592186044416) (K : Tok → SV → List Chunk → Prop) (hK : Out (fun j => False) h (B ++ (leb bs.length ++ bs.flatMap putB)) K) :
    callP Try.prog 108 [.osl k 0 0 1 B.length, .osl kr 0 0 1 bs.length, .fn (.func 107) [] []] h K := by
  refine callP_of_code tabOk Try.func108 (by kernel_rfl) rfl (Nat.le_of_ble_eq_true rfl) (codeP_of_vc (pl := np) tabOk follows_mixed (by kernel_rfl) ?_)
  rw [Try.ntmps108]
  have hbl : bs.length ≤ 17592186044416 := by
    have h1 := len_flat putB (fun x => by exact putB_pos _) bs
    rw [List.length_append, List.length_append] at hlen
    omega
  have hu := len_u64 (n := bs.length) (by omega)
  have hu1 := hu.1
  have hl10 : (leb bs.length).length ≤ 10 := by have := leb_64 (BitVec.ofNat 64 bs.length); rwa [hu.2] at this
  have hB : B.length ≤ 17592186044416 := by rw [List.length_append] at hlen; omega
  simp -implicitDefEqProofs (maxSteps := 1000000) (disch := omega) only [↓vcB,↓gd,↓opP,↓qv,↓ef,↓bslS,↓stS,↓mkS,↓rangeS,↓nextS,↓entryS,↓delS,↓mupS,↓appS,↓s2bS,↓resS,evB,Sx.look,slot,↓lkL,putS,putO,argsL,↓reduceIte,ofV,of1,lookH,putH,List.replicate,List.append,convS,fldA,nthT,idxA,idxS,fldS,oslN,bnd,slS,unS,valI,lenS,lookS,takeC,psB,asRow,csB,rdF,Ent.row,ldS,sz,szL,wrF,bldF,plT,bldS,srcS,nilS,nilEq,mapC,binH,binS2,structS,eqL,eqF,binS,arrS,isI,tupS,stor,storL,Value.oneCell',minS,maxS,capS,Nat.reduceAdd,Nat.reduceSub,Nat.reduceMul,Nat.reduceLT,Nat.reduceLeDiff,Nat.reduceEqDiff,Nat.reduceBEq,Int.reduceToNat,Int.reduceNeg,if_true,if_false,reduceIte,stays,inL,same1,qn,ldN,convN,lenN,cond_true,cond_false,implies_true,Int.reduceEq,Int.reduceNe,Int.reduceLE,Int.reduceLT,forall_eq_or_imp,forall_eq,ne_eq,reduceCtorEq,notInt,numB,tabB,Array.reduceGetElem?,upG,up,nth,lay,rcB,rnm,rnmL,wrB,pcB,res108,res109,res110,res111,res112,pl112,Option.isNone,lhB,hk,hu1,liB]
  repeat (refine ⟨by omega, ?_⟩)
  refine c106 B k w _ h hk (by omega) _ ?_
  intro H0 m0 hE0 hm0 hrow0
  rw [hu.2] at hrow0 ⊢
  obtain ⟨T, hT⟩ : ∃ T, T = B ++ (leb bs.length ++ bs.flatMap putB) := ⟨_, rfl⟩
  rw [← hT] at hlen hK
  obtain ⟨D0, hD0⟩ : ∃ D0, D0 = B ++ leb bs.length := ⟨_, rfl⟩
  rw [← hD0] at hrow0 ⊢
  have hDT : D0 ++ bs.flatMap putB = T := by rw [hD0, hT, List.append_assoc]
  simp -implicitDefEqProofs (maxSteps := 1000000) (disch := omega) only [↓vcB,↓gd,↓opP,↓qv,↓ef,↓bslS,↓stS,↓mkS,↓rangeS,↓nextS,↓entryS,↓delS,↓mupS,↓appS,↓s2bS,↓resS,evB,Sx.look,slot,↓lkL,putS,putO,argsL,↓reduceIte,ofV,of1,lookH,putH,List.replicate,List.append,convS,fldA,nthT,idxA,idxS,fldS,oslN,bnd,slS,unS,valI,lenS,lookS,takeC,psB,asRow,csB,rdF,Ent.row,ldS,sz,szL,wrF,bldF,plT,bldS,srcS,nilS,nilEq,mapC,binH,binS2,structS,eqL,eqF,binS,arrS,isI,tupS,stor,storL,Value.oneCell',minS,maxS,capS,Nat.reduceAdd,Nat.reduceSub,Nat.reduceMul,Nat.reduceLT,Nat.reduceLeDiff,Nat.reduceEqDiff,Nat.reduceBEq,Int.reduceToNat,Int.reduceNeg,if_true,if_false,reduceIte,stays,inL,same1,qn,ldN,convN,lenN,cond_true,cond_false,implies_true,Int.reduceEq,Int.reduceNe,Int.reduceLE,Int.reduceLT,forall_eq_or_imp,forall_eq,ne_eq,reduceCtorEq,notInt,numB,tabB,Array.reduceGetElem?,upG,up,nth,lay,rcB,rnm,rnmL,wrB,pcB,res108,res109,res110,res111,res112,pl112,Option.isNone,lhB,liB]
  repeat (refine ⟨by omega, ?_⟩)
  refine codeP_loop (pl := np) tabOk follows_mixed (by kernel_rfl) (fun z st => ∃ (i : Nat) (D : List By) (H : List Chunk) (m : Nat) (j : Nat → Value), i + z = bs.length ∧ D ++ (bs.drop i).flatMap putB = T ∧ Ext (fun _ => False) h H ∧ h.length ≤ m ∧ lookH H m = .row true D.length 1 (fun i => .int .u8 (nat (D.getD i 0))) ∧ st = ⟨⟨31, [(2, .fn (.func 107) [] []), (6, .v (.slice none 0 0)), (7, .osl m 0 0 1 D.length), (19, .osl kr 0 0 1 bs.length), (20, .int .i64 (bs.length : Nat)), (21, .int .i64 (i : Nat))], j⟩, H, []⟩) ?_ ?_
  · exact into_keep [(2, .fn (.func 107) [] []), (6, .v (.slice none 0 0)), (7, .osl m0 0 0 1 D0.length), (19, .osl kr 0 0 1 bs.length), (20, .int .i64 (bs.length : Nat)), (21, .int .i64 (0 : Nat))] (by simp [sameT, slot, lkL]) fun j => ⟨bs.length, 0, D0, H0, m0, j, by omega, hDT, hE0, hm0, hrow0, rfl⟩
  · rintro z st ⟨i, D, H, m, j, hiz, hD, hE, hm, hrow, rfl⟩
    have hhl := hE.1
    by_cases hi : i < bs.length
    · have g1 : decide ((i : Int) < (bs.length : Nat)) = true := decide_eq_true (by omega)
      have a1 : IntKind.i64.wrap ((i : Int) + 1) = ((i + 1 : Nat) : Int) := by rw [wrap64 (by omega) (by omega)]; omega
      have hr1 := hE.look hr (by simp) fun h => h
      rw [List.drop_eq_getElem_cons hi, List.flatMap_cons, ← List.append_assoc] at hD
      have hl2 := congrArg List.length hD
      rw [List.length_append] at hl2
      obtain ⟨k2, w2, hfi, hk2⟩ := hbs i hi
      have hg : bs.getD i [] = bs[i] := by simp [hi]
      rw [hg] at hfi hk2
      obtain ⟨C, hC⟩ : ∃ C, C = bs[i] := ⟨_, rfl⟩
      have hp : (D ++ putB C).length ≤ 17592186044416 := by rw [hC]; omega
      unfold putB at hp
      simp only [List.length_append] at hp
      rw [← hC] at hfi hk2
      simp -implicitDefEqProofs (maxSteps := 1000000) (disch := omega) only [↓vcB,↓gd,↓opP,↓qv,↓ef,↓bslS,↓stS,↓mkS,↓rangeS,↓nextS,↓entryS,↓delS,↓mupS,↓appS,↓s2bS,↓resS,evB,Sx.look,slot,↓lkL,putS,putO,argsL,↓reduceIte,ofV,of1,lookH,putH,List.replicate,List.append,convS,fldA,nthT,idxA,idxS,fldS,oslN,bnd,slS,unS,valI,lenS,lookS,takeC,psB,asRow,csB,rdF,Ent.row,ldS,sz,szL,wrF,bldF,plT,bldS,srcS,nilS,nilEq,mapC,binH,binS2,structS,eqL,eqF,binS,arrS,isI,tupS,stor,storL,Value.oneCell',minS,maxS,capS,Nat.reduceAdd,Nat.reduceSub,Nat.reduceMul,Nat.reduceLT,Nat.reduceLeDiff,Nat.reduceEqDiff,Nat.reduceBEq,Int.reduceToNat,Int.reduceNeg,if_true,if_false,reduceIte,stays,inL,same1,qn,ldN,convN,lenN,cond_true,cond_false,implies_true,Int.reduceEq,Int.reduceNe,Int.reduceLE,Int.reduceLT,forall_eq_or_imp,forall_eq,ne_eq,reduceCtorEq,notInt,numB,tabB,Array.reduceGetElem?,upG,up,nth,lay,rcB,rnm,rnmL,wrB,pcB,res108,res109,res110,res111,res112,pl112,Option.isNone,lhB,g1,hr1,hfi,liB]
      repeat (refine ⟨by omega, ?_⟩)
      have hEm := hE
      refine c107 D C m k2 true w2 H hrow (hE.look hk2 (by simp) fun h => h) (by omega) _ ?_
      rw [hC]
      intro H2 m2 hE2 hm2 hrow2
      obtain ⟨D2, hD2⟩ : ∃ D2, D2 = D ++ putB bs[i] := ⟨_, rfl⟩
      rw [← hD2] at hrow2 hD ⊢
      have hE3 := hEm.trans hE2
      have hl3 := hEm.1
      simp -implicitDefEqProofs (maxSteps := 1000000) (disch := omega) only [↓vcB,↓gd,↓opP,↓qv,↓ef,↓bslS,↓stS,↓mkS,↓rangeS,↓nextS,↓entryS,↓delS,↓mupS,↓appS,↓s2bS,↓resS,evB,Sx.look,slot,↓lkL,putS,putO,argsL,↓reduceIte,ofV,of1,lookH,putH,List.replicate,List.append,convS,fldA,nthT,idxA,idxS,fldS,oslN,bnd,slS,unS,valI,lenS,lookS,takeC,psB,asRow,csB,rdF,Ent.row,ldS,sz,szL,wrF,bldF,plT,bldS,srcS,nilS,nilEq,mapC,binH,binS2,structS,eqL,eqF,binS,arrS,isI,tupS,stor,storL,Value.oneCell',minS,maxS,capS,Nat.reduceAdd,Nat.reduceSub,Nat.reduceMul,Nat.reduceLT,Nat.reduceLeDiff,Nat.reduceEqDiff,Nat.reduceBEq,Int.reduceToNat,Int.reduceNeg,if_true,if_false,reduceIte,stays,inL,same1,qn,ldN,convN,lenN,cond_true,cond_false,implies_true,Int.reduceEq,Int.reduceNe,Int.reduceLE,Int.reduceLT,forall_eq_or_imp,forall_eq,ne_eq,reduceCtorEq,notInt,numB,tabB,Array.reduceGetElem?,upG,up,nth,lay,rcB,rnm,rnmL,wrB,pcB,res108,res109,res110,res111,res112,pl112,Option.isNone,lhB,a1,liB]
      repeat (refine ⟨by omega, ?_⟩)
      exact into_keep [(2, .fn (.func 107) [] []), (6, .v (.slice none 0 0)), (7, .osl m2 0 0 1 D2.length), (19, .osl kr 0 0 1 bs.length), (20, .int .i64 (bs.length : Nat)), (21, .int .i64 (i + 1 : Nat))] (by simp [sameT, slot, lkL]) fun j => ⟨z - 1, by omega, i + 1, D2, H2, m2, j, by omega, hD, hE3, by omega, hrow2, rfl⟩
    · have g1 : decide ((i : Int) < (bs.length : Nat)) = false := decide_eq_false (by omega)
      have hd : bs.drop i = [] := List.drop_of_length_le (by omega)
      rw [hd, List.flatMap_nil, List.append_nil] at hD
      subst hD
      simp -implicitDefEqProofs (maxSteps := 1000000) (disch := omega) only [↓vcB,↓gd,↓opP,↓qv,↓ef,↓bslS,↓stS,↓mkS,↓rangeS,↓nextS,↓entryS,↓delS,↓mupS,↓appS,↓s2bS,↓resS,evB,Sx.look,slot,↓lkL,putS,putO,argsL,↓reduceIte,ofV,of1,lookH,putH,List.replicate,List.append,convS,fldA,nthT,idxA,idxS,fldS,oslN,bnd,slS,unS,valI,lenS,lookS,takeC,psB,asRow,csB,rdF,Ent.row,ldS,sz,szL,wrF,bldF,plT,bldS,srcS,nilS,nilEq,mapC,binH,binS2,structS,eqL,eqF,binS,arrS,isI,tupS,stor,storL,Value.oneCell',minS,maxS,capS,Nat.reduceAdd,Nat.reduceSub,Nat.reduceMul,Nat.reduceLT,Nat.reduceLeDiff,Nat.reduceEqDiff,Nat.reduceBEq,Int.reduceToNat,Int.reduceNeg,if_true,if_false,reduceIte,stays,inL,same1,qn,ldN,convN,lenN,cond_true,cond_false,implies_true,Int.reduceEq,Int.reduceNe,Int.reduceLE,Int.reduceLT,forall_eq_or_imp,forall_eq,ne_eq,reduceCtorEq,notInt,numB,tabB,Array.reduceGetElem?,upG,up,nth,lay,rcB,rnm,rnmL,wrB,pcB,res108,res109,res110,res111,res112,pl112,Option.isNone,lhB,g1,liB]
      repeat (refine ⟨by omega, ?_⟩)
      exact intoR_refl hhl (hK _ _ hE hm hrow)
set_option maxHeartbeats 4000000 in
theorem c109 (B : List By) (k : Nat) (w : Bool) (bs : List Msg) (kr : Nat) (wr : Bool) (fp : Nat → List SV) (h : List Chunk) (hr : lookH h kr = .row wr bs.length 73 fun i => .agg (fp i)) (hp : MsgsH h bs fp) (IH : ∀ m ∈ bs, EncAt 51 m) (hk : lookH h k = .row w B.length 1 (fun i => .int .u8 (nat (B.getD i 0)))) (hlen : (B ++ (leb bs.length ++ bs.flatMap (fun m => putB (enc m)))).length ≤ 17592186044416) (K : Tok → SV → List Chunk → Prop) (hK : Out (fun j => False) h (B ++ (leb bs.length ++ bs.flatMap (fun m => putB (enc m)))) K) :
    callP Try.prog 109 [.osl k 0 0 1 B.length, .osl kr 0 0 73 bs.length, .fn (.func 110) [] []] h K := by
  refine callP_of_code tabOk Try.func109 (by kernel_rfl) rfl (Nat.le_of_ble_eq_true rfl) (codeP_of_vc (pl := np) tabOk follows_mixed (by kernel_rfl) ?_)
  rw [Try.ntmps109]
  have hbl : bs.length ≤ 17592186044416 := by
    have h1 := len_flat (fun m => putB (enc m)) (fun x => by exact putB_pos _) bs
    rw [List.length_append, List.length_append] at hlen
    omega
  have hu := len_u64 (n := bs.length) (by omega)
  have hu1 := hu.1
  have hl10 : (leb bs.length).length ≤ 10 := by have := leb_64 (BitVec.ofNat 64 bs.length); rwa [hu.2] at this
  have hB : B.length ≤ 17592186044416 := by rw [List.length_append] at hlen; omega
  simp -implicitDefEqProofs (maxSteps := 1000000) (disch := omega) only [↓vcB,↓gd,↓opP,↓qv,↓ef,↓bslS,↓stS,↓mkS,↓rangeS,↓nextS,↓entryS,↓delS,↓mupS,↓appS,↓s2bS,↓resS,evB,Sx.look,slot,↓lkL,putS,putO,argsL,↓reduceIte,ofV,of1,lookH,putH,List.replicate,List.append,convS,fldA,nthT,idxA,idxS,fldS,oslN,bnd,slS,unS,valI,lenS,lookS,takeC,psB,asRow,csB,rdF,Ent.row,ldS,sz,szL,wrF,bldF,plT,bldS,srcS,nilS,nilEq,mapC,binH,binS2,structS,eqL,eqF,binS,arrS,isI,tupS,stor,storL,Value.oneCell',minS,maxS,capS,Nat.reduceAdd,Nat.reduceSub,Nat.reduceMul,Nat.reduceLT,Nat.reduceLeDiff,Nat.reduceEqDiff,Nat.reduceBEq,Int.reduceToNat,Int.reduceNeg,if_true,if_false,reduceIte,stays,inL,same1,qn,ldN,convN,lenN,cond_true,cond_false,implies_true,Int.reduceEq,Int.reduceNe,Int.reduceLE,Int.reduceLT,forall_eq_or_imp,forall_eq,ne_eq,reduceCtorEq,notInt,numB,tabB,Array.reduceGetElem?,upG,up,nth,lay,rcB,rnm,rnmL,wrB,pcB,res108,res109,res110,res111,res112,pl112,Option.isNone,lhB,hk,hu1,liB]
  repeat (refine ⟨by omega, ?_⟩)
  refine c106 B k w _ h hk (by omega) _ ?_
  intro H0 m0 hE0 hm0 hrow0
  rw [hu.2] at hrow0 ⊢
  obtain ⟨T, hT⟩ : ∃ T, T = B ++ (leb bs.length ++ bs.flatMap (fun m => putB (enc m))) := ⟨_, rfl⟩
  rw [← hT] at hlen hK
  obtain ⟨D0, hD0⟩ : ∃ D0, D0 = B ++ leb bs.length := ⟨_, rfl⟩
  rw [← hD0] at hrow0 ⊢
  have hDT : D0 ++ bs.flatMap (fun m => putB (enc m)) = T := by rw [hD0, hT, List.append_assoc]
  simp -implicitDefEqProofs (maxSteps := 1000000) (disch := omega) only [↓vcB,↓gd,↓opP,↓qv,↓ef,↓bslS,↓stS,↓mkS,↓rangeS,↓nextS,↓entryS,↓delS,↓mupS,↓appS,↓s2bS,↓resS,evB,Sx.look,slot,↓lkL,putS,putO,argsL,↓reduceIte,ofV,of1,lookH,putH,List.replicate,List.append,convS,fldA,nthT,idxA,idxS,fldS,oslN,bnd,slS,unS,valI,lenS,lookS,takeC,psB,asRow,csB,rdF,Ent.row,ldS,sz,szL,wrF,bldF,plT,bldS,srcS,nilS,nilEq,mapC,binH,binS2,structS,eqL,eqF,binS,arrS,isI,tupS,stor,storL,Value.oneCell',minS,maxS,capS,Nat.reduceAdd,Nat.reduceSub,Nat.reduceMul,Nat.reduceLT,Nat.reduceLeDiff,Nat.reduceEqDiff,Nat.reduceBEq,Int.reduceToNat,Int.reduceNeg,if_true,if_false,reduceIte,stays,inL,same1,qn,ldN,convN,lenN,cond_true,cond_false,implies_true,Int.reduceEq,Int.reduceNe,Int.reduceLE,Int.reduceLT,forall_eq_or_imp,forall_eq,ne_eq,reduceCtorEq,notInt,numB,tabB,Array.reduceGetElem?,upG,up,nth,lay,rcB,rnm,rnmL,wrB,pcB,res108,res109,res110,res111,res112,pl112,Option.isNone,lhB,liB]
  repeat (refine ⟨by omega, ?_⟩)
  refine codeP_loop (pl := np) tabOk follows_mixed (by kernel_rfl) (fun z st => ∃ (i : Nat) (D : List By) (H : List Chunk) (m : Nat) (j : Nat → Value), i + z = bs.length ∧ D ++ (bs.drop i).flatMap (fun m => putB (enc m)) = T ∧ Ext (fun _ => False) h H ∧ h.length ≤ m ∧ lookH H m = .row true D.length 1 (fun i => .int .u8 (nat (D.getD i 0))) ∧ st = ⟨⟨31, [(2, .fn (.func 110) [] []), (6, .v (.slice none 0 0)), (7, .osl m 0 0 1 D.length), (19, .osl kr 0 0 73 bs.length), (20, .int .i64 (bs.length : Nat)), (21, .int .i64 (i : Nat))], j⟩, H, []⟩) ?_ ?_
  · exact into_keep [(2, .fn (.func 110) [] []), (6, .v (.slice none 0 0)), (7, .osl m0 0 0 1 D0.length), (19, .osl kr 0 0 73 bs.length), (20, .int .i64 (bs.length : Nat)), (21, .int .i64 (0 : Nat))] (by simp [sameT, slot, lkL]) fun j => ⟨bs.length, 0, D0, H0, m0, j, by omega, hDT, hE0, hm0, hrow0, rfl⟩
  · rintro z st ⟨i, D, H, m, j, hiz, hD, hE, hm, hrow, rfl⟩
    have hhl := hE.1
    by_cases hi : i < bs.length
    · have g1 : decide ((i : Int) < (bs.length : Nat)) = true := decide_eq_true (by omega)
      have a1 : IntKind.i64.wrap ((i : Int) + 1) = ((i + 1 : Nat) : Int) := by rw [wrap64 (by omega) (by omega)]; omega
      have hr1 := hE.look hr (by simp) fun h => h
      rw [List.drop_eq_getElem_cons hi, List.flatMap_cons, ← List.append_assoc] at hD
      have hl2 := congrArg List.length hD
      rw [List.length_append] at hl2
      have hM := hp.get hi
      obtain ⟨xk, xf, xv, xs, xd, xkb, xnb, xkbs, xnbs, xkp, xnp, xkq, xnq, xkey, xof, hfi⟩ := hM.open
      rw [hfi] at hM
      simp -implicitDefEqProofs (maxSteps := 1000000) (disch := omega) only [↓vcB,↓gd,↓opP,↓qv,↓ef,↓bslS,↓stS,↓mkS,↓rangeS,↓nextS,↓entryS,↓delS,↓mupS,↓appS,↓s2bS,↓resS,evB,Sx.look,slot,↓lkL,putS,putO,argsL,↓reduceIte,ofV,of1,lookH,putH,List.replicate,List.append,convS,fldA,nthT,idxA,idxS,fldS,oslN,bnd,slS,unS,valI,lenS,lookS,takeC,psB,asRow,csB,rdF,Ent.row,ldS,sz,szL,wrF,bldF,plT,bldS,srcS,nilS,nilEq,mapC,binH,binS2,structS,eqL,eqF,binS,arrS,isI,tupS,stor,storL,Value.oneCell',minS,maxS,capS,Nat.reduceAdd,Nat.reduceSub,Nat.reduceMul,Nat.reduceLT,Nat.reduceLeDiff,Nat.reduceEqDiff,Nat.reduceBEq,Int.reduceToNat,Int.reduceNeg,if_true,if_false,reduceIte,stays,inL,same1,qn,ldN,convN,lenN,cond_true,cond_false,implies_true,Int.reduceEq,Int.reduceNe,Int.reduceLE,Int.reduceLT,forall_eq_or_imp,forall_eq,ne_eq,reduceCtorEq,notInt,numB,tabB,Array.reduceGetElem?,upG,up,nth,lay,rcB,rnm,rnmL,wrB,pcB,res108,res109,res110,res111,res112,pl112,Option.isNone,lhB,g1,hr1,hfi,liB]
      repeat (refine ⟨by omega, ?_⟩)
      have hEm : Ext (fun _ => False) h (H ++ [Chunk.cells true [.int .i64 xk, .int .i64 xf, .int .i64 xv, .int .i64 xs, .fam 32 1 fun i => .int .u8 (nat (xd i)), .osl xkb 0 0 1 xnb, .osl xkbs 0 0 1 xnbs, .osl xkp 0 0 73 xnp, .osl xkq 0 0 74 xnq, .int .i64 xkey, .fam 32 1 fun i => .int .u8 (nat (xof i))]]) := hE.app _
      have hrowm : lookH (H ++ [Chunk.cells true [.int .i64 xk, .int .i64 xf, .int .i64 xv, .int .i64 xs, .fam 32 1 fun i => .int .u8 (nat (xd i)), .osl xkb 0 0 1 xnb, .osl xkbs 0 0 1 xnbs, .osl xkp 0 0 73 xnp, .osl xkq 0 0 74 xnq, .int .i64 xkey, .fam 32 1 fun i => .int .u8 (nat (xof i))]]) m = .row true D.length 1 (fun i => .int .u8 (nat (D.getD i 0))) := by rw [lookH_at _ (lookH_lt hrow (by simp))]; exact hrow
      refine c110 D m true bs[i] (IH _ (List.getElem_mem hi)) _ _ (hM.ext hEm) hrowm (by omega) _ ?_
      intro H2 m2 hE2 hm2 hrow2
      obtain ⟨D2, hD2⟩ : ∃ D2, D2 = D ++ (fun m => putB (enc m)) bs[i] := ⟨_, rfl⟩
      rw [← hD2] at hrow2 hD ⊢
      have hE3 := hEm.trans hE2
      have hl3 := hEm.1
      simp -implicitDefEqProofs (maxSteps := 1000000) (disch := omega) only [↓vcB,↓gd,↓opP,↓qv,↓ef,↓bslS,↓stS,↓mkS,↓rangeS,↓nextS,↓entryS,↓delS,↓mupS,↓appS,↓s2bS,↓resS,evB,Sx.look,slot,↓lkL,putS,putO,argsL,↓reduceIte,ofV,of1,lookH,putH,List.replicate,List.append,convS,fldA,nthT,idxA,idxS,fldS,oslN,bnd,slS,unS,valI,lenS,lookS,takeC,psB,asRow,csB,rdF,Ent.row,ldS,sz,szL,wrF,bldF,plT,bldS,srcS,nilS,nilEq,mapC,binH,binS2,structS,eqL,eqF,binS,arrS,isI,tupS,stor,storL,Value.oneCell',minS,maxS,capS,Nat.reduceAdd,Nat.reduceSub,Nat.reduceMul,Nat.reduceLT,Nat.reduceLeDiff,Nat.reduceEqDiff,Nat.reduceBEq,Int.reduceToNat,Int.reduceNeg,if_true,if_false,reduceIte,stays,inL,same1,qn,ldN,convN,lenN,cond_true,cond_false,implies_true,Int.reduceEq,Int.reduceNe,Int.reduceLE,Int.reduceLT,forall_eq_or_imp,forall_eq,ne_eq,reduceCtorEq,notInt,numB,tabB,Array.reduceGetElem?,upG,up,nth,lay,rcB,rnm,rnmL,wrB,pcB,res108,res109,res110,res111,res112,pl112,Option.isNone,lhB,a1,liB]
      repeat (refine ⟨by omega, ?_⟩)
      exact into_keep [(2, .fn (.func 110) [] []), (6, .v (.slice none 0 0)), (7, .osl m2 0 0 1 D2.length), (19, .osl kr 0 0 73 bs.length), (20, .int .i64 (bs.length : Nat)), (21, .int .i64 (i + 1 : Nat))] (by simp [sameT, slot, lkL]) fun j => ⟨z - 1, by omega, i + 1, D2, H2, m2, j, by omega, hD, hE3, by omega, hrow2, rfl⟩
    · have g1 : decide ((i : Int) < (bs.length : Nat)) = false := decide_eq_false (by omega)
      have hd : bs.drop i = [] := List.drop_of_length_le (by omega)
      rw [hd, List.flatMap_nil, List.append_nil] at hD
      subst hD
      simp -implicitDefEqProofs (maxSteps := 1000000) (disch := omega) only [↓vcB,↓gd,↓opP,↓qv,↓ef,↓bslS,↓stS,↓mkS,↓rangeS,↓nextS,↓entryS,↓delS,↓mupS,↓appS,↓s2bS,↓resS,evB,Sx.look,slot,↓lkL,putS,putO,argsL,↓reduceIte,ofV,of1,lookH,putH,List.replicate,List.append,convS,fldA,nthT,idxA,idxS,fldS,oslN,bnd,slS,unS,valI,lenS,lookS,takeC,psB,asRow,csB,rdF,Ent.row,ldS,sz,szL,wrF,bldF,plT,bldS,srcS,nilS,nilEq,mapC,binH,binS2,structS,eqL,eqF,binS,arrS,isI,tupS,stor,storL,Value.oneCell',minS,maxS,capS,Nat.reduceAdd,Nat.reduceSub,Nat.reduceMul,Nat.reduceLT,Nat.reduceLeDiff,Nat.reduceEqDiff,Nat.reduceBEq,Int.reduceToNat,Int.reduceNeg,if_true,if_false,reduceIte,stays,inL,same1,qn,ldN,convN,lenN,cond_true,cond_false,implies_true,Int.reduceEq,Int.reduceNe,Int.reduceLE,Int.reduceLT,forall_eq_or_imp,forall_eq,ne_eq,reduceCtorEq,notInt,numB,tabB,Array.reduceGetElem?,upG,up,nth,lay,rcB,rnm,rnmL,wrB,pcB,res108,res109,res110,res111,res112,pl112,Option.isNone,lhB,g1,liB]
      repeat (refine ⟨by omega, ?_⟩)
      exact intoR_refl hhl (hK _ _ hE hm hrow)
def encP (x : Msg × List Msg) : List By := putB (enc x.1) ++ (leb x.2.length ++ x.2.flatMap fun m => putB (enc m))
set_option maxHeartbeats 4000000 in
theorem c112 (B : List By) (k : Nat) (w : Bool) (x : Msg × List Msg) (hR : EncAt 51 x.1) (hL : ∀ m ∈ x.2, EncAt 51 m) (l : List SV) (kl nl : Nat) (wl : Bool) (fl : Nat → List SV) (h : List Chunk) (hm : MsgH h x.1 l) (hnl : nl = x.2.length) (hrl : lookH h kl = .row wl nl 73 fun i => .agg (fl i)) (hls : MsgsH h x.2 fl) (hk : lookH h k = .row w B.length 1 (fun i => .int .u8 (nat (B.getD i 0)))) (hlen : (B ++ encP x).length ≤ 17592186044416) (K : Tok → SV → List Chunk → Prop) (hK : Out (fun j => False) h (B ++ encP x) K) :
    callP Try.prog 112 [.osl k 0 0 1 B.length, .agg (l ++ [.osl kl 0 0 73 nl])] h K := by
  obtain ⟨xk, xf, xv, xs, xd, xkb, xnb, xkbs, xnbs, xkp, xnp, xkq, xnq, xkey, xof, rfl⟩ := hm.open
  simp only [List.cons_append, List.nil_append]
  refine callP_of_code tabOk Try.func112 (by kernel_rfl) rfl (Nat.le_of_ble_eq_true rfl) (codeP_of_vc (pl := pl112) tabOk follows_mixed (by kernel_rfl) ?_)
  rw [Try.ntmps112]
  simp -implicitDefEqProofs (maxSteps := 1000000) (disch := omega) only [↓vcB,↓gd,↓opP,↓qv,↓ef,↓bslS,↓stS,↓mkS,↓rangeS,↓nextS,↓entryS,↓delS,↓mupS,↓appS,↓s2bS,↓resS,evB,Sx.look,slot,↓lkL,putS,putO,argsL,↓reduceIte,ofV,of1,lookH,putH,List.replicate,List.append,convS,fldA,nthT,idxA,idxS,fldS,oslN,bnd,slS,unS,valI,lenS,lookS,takeC,psB,asRow,csB,rdF,Ent.row,ldS,sz,szL,wrF,bldF,plT,bldS,srcS,nilS,nilEq,mapC,binH,binS2,structS,eqL,eqF,binS,arrS,isI,tupS,stor,storL,Value.oneCell',minS,maxS,capS,Nat.reduceAdd,Nat.reduceSub,Nat.reduceMul,Nat.reduceLT,Nat.reduceLeDiff,Nat.reduceEqDiff,Nat.reduceBEq,Int.reduceToNat,Int.reduceNeg,if_true,if_false,reduceIte,stays,inL,same1,qn,ldN,convN,lenN,cond_true,cond_false,implies_true,Int.reduceEq,Int.reduceNe,Int.reduceLE,Int.reduceLT,forall_eq_or_imp,forall_eq,ne_eq,reduceCtorEq,notInt,numB,tabB,Array.reduceGetElem?,upG,up,nth,lay,rcB,rnm,rnmL,wrB,pcB,res108,res109,res110,res111,res112,pl112,Option.isNone,lhB,liB]
  repeat (refine ⟨by omega, ?_⟩)
  have hE0 : Ext (fun _ => False) h (h ++ [Chunk.cells true [.int .i64 xk, .int .i64 xf, .int .i64 xv, .int .i64 xs, .fam 32 1 fun i => .int .u8 (nat (xd i)), .osl xkb 0 0 1 xnb, .osl xkbs 0 0 1 xnbs, .osl xkp 0 0 73 xnp, .osl xkq 0 0 74 xnq, .int .i64 xkey, .fam 32 1 fun i => .int .u8 (nat (xof i)), .osl kl 0 0 73 nl]]) := (Ext.refl _ _).app _
  have hk0 := hE0.look hk (by simp) fun h => h
  have hlen1 := hlen
  unfold encP at hlen1
  rw [← List.append_assoc] at hlen1
  have hlen2 := hlen1
  rw [List.length_append] at hlen2
  refine c110 B k w x.1 hR _ _ (hm.ext hE0) hk0 (by omega) _ ?_
  intro H m1 hE hm1 hrow
  have hE1 := hE0.trans hE
  have hx : lookH H h.length = Chunk.cells true [.int .i64 xk, .int .i64 xf, .int .i64 xv, .int .i64 xs, .fam 32 1 fun i => .int .u8 (nat (xd i)), .osl xkb 0 0 1 xnb, .osl xkbs 0 0 1 xnbs, .osl xkp 0 0 73 xnp, .osl xkq 0 0 74 xnq, .int .i64 xkey, .fam 32 1 fun i => .int .u8 (nat (xof i)), .osl kl 0 0 73 nl] := hE.look (lookH_end _ _) (by simp) fun h => h
  refine ⟨hx, ?_⟩
  obtain ⟨D, hD⟩ : ∃ D, D = B ++ putB (enc x.1) := ⟨_, rfl⟩
  rw [← hD] at hlen1 hrow ⊢
  simp -implicitDefEqProofs (maxSteps := 1000000) (disch := omega) only [↓vcB,↓gd,↓opP,↓qv,↓ef,↓bslS,↓stS,↓mkS,↓rangeS,↓nextS,↓entryS,↓delS,↓mupS,↓appS,↓s2bS,↓resS,evB,Sx.look,slot,↓lkL,putS,putO,argsL,↓reduceIte,ofV,of1,lookH,putH,List.replicate,List.append,convS,fldA,nthT,idxA,idxS,fldS,oslN,bnd,slS,unS,valI,lenS,lookS,takeC,psB,asRow,csB,rdF,Ent.row,ldS,sz,szL,wrF,bldF,plT,bldS,srcS,nilS,nilEq,mapC,binH,binS2,structS,eqL,eqF,binS,arrS,isI,tupS,stor,storL,Value.oneCell',minS,maxS,capS,Nat.reduceAdd,Nat.reduceSub,Nat.reduceMul,Nat.reduceLT,Nat.reduceLeDiff,Nat.reduceEqDiff,Nat.reduceBEq,Int.reduceToNat,Int.reduceNeg,if_true,if_false,reduceIte,stays,inL,same1,qn,ldN,convN,lenN,cond_true,cond_false,implies_true,Int.reduceEq,Int.reduceNe,Int.reduceLE,Int.reduceLT,forall_eq_or_imp,forall_eq,ne_eq,reduceCtorEq,notInt,numB,tabB,Array.reduceGetElem?,upG,up,nth,lay,rcB,rnm,rnmL,wrB,pcB,res108,res109,res110,res111,res112,pl112,Option.isNone,lhB,hx,liB]
  repeat (refine ⟨by omega, ?_⟩)
  rw [hnl] at hrl ⊢
  refine c109 D m1 true x.2 kl wl fl H (hE1.look hrl (by simp) fun h => h) (hls.ext hE1) hL hrow hlen1 _ ?_
  intro H2 m2 hE2 hm2 hrow2
  have e : D ++ (leb x.2.length ++ x.2.flatMap fun m => putB (enc m)) = B ++ encP x := by unfold encP; rw [hD, List.append_assoc]
  rw [e] at hrow2 ⊢
  obtain ⟨D2, hD2⟩ : ∃ D2, D2 = B ++ encP x := ⟨_, rfl⟩
  rw [← hD2] at hK hrow2 ⊢
  have hE3 := hE1.trans hE2
  have hl3 := hE3.1
  have hl1 := hE1.1
  simp -implicitDefEqProofs (maxSteps := 1000000) (disch := omega) only [↓vcB,↓gd,↓opP,↓qv,↓ef,↓bslS,↓stS,↓mkS,↓rangeS,↓nextS,↓entryS,↓delS,↓mupS,↓appS,↓s2bS,↓resS,evB,Sx.look,slot,↓lkL,putS,putO,argsL,↓reduceIte,ofV,of1,lookH,putH,List.replicate,List.append,convS,fldA,nthT,idxA,idxS,fldS,oslN,bnd,slS,unS,valI,lenS,lookS,takeC,psB,asRow,csB,rdF,Ent.row,ldS,sz,szL,wrF,bldF,plT,bldS,srcS,nilS,nilEq,mapC,binH,binS2,structS,eqL,eqF,binS,arrS,isI,tupS,stor,storL,Value.oneCell',minS,maxS,capS,Nat.reduceAdd,Nat.reduceSub,Nat.reduceMul,Nat.reduceLT,Nat.reduceLeDiff,Nat.reduceEqDiff,Nat.reduceBEq,Int.reduceToNat,Int.reduceNeg,if_true,if_false,reduceIte,stays,inL,same1,qn,ldN,convN,lenN,cond_true,cond_false,implies_true,Int.reduceEq,Int.reduceNe,Int.reduceLE,Int.reduceLT,forall_eq_or_imp,forall_eq,ne_eq,reduceCtorEq,notInt,numB,tabB,Array.reduceGetElem?,upG,up,nth,lay,rcB,rnm,rnmL,wrB,pcB,res108,res109,res110,res111,res112,pl112,Option.isNone,lhB,liB]
  repeat (refine ⟨by omega, ?_⟩)
  exact intoR_refl hl3 (hK _ _ hE3 (by omega) hrow2)
set_option maxHeartbeats 4000000 in
theorem c111 (B : List By) (k : Nat) (w : Bool) (bs : List (Msg × List Msg)) (kr : Nat) (wr : Bool) (fp : Nat → List SV) (h : List Chunk) (hr : lookH h kr = .row wr bs.length 74 fun i => .agg (fp i)) (hp : PrepsH h bs fp) (IH : ∀ x ∈ bs, EncAt 51 x.1 ∧ ∀ m ∈ x.2, EncAt 51 m) (hk : lookH h k = .row w B.length 1 (fun i => .int .u8 (nat (B.getD i 0)))) (hlen : (B ++ (leb bs.length ++ bs.flatMap encP)).length ≤ 17592186044416) (K : Tok → SV → List Chunk → Prop) (hK : Out (fun j => False) h (B ++ (leb bs.length ++ bs.flatMap encP)) K) :
    callP Try.prog 111 [.osl k 0 0 1 B.length, .osl kr 0 0 74 bs.length, .fn (.func 112) [] []] h K := by
  refine callP_of_code tabOk Try.func111 (by kernel_rfl) rfl (Nat.le_of_ble_eq_true rfl) (codeP_of_vc (pl := np) tabOk follows_mixed (by kernel_rfl) ?_)
  rw [Try.ntmps111]
  have hbl : bs.length ≤ 17592186044416 := by
    have h1 := len_flat encP (fun x => by unfold encP; exact putB_pos2 _ _) bs
    rw [List.length_append, List.length_append] at hlen
    omega
  have hu := len_u64 (n := bs.length) (by omega)
  have hu1 := hu.1
  have hl10 : (leb bs.length).length ≤ 10 := by have := leb_64 (BitVec.ofNat 64 bs.length); rwa [hu.2] at this
  have hB : B.length ≤ 17592186044416 := by rw [List.length_append] at hlen; omega
  simp -implicitDefEqProofs (maxSteps := 1000000) (disch := omega) only [↓vcB,↓gd,↓opP,↓qv,↓ef,↓bslS,↓stS,↓mkS,↓rangeS,↓nextS,↓entryS,↓delS,↓mupS,↓appS,↓s2bS,↓resS,evB,Sx.look,slot,↓lkL,putS,putO,argsL,↓reduceIte,ofV,of1,lookH,putH,List.replicate,List.append,convS,fldA,nthT,idxA,idxS,fldS,oslN,bnd,slS,unS,valI,lenS,lookS,takeC,psB,asRow,csB,rdF,Ent.row,ldS,sz,szL,wrF,bldF,plT,bldS,srcS,nilS,nilEq,mapC,binH,binS2,structS,eqL,eqF,binS,arrS,isI,tupS,stor,storL,Value.oneCell',minS,maxS,capS,Nat.reduceAdd,Nat.reduceSub,Nat.reduceMul,Nat.reduceLT,Nat.reduceLeDiff,Nat.reduceEqDiff,Nat.reduceBEq,Int.reduceToNat,Int.reduceNeg,if_true,if_false,reduceIte,stays,inL,same1,qn,ldN,convN,lenN,cond_true,cond_false,implies_true,Int.reduceEq,Int.reduceNe,Int.reduceLE,Int.reduceLT,forall_eq_or_imp,forall_eq,ne_eq,reduceCtorEq,notInt,numB,tabB,Array.reduceGetElem?,upG,up,nth,lay,rcB,rnm,rnmL,wrB,pcB,res108,res109,res110,res111,res112,pl112,Option.isNone,lhB,hk,hu1,liB]
  repeat (refine ⟨by omega, ?_⟩)
  refine c106 B k w _ h hk (by omega) _ ?_
  intro H0 m0 hE0 hm0 hrow0
  rw [hu.2] at hrow0 ⊢
  obtain ⟨T, hT⟩ : ∃ T, T = B ++ (leb bs.length ++ bs.flatMap encP) := ⟨_, rfl⟩
  rw [← hT] at hlen hK
  obtain ⟨D0, hD0⟩ : ∃ D0, D0 = B ++ leb bs.length := ⟨_, rfl⟩
  rw [← hD0] at hrow0 ⊢
  have hDT : D0 ++ bs.flatMap encP = T := by rw [hD0, hT, List.append_assoc]
  simp -implicitDefEqProofs (maxSteps := 1000000) (disch := omega) only [↓vcB,↓gd,↓opP,↓qv,↓ef,↓bslS,↓stS,↓mkS,↓rangeS,↓nextS,↓entryS,↓delS,↓mupS,↓appS,↓s2bS,↓resS,evB,Sx.look,slot,↓lkL,putS,putO,argsL,↓reduceIte,ofV,of1,lookH,putH,List.replicate,List.append,convS,fldA,nthT,idxA,idxS,fldS,oslN,bnd,slS,unS,valI,lenS,lookS,takeC,psB,asRow,csB,rdF,Ent.row,ldS,sz,szL,wrF,bldF,plT,bldS,srcS,nilS,nilEq,mapC,binH,binS2,structS,eqL,eqF,binS,arrS,isI,tupS,stor,storL,Value.oneCell',minS,maxS,capS,Nat.reduceAdd,Nat.reduceSub,Nat.reduceMul,Nat.reduceLT,Nat.reduceLeDiff,Nat.reduceEqDiff,Nat.reduceBEq,Int.reduceToNat,Int.reduceNeg,if_true,if_false,reduceIte,stays,inL,same1,qn,ldN,convN,lenN,cond_true,cond_false,implies_true,Int.reduceEq,Int.reduceNe,Int.reduceLE,Int.reduceLT,forall_eq_or_imp,forall_eq,ne_eq,reduceCtorEq,notInt,numB,tabB,Array.reduceGetElem?,upG,up,nth,lay,rcB,rnm,rnmL,wrB,pcB,res108,res109,res110,res111,res112,pl112,Option.isNone,lhB,liB]
  repeat (refine ⟨by omega, ?_⟩)
  refine codeP_loop (pl := np) tabOk follows_mixed (by kernel_rfl) (fun z st => ∃ (i : Nat) (D : List By) (H : List Chunk) (m : Nat) (j : Nat → Value), i + z = bs.length ∧ D ++ (bs.drop i).flatMap encP = T ∧ Ext (fun _ => False) h H ∧ h.length ≤ m ∧ lookH H m = .row true D.length 1 (fun i => .int .u8 (nat (D.getD i 0))) ∧ st = ⟨⟨31, [(2, .fn (.func 112) [] []), (6, .v (.slice none 0 0)), (7, .osl m 0 0 1 D.length), (19, .osl kr 0 0 74 bs.length), (20, .int .i64 (bs.length : Nat)), (21, .int .i64 (i : Nat))], j⟩, H, []⟩) ?_ ?_
  · exact into_keep [(2, .fn (.func 112) [] []), (6, .v (.slice none 0 0)), (7, .osl m0 0 0 1 D0.length), (19, .osl kr 0 0 74 bs.length), (20, .int .i64 (bs.length : Nat)), (21, .int .i64 (0 : Nat))] (by simp [sameT, slot, lkL]) fun j => ⟨bs.length, 0, D0, H0, m0, j, by omega, hDT, hE0, hm0, hrow0, rfl⟩
  · rintro z st ⟨i, D, H, m, j, hiz, hD, hE, hm, hrow, rfl⟩
    have hhl := hE.1
    by_cases hi : i < bs.length
    · have g1 : decide ((i : Int) < (bs.length : Nat)) = true := decide_eq_true (by omega)
      have a1 : IntKind.i64.wrap ((i : Int) + 1) = ((i + 1 : Nat) : Int) := by rw [wrap64 (by omega) (by omega)]; omega
      have hr1 := hE.look hr (by simp) fun h => h
      rw [List.drop_eq_getElem_cons hi, List.flatMap_cons, ← List.append_assoc] at hD
      have hl2 := congrArg List.length hD
      rw [List.length_append] at hl2
      obtain ⟨lm, xkl, wl, fl, hfi, hM, hrl, hls⟩ := hp.get hi
      have hIH := IH bs[i] (List.getElem_mem hi)
      obtain ⟨xk, xf, xv, xs, xd, xkb, xnb, xkbs, xnbs, xkp, xnp, xkq, xnq, xkey, xof, hlm⟩ := hM.open
      rw [hlm] at hM hfi
      simp only [List.cons_append, List.nil_append] at hfi
      obtain ⟨xnl, hxnl⟩ : ∃ x, x = bs[i].2.length := ⟨_, rfl⟩
      rw [← hxnl] at hfi hrl
      simp -implicitDefEqProofs (maxSteps := 1000000) (disch := omega) only [↓vcB,↓gd,↓opP,↓qv,↓ef,↓bslS,↓stS,↓mkS,↓rangeS,↓nextS,↓entryS,↓delS,↓mupS,↓appS,↓s2bS,↓resS,evB,Sx.look,slot,↓lkL,putS,putO,argsL,↓reduceIte,ofV,of1,lookH,putH,List.replicate,List.append,convS,fldA,nthT,idxA,idxS,fldS,oslN,bnd,slS,unS,valI,lenS,lookS,takeC,psB,asRow,csB,rdF,Ent.row,ldS,sz,szL,wrF,bldF,plT,bldS,srcS,nilS,nilEq,mapC,binH,binS2,structS,eqL,eqF,binS,arrS,isI,tupS,stor,storL,Value.oneCell',minS,maxS,capS,Nat.reduceAdd,Nat.reduceSub,Nat.reduceMul,Nat.reduceLT,Nat.reduceLeDiff,Nat.reduceEqDiff,Nat.reduceBEq,Int.reduceToNat,Int.reduceNeg,if_true,if_false,reduceIte,stays,inL,same1,qn,ldN,convN,lenN,cond_true,cond_false,implies_true,Int.reduceEq,Int.reduceNe,Int.reduceLE,Int.reduceLT,forall_eq_or_imp,forall_eq,ne_eq,reduceCtorEq,notInt,numB,tabB,Array.reduceGetElem?,upG,up,nth,lay,rcB,rnm,rnmL,wrB,pcB,res108,res109,res110,res111,res112,pl112,Option.isNone,lhB,g1,hr1,hfi,liB]
      repeat (refine ⟨by omega, ?_⟩)
      have hEm : Ext (fun _ => False) h (H ++ [Chunk.cells true [.int .i64 xk, .int .i64 xf, .int .i64 xv, .int .i64 xs, .fam 32 1 fun i => .int .u8 (nat (xd i)), .osl xkb 0 0 1 xnb, .osl xkbs 0 0 1 xnbs, .osl xkp 0 0 73 xnp, .osl xkq 0 0 74 xnq, .int .i64 xkey, .fam 32 1 fun i => .int .u8 (nat (xof i)), .osl xkl 0 0 73 xnl]]) := hE.app _
      have hrowm : lookH (H ++ [Chunk.cells true [.int .i64 xk, .int .i64 xf, .int .i64 xv, .int .i64 xs, .fam 32 1 fun i => .int .u8 (nat (xd i)), .osl xkb 0 0 1 xnb, .osl xkbs 0 0 1 xnbs, .osl xkp 0 0 73 xnp, .osl xkq 0 0 74 xnq, .int .i64 xkey, .fam 32 1 fun i => .int .u8 (nat (xof i)), .osl xkl 0 0 73 xnl]]) m = .row true D.length 1 (fun i => .int .u8 (nat (D.getD i 0))) := by rw [lookH_at _ (lookH_lt hrow (by simp))]; exact hrow
      refine c112 D m true bs[i] hIH.1 hIH.2 _ xkl xnl wl fl _ (hM.ext hEm) hxnl (hEm.look hrl (by simp) fun h => h) (hls.ext hEm) hrowm (by omega) _ ?_
      intro H2 m2 hE2 hm2 hrow2
      obtain ⟨D2, hD2⟩ : ∃ D2, D2 = D ++ encP bs[i] := ⟨_, rfl⟩
      rw [← hD2] at hrow2 hD ⊢
      have hE3 := hEm.trans hE2
      have hl3 := hEm.1
      simp -implicitDefEqProofs (maxSteps := 1000000) (disch := omega) only [↓vcB,↓gd,↓opP,↓qv,↓ef,↓bslS,↓stS,↓mkS,↓rangeS,↓nextS,↓entryS,↓delS,↓mupS,↓appS,↓s2bS,↓resS,evB,Sx.look,slot,↓lkL,putS,putO,argsL,↓reduceIte,ofV,of1,lookH,putH,List.replicate,List.append,convS,fldA,nthT,idxA,idxS,fldS,oslN,bnd,slS,unS,valI,lenS,lookS,takeC,psB,asRow,csB,rdF,Ent.row,ldS,sz,szL,wrF,bldF,plT,bldS,srcS,nilS,nilEq,mapC,binH,binS2,structS,eqL,eqF,binS,arrS,isI,tupS,stor,storL,Value.oneCell',minS,maxS,capS,Nat.reduceAdd,Nat.reduceSub,Nat.reduceMul,Nat.reduceLT,Nat.reduceLeDiff,Nat.reduceEqDiff,Nat.reduceBEq,Int.reduceToNat,Int.reduceNeg,if_true,if_false,reduceIte,stays,inL,same1,qn,ldN,convN,lenN,cond_true,cond_false,implies_true,Int.reduceEq,Int.reduceNe,Int.reduceLE,Int.reduceLT,forall_eq_or_imp,forall_eq,ne_eq,reduceCtorEq,notInt,numB,tabB,Array.reduceGetElem?,upG,up,nth,lay,rcB,rnm,rnmL,wrB,pcB,res108,res109,res110,res111,res112,pl112,Option.isNone,lhB,a1,liB]
      repeat (refine ⟨by omega, ?_⟩)
      exact into_keep [(2, .fn (.func 112) [] []), (6, .v (.slice none 0 0)), (7, .osl m2 0 0 1 D2.length), (19, .osl kr 0 0 74 bs.length), (20, .int .i64 (bs.length : Nat)), (21, .int .i64 (i + 1 : Nat))] (by simp [sameT, slot, lkL]) fun j => ⟨z - 1, by omega, i + 1, D2, H2, m2, j, by omega, hD, hE3, by omega, hrow2, rfl⟩
    · have g1 : decide ((i : Int) < (bs.length : Nat)) = false := decide_eq_false (by omega)
      have hd : bs.drop i = [] := List.drop_of_length_le (by omega)
      rw [hd, List.flatMap_nil, List.append_nil] at hD
      subst hD
      simp -implicitDefEqProofs (maxSteps := 1000000) (disch := omega) only [↓vcB,↓gd,↓opP,↓qv,↓ef,↓bslS,↓stS,↓mkS,↓rangeS,↓nextS,↓entryS,↓delS,↓mupS,↓appS,↓s2bS,↓resS,evB,Sx.look,slot,↓lkL,putS,putO,argsL,↓reduceIte,ofV,of1,lookH,putH,List.replicate,List.append,convS,fldA,nthT,idxA,idxS,fldS,oslN,bnd,slS,unS,valI,lenS,lookS,takeC,psB,asRow,csB,rdF,Ent.row,ldS,sz,szL,wrF,bldF,plT,bldS,srcS,nilS,nilEq,mapC,binH,binS2,structS,eqL,eqF,binS,arrS,isI,tupS,stor,storL,Value.oneCell',minS,maxS,capS,Nat.reduceAdd,Nat.reduceSub,Nat.reduceMul,Nat.reduceLT,Nat.reduceLeDiff,Nat.reduceEqDiff,Nat.reduceBEq,Int.reduceToNat,Int.reduceNeg,if_true,if_false,reduceIte,stays,inL,same1,qn,ldN,convN,lenN,cond_true,cond_false,implies_true,Int.reduceEq,Int.reduceNe,Int.reduceLE,Int.reduceLT,forall_eq_or_imp,forall_eq,ne_eq,reduceCtorEq,notInt,numB,tabB,Array.reduceGetElem?,upG,up,nth,lay,rcB,rnm,rnmL,wrB,pcB,res108,res109,res110,res111,res112,pl112,Option.isNone,lhB,g1,liB]
      repeat (refine ⟨by omega, ?_⟩)
      exact intoR_refl hhl (hK _ _ hE hm hrow)
end Go.Proofs.Ytgocfglmideobaa

set_option linter.all false
set_option maxRecDepth 40000
namespace Go.Proofs.Ytgocfglmideobaa
open Go Go.Sx
theorem res62 : Try.f62.results.toList = [.tmp 2] := rfl
theorem res51 : Try.f51.results.toList = [.tmp 2] := rfl
def pl62 : Nat → Plan
  | 2 => (.q 0 (.q 1 (.q 2 (.q 3 (.q 5 (.q 6 (.q 7 (.e1 4 [2, 3] (.e1 8 [3, 4, 6, 7] (.q 9 .nil))))))))))
  | 3 => (.q 0 (.q 1 (.q 2 (.q 4 (.q 5 (.e1 3 [2] (.e1 6 [2, 3, 5] (.q 7 .nil))))))))
  | _ => .nil

def pl51 : Nat → Plan
  | 1 => (.q 0 (.q 2 (.q 3 (.q 4 (.q 6 (.q 7 (.q 8 (.e1 1 [0] (.e1 5 [0, 1, 4] (.e1 9 [1, 4, 5, 8] (.q 10 .nil)))))))))))
  | _ => .nil

theorem encL_flat : ∀ l : List Msg, encL l = l.flatMap fun m => putB (enc m)
  | [] => by rw [encL]; rfl
  | m :: l => by rw [encL, List.flatMap_cons, encL_flat l]; rfl
theorem encQ_flat : ∀ q : List (Msg × List Msg), encQ q = q.flatMap encP
  | [] => by rw [encQ]; rfl
  | (m, l) :: r => by
    rw [encQ, List.flatMap_cons, encQ_flat r, encL_flat]
    unfold encP enc
    simp only [List.append_assoc]
theorem wrap8 (n : Int) : IntKind.u8.wrap n = nat (BitVec.ofInt 8 n) := by
  rw [wrapU rfl]
  simp only [nat, BitVec.toNat_ofInt]
  have : (0 : Int) ≤ n % 2 ^ 8 := Int.emod_nonneg _ (by decide)
  rw [show ((2 ^ 8 : Nat) : Int) = 2 ^ 8 from rfl, Int.toNat_of_nonneg this]
  rfl
theorem d32_len (d : Nat → By) : (d32 d).length = 32 := by unfold d32; simp
theorem d32_get (d : Nat → By) {i : Nat} (hi : i < 32) : (d32 d).getD i 0 = d i := by unfold d32; simp [hi]
theorem body_eq (k f v s : Int) (d : Nat → By) (b : List By) (bs : List (List By)) (p : List Msg) (q : List (Msg × List Msg)) (key : Int) (of : Nat → By) : body (.mk k f v s d b bs p q key of) =
    [BitVec.ofInt 8 k] ++ leb (zig f) ++ leb (u64n v) ++ leb (u64n s) ++ d32 d ++ putB b ++ (leb bs.length ++ bs.flatMap putB) ++ (leb p.length ++ p.flatMap fun m => putB (enc m)) ++ (leb q.length ++ q.flatMap encP) := by
  rw [body, encL_flat, encQ_flat]
  simp only [List.append_assoc]
abbrev BodyAt (F : FuncId) (m : Msg) : Prop := ∀ (l : List SV) (h : List Chunk), MsgH h m l → (body m).length ≤ 17592186044416 → ∀ (K : Tok → SV → List Chunk → Prop), Out (fun _ => False) h (body m) K → callP Try.prog F [.agg l] h K
set_option maxHeartbeats 8000000 in
theorem c62S (k f v s : Int) (d : Nat → By) (b : List By) (bs : List (List By)) (p : List Msg) (q : List (Msg × List Msg)) (key : Int) (of : Nat → By) (hf : rng f) (IP : ∀ m ∈ p, EncAt 51 m) (IQ : ∀ x ∈ q, EncAt 51 x.1 ∧ ∀ m ∈ x.2, EncAt 51 m) : BodyAt 62 (.mk k f v s d b bs p q key of) := by
  intro l h hm0 hlen K hK
  rw [body_eq] at hK hlen
  rw [MsgH] at hm0
  obtain ⟨sb, sbs, kp, wp, fp, kq, wq, fq, hl, h1, h2, h3, h4, h5, h6⟩ := hm0
  obtain ⟨kb, wb, rfl, hkb⟩ := h1
  obtain ⟨kbs, wbs, fb, rfl, hkbs, hfb⟩ := h2
  unfold dig32 at hl
  subst hl
  obtain ⟨HB, hHB⟩ : ∃ HB : List By → List Chunk → Nat → Prop, ∀ D H m, HB D H m ↔ (Ext (fun _ => False) h H ∧ lookH H h.length = (Chunk.cells true [.int .i64 k, .int .i64 f, .int .i64 v, .int .i64 s, .fam 32 1 fun i => .int .u8 (nat (d i)), .osl kb 0 0 1 b.length, .osl kbs 0 0 1 bs.length, .osl kp 0 0 73 p.length, .osl kq 0 0 74 q.length, .int .i64 key, .fam 32 1 fun i => .int .u8 (nat (of i))]) ∧ h.length ≤ m ∧ lookH H m = .row true D.length 1 (fun i => .int .u8 (nat (D.getD i 0)))) := ⟨_, fun _ _ _ => Iff.rfl⟩
  obtain ⟨D1, hD1⟩ : ∃ D, D = [BitVec.ofInt 8 k] ++ leb (zig f) := ⟨_, rfl⟩
  obtain ⟨D2, hD2⟩ : ∃ D, D = D1 ++ leb (u64n v) ++ leb (u64n s) := ⟨_, rfl⟩
  obtain ⟨D3, hD3⟩ : ∃ D, D = D2 ++ d32 d ++ putB b := ⟨_, rfl⟩
  obtain ⟨D4, hD4⟩ : ∃ D, D = D3 ++ (leb bs.length ++ bs.flatMap putB) := ⟨_, rfl⟩
  obtain ⟨D5, hD5⟩ : ∃ D, D = D4 ++ (leb p.length ++ p.flatMap fun m => putB (enc m)) := ⟨_, rfl⟩
  obtain ⟨D6, hD6⟩ : ∃ D, D = D5 ++ (leb q.length ++ q.flatMap encP) := ⟨_, rfl⟩
  rw [← hD1, ← hD2, ← hD3, ← hD4, ← hD5, ← hD6] at hK hlen
  have l6 := congrArg List.length hD6
  have l5 := congrArg List.length hD5
  have l4 := congrArg List.length hD4
  have l3 := congrArg List.length hD3
  have l2 := congrArg List.length hD2
  rw [List.length_append] at l6 l5 l4
  rw [List.length_append, List.length_append, d32_len] at l3
  rw [List.length_append, List.length_append] at l2
  refine callP_of_code tabOk Try.func62 (by kernel_rfl) rfl (Nat.le_of_ble_eq_true rfl) ?_
  rw [Try.ntmps62]
  refine codeP_seq (pl := pl62) tabOk follows_mixed (by kernel_rfl) _ ?_ (fun s h => h)
  simp -implicitDefEqProofs (maxSteps := 1000000) (disch := omega) only [↓vcB,↓gd,↓opP,↓qv,↓ef,↓bslS,↓stS,↓mkS,↓rangeS,↓nextS,↓entryS,↓delS,↓mupS,↓appS,↓s2bS,↓resS,evB,Sx.look,slot,↓lkL,putS,putO,argsL,↓reduceIte,ofV,of1,lookH,putH,List.replicate,List.append,convS,fldA,nthT,idxA,idxS,fldS,oslN,bnd,slS,unS,valI,lenS,lookS,takeC,psB,asRow,csB,rdF,Ent.row,ldS,sz,szL,wrF,bldF,plT,bldS,srcS,nilS,nilEq,mapC,binH,binS2,structS,eqL,eqF,binS,arrS,isI,tupS,stor,storL,Value.oneCell',minS,maxS,capS,Nat.reduceAdd,Nat.reduceSub,Nat.reduceMul,Nat.reduceLT,Nat.reduceLeDiff,Nat.reduceEqDiff,Nat.reduceBEq,Int.reduceToNat,Int.reduceNeg,if_true,if_false,reduceIte,stays,inL,same1,qn,ldN,convN,lenN,cond_true,cond_false,implies_true,Int.reduceEq,Int.reduceNe,Int.reduceLE,Int.reduceLT,forall_eq_or_imp,forall_eq,ne_eq,reduceCtorEq,notInt,numB,tabB,Array.reduceGetElem?,upG,up,nth,lay,rcB,rnm,rnmL,wrB,pcB,res62,res51,pl62,pl51,Option.isNone,lhB,liB]
  repeat (refine ⟨by omega, ?_⟩)
  refine into_refl ?_
  refine codeP_seq (pl := pl62) tabOk follows_mixed (by kernel_rfl) (fun st => ∃ (H : List Chunk) (m : Nat) (j : Nat → Value), HB D1 H m ∧ st = ⟨⟨39, [(1, .ptr h.length 0), (2, .v (.slice none 0 0)), (3, .osl m 0 0 1 D1.length)], j⟩, H, []⟩) ?_ ?_
  · simp -implicitDefEqProofs (maxSteps := 1000000) (disch := omega) only [↓vcB,↓gd,↓opP,↓qv,↓ef,↓bslS,↓stS,↓mkS,↓rangeS,↓nextS,↓entryS,↓delS,↓mupS,↓appS,↓s2bS,↓resS,evB,Sx.look,slot,↓lkL,putS,putO,argsL,↓reduceIte,ofV,of1,lookH,putH,List.replicate,List.append,convS,fldA,nthT,idxA,idxS,fldS,oslN,bnd,slS,unS,valI,lenS,lookS,takeC,psB,asRow,csB,rdF,Ent.row,ldS,sz,szL,wrF,bldF,plT,bldS,srcS,nilS,nilEq,mapC,binH,binS2,structS,eqL,eqF,binS,arrS,isI,tupS,stor,storL,Value.oneCell',minS,maxS,capS,Nat.reduceAdd,Nat.reduceSub,Nat.reduceMul,Nat.reduceLT,Nat.reduceLeDiff,Nat.reduceEqDiff,Nat.reduceBEq,Int.reduceToNat,Int.reduceNeg,if_true,if_false,reduceIte,stays,inL,same1,qn,ldN,convN,lenN,cond_true,cond_false,implies_true,Int.reduceEq,Int.reduceNe,Int.reduceLE,Int.reduceLT,forall_eq_or_imp,forall_eq,ne_eq,reduceCtorEq,notInt,numB,tabB,Array.reduceGetElem?,upG,up,nth,lay,rcB,rnm,rnmL,wrB,pcB,res62,res51,pl62,pl51,Option.isNone,lhB,wrap8,liB]
    repeat (refine ⟨by omega, ?_⟩)
    refine callP_simL (sim_two (c' := .row true [BitVec.ofInt 8 k].length 1 fun i => .int .u8 (nat ([BitVec.ofInt 8 k].getD i 0))) (chSim_row rfl fun i hi => by obtain rfl : i = 0 := (by omega); rfl)) ?_
    refine c101 [BitVec.ofInt 8 k] (h.length + 1) true f hf _ (lookH_app _ 1 _) (by simp) _ ?_
    rw [← hD1]
    intro H m hE hm hrow
    have hE1 : Ext (fun _ => False) h H := ((Ext.refl _ _).app _).trans hE
    have hx : lookH H h.length = Chunk.cells true [.int .i64 k, .int .i64 f, .int .i64 v, .int .i64 s, .fam 32 1 fun i => .int .u8 (nat (d i)), .osl kb 0 0 1 b.length, .osl kbs 0 0 1 bs.length, .osl kp 0 0 73 p.length, .osl kq 0 0 74 q.length, .int .i64 key, .fam 32 1 fun i => .int .u8 (nat (of i))] := hE.look (lookH_app _ 0 _) (by simp) fun h => h
    have hhl := hE1.1
    have hm2 : h.length ≤ m := by rw [List.length_append] at hm; omega
    simp -implicitDefEqProofs (maxSteps := 1000000) (disch := omega) only [↓vcB,↓gd,↓opP,↓qv,↓ef,↓bslS,↓stS,↓mkS,↓rangeS,↓nextS,↓entryS,↓delS,↓mupS,↓appS,↓s2bS,↓resS,evB,Sx.look,slot,↓lkL,putS,putO,argsL,↓reduceIte,ofV,of1,lookH,putH,List.replicate,List.append,convS,fldA,nthT,idxA,idxS,fldS,oslN,bnd,slS,unS,valI,lenS,lookS,takeC,psB,asRow,csB,rdF,Ent.row,ldS,sz,szL,wrF,bldF,plT,bldS,srcS,nilS,nilEq,mapC,binH,binS2,structS,eqL,eqF,binS,arrS,isI,tupS,stor,storL,Value.oneCell',minS,maxS,capS,Nat.reduceAdd,Nat.reduceSub,Nat.reduceMul,Nat.reduceLT,Nat.reduceLeDiff,Nat.reduceEqDiff,Nat.reduceBEq,Int.reduceToNat,Int.reduceNeg,if_true,if_false,reduceIte,stays,inL,same1,qn,ldN,convN,lenN,cond_true,cond_false,implies_true,Int.reduceEq,Int.reduceNe,Int.reduceLE,Int.reduceLT,forall_eq_or_imp,forall_eq,ne_eq,reduceCtorEq,notInt,numB,tabB,Array.reduceGetElem?,upG,up,nth,lay,rcB,rnm,rnmL,wrB,pcB,res62,res51,pl62,pl51,Option.isNone,lhB,liB]
    repeat (refine ⟨by omega, ?_⟩)
    exact into_keep [(1, .ptr h.length 0), (2, .v (.slice none 0 0)), (3, .osl m 0 0 1 D1.length)] (by simp [sameT, slot, lkL]) fun j => ⟨H, m, j, (hHB _ _ _).2 ⟨hE1, hx, hm2, hrow⟩, rfl⟩
  rintro _ ⟨H, m, j, hhb, rfl⟩
  obtain ⟨hE, hx, hm, hrow⟩ := (hHB _ _ _).1 hhb
  have hhl := hE.1
  refine codeP_seq (pl := pl62) tabOk follows_mixed (by kernel_rfl) (fun st => ∃ (H : List Chunk) (m : Nat) (j : Nat → Value), HB D2 H m ∧ st = ⟨⟨39, [(1, .ptr h.length 0), (2, .v (.slice none 0 0)), (3, .osl m 0 0 1 D2.length)], j⟩, H, []⟩) ?_ ?_
  · have hv := wrap_ofInt v
    have hs := wrap_ofInt s
    simp -implicitDefEqProofs (maxSteps := 1000000) (disch := omega) only [↓vcB,↓gd,↓opP,↓qv,↓ef,↓bslS,↓stS,↓mkS,↓rangeS,↓nextS,↓entryS,↓delS,↓mupS,↓appS,↓s2bS,↓resS,evB,Sx.look,slot,↓lkL,putS,putO,argsL,↓reduceIte,ofV,of1,lookH,putH,List.replicate,List.append,convS,fldA,nthT,idxA,idxS,fldS,oslN,bnd,slS,unS,valI,lenS,lookS,takeC,psB,asRow,csB,rdF,Ent.row,ldS,sz,szL,wrF,bldF,plT,bldS,srcS,nilS,nilEq,mapC,binH,binS2,structS,eqL,eqF,binS,arrS,isI,tupS,stor,storL,Value.oneCell',minS,maxS,capS,Nat.reduceAdd,Nat.reduceSub,Nat.reduceMul,Nat.reduceLT,Nat.reduceLeDiff,Nat.reduceEqDiff,Nat.reduceBEq,Int.reduceToNat,Int.reduceNeg,if_true,if_false,reduceIte,stays,inL,same1,qn,ldN,convN,lenN,cond_true,cond_false,implies_true,Int.reduceEq,Int.reduceNe,Int.reduceLE,Int.reduceLT,forall_eq_or_imp,forall_eq,ne_eq,reduceCtorEq,notInt,numB,tabB,Array.reduceGetElem?,upG,up,nth,lay,rcB,rnm,rnmL,wrB,pcB,res62,res51,pl62,pl51,Option.isNone,lhB,hx,hv,hs,liB]
    repeat (refine ⟨by omega, ?_⟩)
    refine c106 D1 m true (BitVec.ofInt 64 v) H hrow (by omega) _ ?_
    intro H1 m1 hE1 hm1 hrow1
    refine ⟨hE1.look hx (by simp) fun h => h, ?_⟩
    obtain ⟨Dv, hDv⟩ : ∃ D, D = D1 ++ leb (BitVec.ofInt 64 v).toNat := ⟨_, rfl⟩
    have lv := congrArg List.length hDv
    rw [List.length_append] at lv
    rw [← hDv] at hrow1 ⊢
    have hD2' : D2 = Dv ++ leb (BitVec.ofInt 64 s).toNat := by rw [hD2, hDv]; rfl
    have lv2 : D1.length + (leb (BitVec.ofInt 64 v).toNat).length ≤ D2.length := by rw [l2]; show _ ≤ _ + (leb (BitVec.ofInt 64 v).toNat).length + _; omega
    simp -implicitDefEqProofs (maxSteps := 1000000) (disch := omega) only [↓vcB,↓gd,↓opP,↓qv,↓ef,↓bslS,↓stS,↓mkS,↓rangeS,↓nextS,↓entryS,↓delS,↓mupS,↓appS,↓s2bS,↓resS,evB,Sx.look,slot,↓lkL,putS,putO,argsL,↓reduceIte,ofV,of1,lookH,putH,List.replicate,List.append,convS,fldA,nthT,idxA,idxS,fldS,oslN,bnd,slS,unS,valI,lenS,lookS,takeC,psB,asRow,csB,rdF,Ent.row,ldS,sz,szL,wrF,bldF,plT,bldS,srcS,nilS,nilEq,mapC,binH,binS2,structS,eqL,eqF,binS,arrS,isI,tupS,stor,storL,Value.oneCell',minS,maxS,capS,Nat.reduceAdd,Nat.reduceSub,Nat.reduceMul,Nat.reduceLT,Nat.reduceLeDiff,Nat.reduceEqDiff,Nat.reduceBEq,Int.reduceToNat,Int.reduceNeg,if_true,if_false,reduceIte,stays,inL,same1,qn,ldN,convN,lenN,cond_true,cond_false,implies_true,Int.reduceEq,Int.reduceNe,Int.reduceLE,Int.reduceLT,forall_eq_or_imp,forall_eq,ne_eq,reduceCtorEq,notInt,numB,tabB,Array.reduceGetElem?,upG,up,nth,lay,rcB,rnm,rnmL,wrB,pcB,res62,res51,pl62,pl51,Option.isNone,lhB,liB]
    repeat (refine ⟨by omega, ?_⟩)
    refine c106 Dv m1 true (BitVec.ofInt 64 s) H1 hrow1 (by omega) _ ?_
    rw [← hD2']
    intro H2 m2 hE2 hm2 hrow2
    have hE3 := hE1.trans hE2
    have hE4 := hE.trans hE3
    have hx2 := hE3.look hx (by simp) fun h => h
    have hm3 : h.length ≤ m2 := by have := hE1.1; omega
    simp -implicitDefEqProofs (maxSteps := 1000000) (disch := omega) only [↓vcB,↓gd,↓opP,↓qv,↓ef,↓bslS,↓stS,↓mkS,↓rangeS,↓nextS,↓entryS,↓delS,↓mupS,↓appS,↓s2bS,↓resS,evB,Sx.look,slot,↓lkL,putS,putO,argsL,↓reduceIte,ofV,of1,lookH,putH,List.replicate,List.append,convS,fldA,nthT,idxA,idxS,fldS,oslN,bnd,slS,unS,valI,lenS,lookS,takeC,psB,asRow,csB,rdF,Ent.row,ldS,sz,szL,wrF,bldF,plT,bldS,srcS,nilS,nilEq,mapC,binH,binS2,structS,eqL,eqF,binS,arrS,isI,tupS,stor,storL,Value.oneCell',minS,maxS,capS,Nat.reduceAdd,Nat.reduceSub,Nat.reduceMul,Nat.reduceLT,Nat.reduceLeDiff,Nat.reduceEqDiff,Nat.reduceBEq,Int.reduceToNat,Int.reduceNeg,if_true,if_false,reduceIte,stays,inL,same1,qn,ldN,convN,lenN,cond_true,cond_false,implies_true,Int.reduceEq,Int.reduceNe,Int.reduceLE,Int.reduceLT,forall_eq_or_imp,forall_eq,ne_eq,reduceCtorEq,notInt,numB,tabB,Array.reduceGetElem?,upG,up,nth,lay,rcB,rnm,rnmL,wrB,pcB,res62,res51,pl62,pl51,Option.isNone,lhB,liB]
    repeat (refine ⟨by omega, ?_⟩)
    refine ⟨hE2.2 _ (lookH_lt (hE1.look hx (by simp) fun h => h) (by simp)) fun h => h, ?_⟩
    exact into_keep [(1, .ptr h.length 0), (2, .v (.slice none 0 0)), (3, .osl m2 0 0 1 D2.length)] (by simp [sameT, slot, lkL]) fun j => ⟨H2, m2, j, (hHB _ _ _).2 ⟨hE4, hx2, hm3, hrow2⟩, rfl⟩
  rintro _ ⟨H, m, j, hhb, rfl⟩
  obtain ⟨hE, hx, hm, hrow⟩ := (hHB _ _ _).1 hhb
  have hhl := hE.1
  refine codeP_seq (pl := pl62) tabOk follows_mixed (by kernel_rfl) (fun st => ∃ (H : List Chunk) (m : Nat) (j : Nat → Value), HB D3 H m ∧ st = ⟨⟨39, [(1, .ptr h.length 0), (2, .v (.slice none 0 0)), (3, .osl m 0 0 1 D3.length)], j⟩, H, []⟩) ?_ ?_
  · simp -implicitDefEqProofs (maxSteps := 1000000) (disch := omega) only [↓vcB,↓gd,↓opP,↓qv,↓ef,↓bslS,↓stS,↓mkS,↓rangeS,↓nextS,↓entryS,↓delS,↓mupS,↓appS,↓s2bS,↓resS,evB,Sx.look,slot,↓lkL,putS,putO,argsL,↓reduceIte,ofV,of1,lookH,putH,List.replicate,List.append,convS,fldA,nthT,idxA,idxS,fldS,oslN,bnd,slS,unS,valI,lenS,lookS,takeC,psB,asRow,csB,rdF,Ent.row,ldS,sz,szL,wrF,bldF,plT,bldS,srcS,nilS,nilEq,mapC,binH,binS2,structS,eqL,eqF,binS,arrS,isI,tupS,stor,storL,Value.oneCell',minS,maxS,capS,Nat.reduceAdd,Nat.reduceSub,Nat.reduceMul,Nat.reduceLT,Nat.reduceLeDiff,Nat.reduceEqDiff,Nat.reduceBEq,Int.reduceToNat,Int.reduceNeg,if_true,if_false,reduceIte,stays,inL,same1,qn,ldN,convN,lenN,cond_true,cond_false,implies_true,Int.reduceEq,Int.reduceNe,Int.reduceLE,Int.reduceLT,forall_eq_or_imp,forall_eq,ne_eq,reduceCtorEq,notInt,numB,tabB,Array.reduceGetElem?,upG,up,nth,lay,rcB,rnm,rnmL,wrB,pcB,res62,res51,pl62,pl51,Option.isNone,lhB,hx,hrow,liB]
    repeat (refine ⟨by omega, ?_⟩)
    have hEp : ∀ c, Ext (fun _ => False) h (putH H m .none ++ [c]) := fun c => (hE.put _ (.inr hm)).app _
    have hxm : h.length ≠ m := fun e => by rw [← e, hx] at hrow; cases hrow
    have hxl := lookH_lt hx (by simp)
    refine ⟨by rw [lookH_at _ (by rw [putH_len]; exact hxl), lookH_put_ne _ hxm]; exact hx, ?_⟩
    have hl : D2.length + 32 = (D2 ++ d32 d).length := by rw [List.length_append, d32_len]
    refine callP_simL (row_sim hl fun i hi => ?_) ?_
    · rw [← app_byte]
      by_cases c : i < D2.length
      · rw [if_pos c, if_pos c]
      · rw [if_neg c, if_neg c, d32_get _ (by omega)]
    have hxc : lookH (putH H m .none ++ [.row true (D2 ++ d32 d).length 1 fun i => .int .u8 (nat ((D2 ++ d32 d).getD i 0))]) h.length = Chunk.cells true [.int .i64 k, .int .i64 f, .int .i64 v, .int .i64 s, .fam 32 1 fun i => .int .u8 (nat (d i)), .osl kb 0 0 1 b.length, .osl kbs 0 0 1 bs.length, .osl kp 0 0 73 p.length, .osl kq 0 0 74 q.length, .int .i64 key, .fam 32 1 fun i => .int .u8 (nat (of i))] := by rw [lookH_at _ (by rw [putH_len]; exact hxl), lookH_put_ne _ hxm]; exact hx
    rw [hl]
    refine c107 (D2 ++ d32 d) b H.length kb true wb _ (lookH_last (by simp [putH_len])) ((hEp _).look hkb (by simp) fun h => h) (by rw [List.length_append, d32_len]; have : b.length ≤ (putB b).length := (by unfold putB; rw [List.length_append]; omega); omega) _ ?_
    rw [← hD3]
    intro H2 m2 hE2 hm2 hrow2
    have hE4 := (hEp _).trans hE2
    have hx2 := hE2.look hxc (by simp) fun h => h
    have hm3 : h.length ≤ m2 := by rw [List.length_append, putH_len] at hm2; omega
    simp -implicitDefEqProofs (maxSteps := 1000000) (disch := omega) only [↓vcB,↓gd,↓opP,↓qv,↓ef,↓bslS,↓stS,↓mkS,↓rangeS,↓nextS,↓entryS,↓delS,↓mupS,↓appS,↓s2bS,↓resS,evB,Sx.look,slot,↓lkL,putS,putO,argsL,↓reduceIte,ofV,of1,lookH,putH,List.replicate,List.append,convS,fldA,nthT,idxA,idxS,fldS,oslN,bnd,slS,unS,valI,lenS,lookS,takeC,psB,asRow,csB,rdF,Ent.row,ldS,sz,szL,wrF,bldF,plT,bldS,srcS,nilS,nilEq,mapC,binH,binS2,structS,eqL,eqF,binS,arrS,isI,tupS,stor,storL,Value.oneCell',minS,maxS,capS,Nat.reduceAdd,Nat.reduceSub,Nat.reduceMul,Nat.reduceLT,Nat.reduceLeDiff,Nat.reduceEqDiff,Nat.reduceBEq,Int.reduceToNat,Int.reduceNeg,if_true,if_false,reduceIte,stays,inL,same1,qn,ldN,convN,lenN,cond_true,cond_false,implies_true,Int.reduceEq,Int.reduceNe,Int.reduceLE,Int.reduceLT,forall_eq_or_imp,forall_eq,ne_eq,reduceCtorEq,notInt,numB,tabB,Array.reduceGetElem?,upG,up,nth,lay,rcB,rnm,rnmL,wrB,pcB,res62,res51,pl62,pl51,Option.isNone,lhB,liB]
    repeat (refine ⟨by omega, ?_⟩)
    exact into_keep [(1, .ptr h.length 0), (2, .v (.slice none 0 0)), (3, .osl m2 0 0 1 D3.length)] (by simp [sameT, slot, lkL]) fun j => ⟨H2, m2, j, (hHB _ _ _).2 ⟨hE4, hx2, hm3, hrow2⟩, rfl⟩
  rintro _ ⟨H, m, j, hhb, rfl⟩
  obtain ⟨hE, hx, hm, hrow⟩ := (hHB _ _ _).1 hhb
  have hhl := hE.1
  refine codeP_seq (pl := pl62) tabOk follows_mixed (by kernel_rfl) (fun st => ∃ (H : List Chunk) (m : Nat) (j : Nat → Value), HB D4 H m ∧ st = ⟨⟨39, [(1, .ptr h.length 0), (2, .v (.slice none 0 0)), (3, .osl m 0 0 1 D4.length)], j⟩, H, []⟩) ?_ ?_
  · simp -implicitDefEqProofs (maxSteps := 1000000) (disch := omega) only [↓vcB,↓gd,↓opP,↓qv,↓ef,↓bslS,↓stS,↓mkS,↓rangeS,↓nextS,↓entryS,↓delS,↓mupS,↓appS,↓s2bS,↓resS,evB,Sx.look,slot,↓lkL,putS,putO,argsL,↓reduceIte,ofV,of1,lookH,putH,List.replicate,List.append,convS,fldA,nthT,idxA,idxS,fldS,oslN,bnd,slS,unS,valI,lenS,lookS,takeC,psB,asRow,csB,rdF,Ent.row,ldS,sz,szL,wrF,bldF,plT,bldS,srcS,nilS,nilEq,mapC,binH,binS2,structS,eqL,eqF,binS,arrS,isI,tupS,stor,storL,Value.oneCell',minS,maxS,capS,Nat.reduceAdd,Nat.reduceSub,Nat.reduceMul,Nat.reduceLT,Nat.reduceLeDiff,Nat.reduceEqDiff,Nat.reduceBEq,Int.reduceToNat,Int.reduceNeg,if_true,if_false,reduceIte,stays,inL,same1,qn,ldN,convN,lenN,cond_true,cond_false,implies_true,Int.reduceEq,Int.reduceNe,Int.reduceLE,Int.reduceLT,forall_eq_or_imp,forall_eq,ne_eq,reduceCtorEq,notInt,numB,tabB,Array.reduceGetElem?,upG,up,nth,lay,rcB,rnm,rnmL,wrB,pcB,res62,res51,pl62,pl51,Option.isNone,lhB,hx,hrow,liB]
    repeat (refine ⟨by omega, ?_⟩)
    refine c108 D3 m true bs kbs wbs fb H (hE.look hkbs (by simp) fun h => h) (fun i hi => (hfb i hi).ext hE) hrow (by rw [← hD4]; omega) _ ?_
    rw [← hD4]
    intro H2 m2 hE2 hm2 hrow2
    have hE4 := hE.trans hE2
    have hx2 := hE2.look hx (by simp) fun h => h
    have hm3 : h.length ≤ m2 := by omega
    simp -implicitDefEqProofs (maxSteps := 1000000) (disch := omega) only [↓vcB,↓gd,↓opP,↓qv,↓ef,↓bslS,↓stS,↓mkS,↓rangeS,↓nextS,↓entryS,↓delS,↓mupS,↓appS,↓s2bS,↓resS,evB,Sx.look,slot,↓lkL,putS,putO,argsL,↓reduceIte,ofV,of1,lookH,putH,List.replicate,List.append,convS,fldA,nthT,idxA,idxS,fldS,oslN,bnd,slS,unS,valI,lenS,lookS,takeC,psB,asRow,csB,rdF,Ent.row,ldS,sz,szL,wrF,bldF,plT,bldS,srcS,nilS,nilEq,mapC,binH,binS2,structS,eqL,eqF,binS,arrS,isI,tupS,stor,storL,Value.oneCell',minS,maxS,capS,Nat.reduceAdd,Nat.reduceSub,Nat.reduceMul,Nat.reduceLT,Nat.reduceLeDiff,Nat.reduceEqDiff,Nat.reduceBEq,Int.reduceToNat,Int.reduceNeg,if_true,if_false,reduceIte,stays,inL,same1,qn,ldN,convN,lenN,cond_true,cond_false,implies_true,Int.reduceEq,Int.reduceNe,Int.reduceLE,Int.reduceLT,forall_eq_or_imp,forall_eq,ne_eq,reduceCtorEq,notInt,numB,tabB,Array.reduceGetElem?,upG,up,nth,lay,rcB,rnm,rnmL,wrB,pcB,res62,res51,pl62,pl51,Option.isNone,lhB,liB]
    repeat (refine ⟨by omega, ?_⟩)
    exact into_keep [(1, .ptr h.length 0), (2, .v (.slice none 0 0)), (3, .osl m2 0 0 1 D4.length)] (by simp [sameT, slot, lkL]) fun j => ⟨H2, m2, j, (hHB _ _ _).2 ⟨hE4, hx2, hm3, hrow2⟩, rfl⟩
  rintro _ ⟨H, m, j, hhb, rfl⟩
  obtain ⟨hE, hx, hm, hrow⟩ := (hHB _ _ _).1 hhb
  have hhl := hE.1
  refine codeP_seq (pl := pl62) tabOk follows_mixed (by kernel_rfl) (fun st => ∃ (H : List Chunk) (m : Nat) (j : Nat → Value), HB D5 H m ∧ st = ⟨⟨39, [(1, .ptr h.length 0), (2, .v (.slice none 0 0)), (3, .osl m 0 0 1 D5.length)], j⟩, H, []⟩) ?_ ?_
  · simp -implicitDefEqProofs (maxSteps := 1000000) (disch := omega) only [↓vcB,↓gd,↓opP,↓qv,↓ef,↓bslS,↓stS,↓mkS,↓rangeS,↓nextS,↓entryS,↓delS,↓mupS,↓appS,↓s2bS,↓resS,evB,Sx.look,slot,↓lkL,putS,putO,argsL,↓reduceIte,ofV,of1,lookH,putH,List.replicate,List.append,convS,fldA,nthT,idxA,idxS,fldS,oslN,bnd,slS,unS,valI,lenS,lookS,takeC,psB,asRow,csB,rdF,Ent.row,ldS,sz,szL,wrF,bldF,plT,bldS,srcS,nilS,nilEq,mapC,binH,binS2,structS,eqL,eqF,binS,arrS,isI,tupS,stor,storL,Value.oneCell',minS,maxS,capS,Nat.reduceAdd,Nat.reduceSub,Nat.reduceMul,Nat.reduceLT,Nat.reduceLeDiff,Nat.reduceEqDiff,Nat.reduceBEq,Int.reduceToNat,Int.reduceNeg,if_true,if_false,reduceIte,stays,inL,same1,qn,ldN,convN,lenN,cond_true,cond_false,implies_true,Int.reduceEq,Int.reduceNe,Int.reduceLE,Int.reduceLT,forall_eq_or_imp,forall_eq,ne_eq,reduceCtorEq,notInt,numB,tabB,Array.reduceGetElem?,upG,up,nth,lay,rcB,rnm,rnmL,wrB,pcB,res62,res51,pl62,pl51,Option.isNone,lhB,hx,hrow,liB]
    repeat (refine ⟨by omega, ?_⟩)
    refine c109 D4 m true p kp wp fp H (hE.look h3 (by simp) fun h => h) (h4.ext hE) IP hrow (by rw [← hD5]; omega) _ ?_
    rw [← hD5]
    intro H2 m2 hE2 hm2 hrow2
    have hE4 := hE.trans hE2
    have hx2 := hE2.look hx (by simp) fun h => h
    have hm3 : h.length ≤ m2 := by omega
    simp -implicitDefEqProofs (maxSteps := 1000000) (disch := omega) only [↓vcB,↓gd,↓opP,↓qv,↓ef,↓bslS,↓stS,↓mkS,↓rangeS,↓nextS,↓entryS,↓delS,↓mupS,↓appS,↓s2bS,↓resS,evB,Sx.look,slot,↓lkL,putS,putO,argsL,↓reduceIte,ofV,of1,lookH,putH,List.replicate,List.append,convS,fldA,nthT,idxA,idxS,fldS,oslN,bnd,slS,unS,valI,lenS,lookS,takeC,psB,asRow,csB,rdF,Ent.row,ldS,sz,szL,wrF,bldF,plT,bldS,srcS,nilS,nilEq,mapC,binH,binS2,structS,eqL,eqF,binS,arrS,isI,tupS,stor,storL,Value.oneCell',minS,maxS,capS,Nat.reduceAdd,Nat.reduceSub,Nat.reduceMul,Nat.reduceLT,Nat.reduceLeDiff,Nat.reduceEqDiff,Nat.reduceBEq,Int.reduceToNat,Int.reduceNeg,if_true,if_false,reduceIte,stays,inL,same1,qn,ldN,convN,lenN,cond_true,cond_false,implies_true,Int.reduceEq,Int.reduceNe,Int.reduceLE,Int.reduceLT,forall_eq_or_imp,forall_eq,ne_eq,reduceCtorEq,notInt,numB,tabB,Array.reduceGetElem?,upG,up,nth,lay,rcB,rnm,rnmL,wrB,pcB,res62,res51,pl62,pl51,Option.isNone,lhB,liB]
    repeat (refine ⟨by omega, ?_⟩)
    exact into_keep [(1, .ptr h.length 0), (2, .v (.slice none 0 0)), (3, .osl m2 0 0 1 D5.length)] (by simp [sameT, slot, lkL]) fun j => ⟨H2, m2, j, (hHB _ _ _).2 ⟨hE4, hx2, hm3, hrow2⟩, rfl⟩
  rintro _ ⟨H, m, j, hhb, rfl⟩
  obtain ⟨hE, hx, hm, hrow⟩ := (hHB _ _ _).1 hhb
  have hhl := hE.1
  refine codeP_of_vc (pl := pl62) tabOk follows_mixed (by kernel_rfl) ?_
  simp -implicitDefEqProofs (maxSteps := 1000000) (disch := omega) only [↓vcB,↓gd,↓opP,↓qv,↓ef,↓bslS,↓stS,↓mkS,↓rangeS,↓nextS,↓entryS,↓delS,↓mupS,↓appS,↓s2bS,↓resS,evB,Sx.look,slot,↓lkL,putS,putO,argsL,↓reduceIte,ofV,of1,lookH,putH,List.replicate,List.append,convS,fldA,nthT,idxA,idxS,fldS,oslN,bnd,slS,unS,valI,lenS,lookS,takeC,psB,asRow,csB,rdF,Ent.row,ldS,sz,szL,wrF,bldF,plT,bldS,srcS,nilS,nilEq,mapC,binH,binS2,structS,eqL,eqF,binS,arrS,isI,tupS,stor,storL,Value.oneCell',minS,maxS,capS,Nat.reduceAdd,Nat.reduceSub,Nat.reduceMul,Nat.reduceLT,Nat.reduceLeDiff,Nat.reduceEqDiff,Nat.reduceBEq,Int.reduceToNat,Int.reduceNeg,if_true,if_false,reduceIte,stays,inL,same1,qn,ldN,convN,lenN,cond_true,cond_false,implies_true,Int.reduceEq,Int.reduceNe,Int.reduceLE,Int.reduceLT,forall_eq_or_imp,forall_eq,ne_eq,reduceCtorEq,notInt,numB,tabB,Array.reduceGetElem?,upG,up,nth,lay,rcB,rnm,rnmL,wrB,pcB,res62,res51,pl62,pl51,Option.isNone,lhB,hx,hrow,liB]
  repeat (refine ⟨by omega, ?_⟩)
  refine c111 D5 m true q kq wq fq H (hE.look h5 (by simp) fun h => h) (h6.ext hE) IQ hrow (by rw [← hD6]; omega) _ ?_
  rw [← hD6]
  intro H2 m2 hE2 hm2 hrow2
  have hE4 := hE.trans hE2
  have hl4 := hE4.1
  simp -implicitDefEqProofs (maxSteps := 1000000) (disch := omega) only [↓vcB,↓gd,↓opP,↓qv,↓ef,↓bslS,↓stS,↓mkS,↓rangeS,↓nextS,↓entryS,↓delS,↓mupS,↓appS,↓s2bS,↓resS,evB,Sx.look,slot,↓lkL,putS,putO,argsL,↓reduceIte,ofV,of1,lookH,putH,List.replicate,List.append,convS,fldA,nthT,idxA,idxS,fldS,oslN,bnd,slS,unS,valI,lenS,lookS,takeC,psB,asRow,csB,rdF,Ent.row,ldS,sz,szL,wrF,bldF,plT,bldS,srcS,nilS,nilEq,mapC,binH,binS2,structS,eqL,eqF,binS,arrS,isI,tupS,stor,storL,Value.oneCell',minS,maxS,capS,Nat.reduceAdd,Nat.reduceSub,Nat.reduceMul,Nat.reduceLT,Nat.reduceLeDiff,Nat.reduceEqDiff,Nat.reduceBEq,Int.reduceToNat,Int.reduceNeg,if_true,if_false,reduceIte,stays,inL,same1,qn,ldN,convN,lenN,cond_true,cond_false,implies_true,Int.reduceEq,Int.reduceNe,Int.reduceLE,Int.reduceLT,forall_eq_or_imp,forall_eq,ne_eq,reduceCtorEq,notInt,numB,tabB,Array.reduceGetElem?,upG,up,nth,lay,rcB,rnm,rnmL,wrB,pcB,res62,res51,pl62,pl51,Option.isNone,lhB,liB]
  repeat (refine ⟨by omega, ?_⟩)
  exact intoR_refl hl4 (hK _ _ hE4 (by omega) hrow2)
set_option maxHeartbeats 4000000 in
theorem c51S (m : Msg) (hB : BodyAt 62 m) (hkey : rng m.key) : EncAt 51 m := by
  intro l h hm hlen K hK
  have hm0 := hm
  obtain ⟨k, f, v, s, d, b, bs, p, q, key, of⟩ := m
  obtain ⟨C, hC⟩ : ∃ C, C = body (.mk k f v s d b bs p q key of) := ⟨_, rfl⟩
  have hEC : enc (.mk k f v s d b bs p q key of) = C ++ leb (zig key) ++ d32 of := by unfold enc; rw [← hC]; rfl
  rw [hEC] at hlen hK
  rw [List.length_append, List.length_append, d32_len] at hlen
  rw [MsgH] at hm
  obtain ⟨sb, sbs, kp, wp, fp, kq, wq, fq, hl, h1, h2, h3, h4, h5, h6⟩ := hm
  obtain ⟨kb, wb, rfl, hkb⟩ := h1
  obtain ⟨kbs, wbs, fb, rfl, hkbs, hfb⟩ := h2
  unfold dig32 at hl
  subst hl
  replace hkey : rng key := hkey
  refine callP_of_code tabOk Try.func51 (by kernel_rfl) rfl (Nat.le_of_ble_eq_true rfl) (codeP_of_vc (pl := pl51) tabOk follows_mixed (by kernel_rfl) ?_)
  rw [Try.ntmps51]
  simp -implicitDefEqProofs (maxSteps := 1000000) (disch := omega) only [↓vcB,↓gd,↓opP,↓qv,↓ef,↓bslS,↓stS,↓mkS,↓rangeS,↓nextS,↓entryS,↓delS,↓mupS,↓appS,↓s2bS,↓resS,evB,Sx.look,slot,↓lkL,putS,putO,argsL,↓reduceIte,ofV,of1,lookH,putH,List.replicate,List.append,convS,fldA,nthT,idxA,idxS,fldS,oslN,bnd,slS,unS,valI,lenS,lookS,takeC,psB,asRow,csB,rdF,Ent.row,ldS,sz,szL,wrF,bldF,plT,bldS,srcS,nilS,nilEq,mapC,binH,binS2,structS,eqL,eqF,binS,arrS,isI,tupS,stor,storL,Value.oneCell',minS,maxS,capS,Nat.reduceAdd,Nat.reduceSub,Nat.reduceMul,Nat.reduceLT,Nat.reduceLeDiff,Nat.reduceEqDiff,Nat.reduceBEq,Int.reduceToNat,Int.reduceNeg,if_true,if_false,reduceIte,stays,inL,same1,qn,ldN,convN,lenN,cond_true,cond_false,implies_true,Int.reduceEq,Int.reduceNe,Int.reduceLE,Int.reduceLT,forall_eq_or_imp,forall_eq,ne_eq,reduceCtorEq,notInt,numB,tabB,Array.reduceGetElem?,upG,up,nth,lay,rcB,rnm,rnmL,wrB,pcB,res62,res51,pl62,pl51,Option.isNone,lhB,liB]
  repeat (refine ⟨by omega, ?_⟩)
  have hE0 : Ext (fun _ => False) h (h ++ [Chunk.cells true [.int .i64 k, .int .i64 f, .int .i64 v, .int .i64 s, .fam 32 1 fun i => .int .u8 (nat (d i)), .osl kb 0 0 1 b.length, .osl kbs 0 0 1 bs.length, .osl kp 0 0 73 p.length, .osl kq 0 0 74 q.length, .int .i64 key, .fam 32 1 fun i => .int .u8 (nat (of i))]]) := (Ext.refl _ _).app _
  refine hB _ _ (hm0.ext hE0) (by rw [← hC]; omega) _ ?_
  rw [← hC]
  intro H m hE hm hrow
  have hx : lookH H h.length = Chunk.cells true [.int .i64 k, .int .i64 f, .int .i64 v, .int .i64 s, .fam 32 1 fun i => .int .u8 (nat (d i)), .osl kb 0 0 1 b.length, .osl kbs 0 0 1 bs.length, .osl kp 0 0 73 p.length, .osl kq 0 0 74 q.length, .int .i64 key, .fam 32 1 fun i => .int .u8 (nat (of i))] := hE.look (lookH_end _ _) (by simp) fun h => h
  simp -implicitDefEqProofs (maxSteps := 1000000) (disch := omega) only [↓vcB,↓gd,↓opP,↓qv,↓ef,↓bslS,↓stS,↓mkS,↓rangeS,↓nextS,↓entryS,↓delS,↓mupS,↓appS,↓s2bS,↓resS,evB,Sx.look,slot,↓lkL,putS,putO,argsL,↓reduceIte,ofV,of1,lookH,putH,List.replicate,List.append,convS,fldA,nthT,idxA,idxS,fldS,oslN,bnd,slS,unS,valI,lenS,lookS,takeC,psB,asRow,csB,rdF,Ent.row,ldS,sz,szL,wrF,bldF,plT,bldS,srcS,nilS,nilEq,mapC,binH,binS2,structS,eqL,eqF,binS,arrS,isI,tupS,stor,storL,Value.oneCell',minS,maxS,capS,Nat.reduceAdd,Nat.reduceSub,Nat.reduceMul,Nat.reduceLT,Nat.reduceLeDiff,Nat.reduceEqDiff,Nat.reduceBEq,Int.reduceToNat,Int.reduceNeg,if_true,if_false,reduceIte,stays,inL,same1,qn,ldN,convN,lenN,cond_true,cond_false,implies_true,Int.reduceEq,Int.reduceNe,Int.reduceLE,Int.reduceLT,forall_eq_or_imp,forall_eq,ne_eq,reduceCtorEq,notInt,numB,tabB,Array.reduceGetElem?,upG,up,nth,lay,rcB,rnm,rnmL,wrB,pcB,res62,res51,pl62,pl51,Option.isNone,lhB,hx,liB]
  repeat (refine ⟨by omega, ?_⟩)
  refine c101 C m true key hkey H hrow (by omega) _ ?_
  intro H2 m2 hE2 hm2 hrow2
  have hx2 := hE2.look hx (by simp) fun h => h
  obtain ⟨D, hD⟩ : ∃ D, D = C ++ leb (zig key) := ⟨_, rfl⟩
  rw [← hD] at hrow2 hK ⊢
  have lD := congrArg List.length hD
  rw [List.length_append] at lD
  have hE4 := (hE0.trans hE).trans hE2
  have hl4 := hE4.1
  have hm3 : h.length ≤ m2 := by have := hE2.1; have := hE.1; rw [List.length_append] at this; omega
  simp -implicitDefEqProofs (maxSteps := 1000000) (disch := omega) only [↓vcB,↓gd,↓opP,↓qv,↓ef,↓bslS,↓stS,↓mkS,↓rangeS,↓nextS,↓entryS,↓delS,↓mupS,↓appS,↓s2bS,↓resS,evB,Sx.look,slot,↓lkL,putS,putO,argsL,↓reduceIte,ofV,of1,lookH,putH,List.replicate,List.append,convS,fldA,nthT,idxA,idxS,fldS,oslN,bnd,slS,unS,valI,lenS,lookS,takeC,psB,asRow,csB,rdF,Ent.row,ldS,sz,szL,wrF,bldF,plT,bldS,srcS,nilS,nilEq,mapC,binH,binS2,structS,eqL,eqF,binS,arrS,isI,tupS,stor,storL,Value.oneCell',minS,maxS,capS,Nat.reduceAdd,Nat.reduceSub,Nat.reduceMul,Nat.reduceLT,Nat.reduceLeDiff,Nat.reduceEqDiff,Nat.reduceBEq,Int.reduceToNat,Int.reduceNeg,if_true,if_false,reduceIte,stays,inL,same1,qn,ldN,convN,lenN,cond_true,cond_false,implies_true,Int.reduceEq,Int.reduceNe,Int.reduceLE,Int.reduceLT,forall_eq_or_imp,forall_eq,ne_eq,reduceCtorEq,notInt,numB,tabB,Array.reduceGetElem?,upG,up,nth,lay,rcB,rnm,rnmL,wrB,pcB,res62,res51,pl62,pl51,Option.isNone,lhB,hx2,hrow2,liB]
  repeat (refine ⟨by omega, ?_⟩)
  have hxm : h.length ≠ m2 := fun e => by rw [← e, hx2] at hrow2; cases hrow2
  have hxl := lookH_lt hx2 (by simp)
  refine ⟨by rw [lookH_at _ (by rw [putH_len]; exact hxl), lookH_put_ne _ hxm]; exact hx2, ?_⟩
  have hl : D.length + 32 = (D ++ d32 of).length := by rw [List.length_append, d32_len]
  refine intoR_sim (row_sim hl fun i hi => ?_) ?_
  · rw [← app_byte]
    by_cases c : i < D.length
    · rw [if_pos c, if_pos c]
    · rw [if_neg c, if_neg c, d32_get _ (by omega)]
  rw [hl]
  exact intoR_refl (by simp [putH_len]; omega) (hK _ _ ((hE4.put _ (.inr hm3)).app _) (by omega) (lookH_last (by simp [putH_len])))
mutual
theorem c51 : ∀ m : Msg, wfM m → EncAt 51 m
  | .mk k f v s d b bs p q key of, h => by
    rw [wfM] at h
    exact c51S _ (c62S k f v s d b bs p q key of h.2.1 (c51L p h.2.2.2.2.2.1) (c51Q q h.2.2.2.2.2.2)) h.2.2.2.2.1
theorem c51L : ∀ p : List Msg, wfL p → ∀ m ∈ p, EncAt 51 m
  | [], h, m, hm => by cases hm
  | a :: l, h, m, hm => by
    rw [wfL] at h
    exact (List.mem_cons.1 hm).elim (fun e => e ▸ c51 a h.1) (c51L l h.2 m)
theorem c51Q : ∀ q : List (Msg × List Msg), wfQ q → ∀ x ∈ q, EncAt 51 x.1 ∧ ∀ m ∈ x.2, EncAt 51 m
  | [], h, x, hx => by cases hx
  | (a, l) :: r, h, x, hx => by
    rw [wfQ] at h
    exact (List.mem_cons.1 hx).elim (fun e => e ▸ ⟨c51 a h.1.1, c51L l h.1.2⟩) (c51Q r h.2 x)
end
theorem c62 (m : Msg) (h : wfM m) : BodyAt 62 m := by
  obtain ⟨k, f, v, s, d, b, bs, p, q, key, of⟩ := m
  rw [wfM] at h
  exact c62S k f v s d b bs p q key of h.2.1 (c51L p h.2.2.2.2.2.1) (c51Q q h.2.2.2.2.2.2)
end Go.Proofs.Ytgocfglmideobaa

set_option linter.all false
set_option maxRecDepth 40000
namespace Go.Proofs.Ytgocfglmideobaa
open Go Go.Sx
theorem res63 : Try.f63.results.toList = [.tmp 2] := rfl
theorem res52 : Try.f52.results.toList = [.tmp 2] := rfl
def pl63 : Nat → Plan
  | 2 => (.q 0 (.q 1 (.q 2 (.q 3 (.q 5 (.q 6 (.q 7 (.e1 4 [2, 3] (.e1 8 [3, 4, 6, 7] (.q 9 .nil))))))))))
  | 3 => (.q 0 (.q 1 (.q 2 (.q 4 (.q 5 (.e1 3 [2] (.e1 6 [2, 3, 5] (.q 7 .nil))))))))
  | 20 => (.q 0 (.q 1 (.q 2 (.q 5 (.q 6 (.q 7 (.q 8 (.e1 3 [2] (.e1 4 [2, 3] (.e1 9 [3, 4, 7, 8] (.q 10 .nil)))))))))))
  | _ => .nil

def pl52 : Nat → Plan
  | 1 => (.q 0 (.q 2 (.q 3 (.q 4 (.q 6 (.q 7 (.q 8 (.e1 1 [0] (.e1 5 [0, 1, 4] (.e1 9 [1, 4, 5, 8] (.q 10 .nil)))))))))))
  | _ => .nil

theorem ext_own {h H H2 : List Chunk} {m : Nat} (a : Ext (fun _ => False) h H) (hm : h.length ≤ m) (b : Ext (fun j => j = m) H H2) : Ext (fun _ => False) h H2 :=
  ⟨Nat.le_trans a.1 b.1, fun k hk hn => by rw [b.2 k (Nat.lt_of_lt_of_le hk a.1) (fun e => by omega)]; exact a.2 k hk hn⟩
set_option maxHeartbeats 8000000 in
theorem c63S (k f v s : Int) (d : Nat → By) (b : List By) (bs : List (List By)) (p : List Msg) (q : List (Msg × List Msg)) (key : Int) (of : Nat → By) (hf : rng f) (IP : ∀ m ∈ p, EncAt 52 m) (IQ : ∀ x ∈ q, EncAt 52 x.1 ∧ ∀ m ∈ x.2, EncAt 52 m) : BodyAt 63 (.mk k f v s d b bs p q key of) := by
  intro l h hm0 hlen K hK
  rw [body_eq] at hK hlen
  rw [MsgH] at hm0
  obtain ⟨sb, sbs, kp, wp, fp, kq, wq, fq, hl, h1, h2, h3, h4, h5, h6⟩ := hm0
  obtain ⟨kb, wb, rfl, hkb⟩ := h1
  obtain ⟨kbs, wbs, fb, rfl, hkbs, hfb⟩ := h2
  unfold dig32 at hl
  subst hl
  obtain ⟨HB, hHB⟩ : ∃ HB : List By → List Chunk → Nat → Prop, ∀ D H m, HB D H m ↔ (Ext (fun _ => False) h H ∧ lookH H h.length = (Chunk.cells true [.int .i64 k, .int .i64 f, .int .i64 v, .int .i64 s, .fam 32 1 fun i => .int .u8 (nat (d i)), .osl kb 0 0 1 b.length, .osl kbs 0 0 1 bs.length, .osl kp 0 0 73 p.length, .osl kq 0 0 74 q.length, .int .i64 key, .fam 32 1 fun i => .int .u8 (nat (of i))]) ∧ h.length ≤ m ∧ lookH H m = .row true D.length 1 (fun i => .int .u8 (nat (D.getD i 0)))) := ⟨_, fun _ _ _ => Iff.rfl⟩
  obtain ⟨D1, hD1⟩ : ∃ D, D = [BitVec.ofInt 8 k] ++ leb (zig f) := ⟨_, rfl⟩
  obtain ⟨D2, hD2⟩ : ∃ D, D = D1 ++ leb (u64n v) ++ leb (u64n s) := ⟨_, rfl⟩
  obtain ⟨D3, hD3⟩ : ∃ D, D = D2 ++ d32 d ++ putB b := ⟨_, rfl⟩
  obtain ⟨E3, hE3⟩ : ∃ D, D = D3 ++ leb bs.length := ⟨_, rfl⟩
  obtain ⟨D4, hD4⟩ : ∃ D, D = E3 ++ bs.flatMap putB := ⟨_, rfl⟩
  obtain ⟨E4, hE4⟩ : ∃ D, D = D4 ++ leb p.length := ⟨_, rfl⟩
  obtain ⟨D5, hD5⟩ : ∃ D, D = E4 ++ p.flatMap fun m => putB (enc m) := ⟨_, rfl⟩
  obtain ⟨E5, hE5⟩ : ∃ D, D = D5 ++ leb q.length := ⟨_, rfl⟩
  obtain ⟨D6, hD6⟩ : ∃ D, D = E5 ++ q.flatMap encP := ⟨_, rfl⟩
  have hbe : [BitVec.ofInt 8 k] ++ leb (zig f) ++ leb (u64n v) ++ leb (u64n s) ++ d32 d ++ putB b ++ (leb bs.length ++ bs.flatMap putB) ++ (leb p.length ++ p.flatMap fun m => putB (enc m)) ++ (leb q.length ++ q.flatMap encP) = D6 := by
    rw [hD6, hE5, hD5, hE4, hD4, hE3, hD3, hD2, hD1]
    simp only [List.append_assoc]
  rw [hbe] at hK hlen
  have l6 := congrArg List.length hD6
  have m5 := congrArg List.length hE5
  have l5 := congrArg List.length hD5
  have m4 := congrArg List.length hE4
  have l4 := congrArg List.length hD4
  have m3 := congrArg List.length hE3
  have l3 := congrArg List.length hD3
  have l2 := congrArg List.length hD2
  rw [List.length_append] at l6 l5 l4 m3 m4 m5
  rw [List.length_append, List.length_append, d32_len] at l3
  rw [List.length_append, List.length_append] at l2
  have b1 := len_flat putB (fun x => putB_pos _) bs
  have b2 := len_flat (fun m => putB (enc m)) (fun x => putB_pos _) p
  have b3 := len_flat encP (fun x => by unfold encP; exact putB_pos2 _ _) q
  refine callP_of_code tabOk Try.func63 (by kernel_rfl) rfl (Nat.le_of_ble_eq_true rfl) ?_
  rw [Try.ntmps63]
  refine codeP_seq (pl := pl63) tabOk follows_mixed (by kernel_rfl) _ ?_ (fun s h => h)
  simp -implicitDefEqProofs (maxSteps := 1000000) (disch := omega) only [↓vcB,↓gd,↓opP,↓qv,↓ef,↓bslS,↓stS,↓mkS,↓rangeS,↓nextS,↓entryS,↓delS,↓mupS,↓appS,↓s2bS,↓resS,evB,Sx.look,slot,↓lkL,putS,putO,argsL,↓reduceIte,ofV,of1,lookH,putH,List.replicate,List.append,convS,fldA,nthT,idxA,idxS,fldS,oslN,bnd,slS,unS,valI,lenS,lookS,takeC,psB,asRow,csB,rdF,Ent.row,ldS,sz,szL,wrF,bldF,plT,bldS,srcS,nilS,nilEq,mapC,binH,binS2,structS,eqL,eqF,binS,arrS,isI,tupS,stor,storL,Value.oneCell',minS,maxS,capS,Nat.reduceAdd,Nat.reduceSub,Nat.reduceMul,Nat.reduceLT,Nat.reduceLeDiff,Nat.reduceEqDiff,Nat.reduceBEq,Int.reduceToNat,Int.reduceNeg,if_true,if_false,reduceIte,stays,inL,same1,qn,ldN,convN,lenN,cond_true,cond_false,implies_true,Int.reduceEq,Int.reduceNe,Int.reduceLE,Int.reduceLT,forall_eq_or_imp,forall_eq,ne_eq,reduceCtorEq,notInt,numB,tabB,Array.reduceGetElem?,upG,up,nth,lay,rcB,rnm,rnmL,wrB,pcB,res63,res52,pl63,pl52,Option.isNone,lhB,liB]
  repeat (refine ⟨by omega, ?_⟩)
  refine into_refl ?_
  refine codeP_seq (pl := pl63) tabOk follows_mixed (by kernel_rfl) (fun st => ∃ (H : List Chunk) (m : Nat) (j : Nat → Value), HB D1 H m ∧ st = ⟨⟨107, [(1, .ptr h.length 0), (2, .v (.slice none 0 0)), (3, .osl m 0 0 1 D1.length)], j⟩, H, []⟩) ?_ ?_
  · simp -implicitDefEqProofs (maxSteps := 1000000) (disch := omega) only [↓vcB,↓gd,↓opP,↓qv,↓ef,↓bslS,↓stS,↓mkS,↓rangeS,↓nextS,↓entryS,↓delS,↓mupS,↓appS,↓s2bS,↓resS,evB,Sx.look,slot,↓lkL,putS,putO,argsL,↓reduceIte,ofV,of1,lookH,putH,List.replicate,List.append,convS,fldA,nthT,idxA,idxS,fldS,oslN,bnd,slS,unS,valI,lenS,lookS,takeC,psB,asRow,csB,rdF,Ent.row,ldS,sz,szL,wrF,bldF,plT,bldS,srcS,nilS,nilEq,mapC,binH,binS2,structS,eqL,eqF,binS,arrS,isI,tupS,stor,storL,Value.oneCell',minS,maxS,capS,Nat.reduceAdd,Nat.reduceSub,Nat.reduceMul,Nat.reduceLT,Nat.reduceLeDiff,Nat.reduceEqDiff,Nat.reduceBEq,Int.reduceToNat,Int.reduceNeg,if_true,if_false,reduceIte,stays,inL,same1,qn,ldN,convN,lenN,cond_true,cond_false,implies_true,Int.reduceEq,Int.reduceNe,Int.reduceLE,Int.reduceLT,forall_eq_or_imp,forall_eq,ne_eq,reduceCtorEq,notInt,numB,tabB,Array.reduceGetElem?,upG,up,nth,lay,rcB,rnm,rnmL,wrB,pcB,res63,res52,pl63,pl52,Option.isNone,lhB,wrap8,liB]
    repeat (refine ⟨by omega, ?_⟩)
    refine callP_simL (sim_two (c' := .row true [BitVec.ofInt 8 k].length 1 fun i => .int .u8 (nat ([BitVec.ofInt 8 k].getD i 0))) (chSim_row rfl fun i hi => by obtain rfl : i = 0 := (by omega); rfl)) ?_
    refine c102 [BitVec.ofInt 8 k] (h.length + 1) f hf _ (lookH_app _ 1 _) (by simp) _ ?_
    rw [← hD1]
    intro H m hE hm hrow
    have hE1 : Ext (fun _ => False) h H := ext_own ((Ext.refl _ _).app _) (by omega) hE
    have hx : lookH H h.length = Chunk.cells true [.int .i64 k, .int .i64 f, .int .i64 v, .int .i64 s, .fam 32 1 fun i => .int .u8 (nat (d i)), .osl kb 0 0 1 b.length, .osl kbs 0 0 1 bs.length, .osl kp 0 0 73 p.length, .osl kq 0 0 74 q.length, .int .i64 key, .fam 32 1 fun i => .int .u8 (nat (of i))] := hE.look (lookH_app _ 0 _) (by simp) fun h => by omega
    have hhl := hE1.1
    have hm2 : h.length ≤ m := by rw [List.length_append] at hm; omega
    simp -implicitDefEqProofs (maxSteps := 1000000) (disch := omega) only [↓vcB,↓gd,↓opP,↓qv,↓ef,↓bslS,↓stS,↓mkS,↓rangeS,↓nextS,↓entryS,↓delS,↓mupS,↓appS,↓s2bS,↓resS,evB,Sx.look,slot,↓lkL,putS,putO,argsL,↓reduceIte,ofV,of1,lookH,putH,List.replicate,List.append,convS,fldA,nthT,idxA,idxS,fldS,oslN,bnd,slS,unS,valI,lenS,lookS,takeC,psB,asRow,csB,rdF,Ent.row,ldS,sz,szL,wrF,bldF,plT,bldS,srcS,nilS,nilEq,mapC,binH,binS2,structS,eqL,eqF,binS,arrS,isI,tupS,stor,storL,Value.oneCell',minS,maxS,capS,Nat.reduceAdd,Nat.reduceSub,Nat.reduceMul,Nat.reduceLT,Nat.reduceLeDiff,Nat.reduceEqDiff,Nat.reduceBEq,Int.reduceToNat,Int.reduceNeg,if_true,if_false,reduceIte,stays,inL,same1,qn,ldN,convN,lenN,cond_true,cond_false,implies_true,Int.reduceEq,Int.reduceNe,Int.reduceLE,Int.reduceLT,forall_eq_or_imp,forall_eq,ne_eq,reduceCtorEq,notInt,numB,tabB,Array.reduceGetElem?,upG,up,nth,lay,rcB,rnm,rnmL,wrB,pcB,res63,res52,pl63,pl52,Option.isNone,lhB,liB]
    repeat (refine ⟨by omega, ?_⟩)
    exact into_keep [(1, .ptr h.length 0), (2, .v (.slice none 0 0)), (3, .osl m 0 0 1 D1.length)] (by simp [sameT, slot, lkL]) fun j => ⟨H, m, j, (hHB _ _ _).2 ⟨hE1, hx, hm2, hrow⟩, rfl⟩
  rintro _ ⟨H, m, j, hhb, rfl⟩
  obtain ⟨hE, hx, hm, hrow⟩ := (hHB _ _ _).1 hhb
  have hhl := hE.1
  have hxm : h.length ≠ m := fun e => by rw [← e, hx] at hrow; cases hrow
  refine codeP_seq (pl := pl63) tabOk follows_mixed (by kernel_rfl) (fun st => ∃ (H : List Chunk) (m : Nat) (j : Nat → Value), HB D2 H m ∧ st = ⟨⟨107, [(1, .ptr h.length 0), (2, .v (.slice none 0 0)), (3, .osl m 0 0 1 D2.length)], j⟩, H, []⟩) ?_ ?_
  · have hv := wrap_ofInt v
    have hs := wrap_ofInt s
    simp -implicitDefEqProofs (maxSteps := 1000000) (disch := omega) only [↓vcB,↓gd,↓opP,↓qv,↓ef,↓bslS,↓stS,↓mkS,↓rangeS,↓nextS,↓entryS,↓delS,↓mupS,↓appS,↓s2bS,↓resS,evB,Sx.look,slot,↓lkL,putS,putO,argsL,↓reduceIte,ofV,of1,lookH,putH,List.replicate,List.append,convS,fldA,nthT,idxA,idxS,fldS,oslN,bnd,slS,unS,valI,lenS,lookS,takeC,psB,asRow,csB,rdF,Ent.row,ldS,sz,szL,wrF,bldF,plT,bldS,srcS,nilS,nilEq,mapC,binH,binS2,structS,eqL,eqF,binS,arrS,isI,tupS,stor,storL,Value.oneCell',minS,maxS,capS,Nat.reduceAdd,Nat.reduceSub,Nat.reduceMul,Nat.reduceLT,Nat.reduceLeDiff,Nat.reduceEqDiff,Nat.reduceBEq,Int.reduceToNat,Int.reduceNeg,if_true,if_false,reduceIte,stays,inL,same1,qn,ldN,convN,lenN,cond_true,cond_false,implies_true,Int.reduceEq,Int.reduceNe,Int.reduceLE,Int.reduceLT,forall_eq_or_imp,forall_eq,ne_eq,reduceCtorEq,notInt,numB,tabB,Array.reduceGetElem?,upG,up,nth,lay,rcB,rnm,rnmL,wrB,pcB,res63,res52,pl63,pl52,Option.isNone,lhB,hx,hv,hs,liB]
    repeat (refine ⟨by omega, ?_⟩)
    refine c113 D1 m (BitVec.ofInt 64 v) H hrow (by omega) _ ?_
    intro H1 m1 hE1 hm1 hrow1
    have hx1 := hE1.look hx (by simp) hxm
    refine ⟨hx1, ?_⟩
    obtain ⟨Dv, hDv⟩ : ∃ D, D = D1 ++ leb (BitVec.ofInt 64 v).toNat := ⟨_, rfl⟩
    have lv := congrArg List.length hDv
    rw [List.length_append] at lv
    rw [← hDv] at hrow1 ⊢
    have hD2' : D2 = Dv ++ leb (BitVec.ofInt 64 s).toNat := by rw [hD2, hDv]; rfl
    have lv2 : D1.length + (leb (BitVec.ofInt 64 v).toNat).length ≤ D2.length := by rw [l2]; show _ ≤ _ + (leb (BitVec.ofInt 64 v).toNat).length + _; omega
    have hxm1 : h.length ≠ m1 := fun e => by rw [← e, hx1] at hrow1; cases hrow1
    simp -implicitDefEqProofs (maxSteps := 1000000) (disch := omega) only [↓vcB,↓gd,↓opP,↓qv,↓ef,↓bslS,↓stS,↓mkS,↓rangeS,↓nextS,↓entryS,↓delS,↓mupS,↓appS,↓s2bS,↓resS,evB,Sx.look,slot,↓lkL,putS,putO,argsL,↓reduceIte,ofV,of1,lookH,putH,List.replicate,List.append,convS,fldA,nthT,idxA,idxS,fldS,oslN,bnd,slS,unS,valI,lenS,lookS,takeC,psB,asRow,csB,rdF,Ent.row,ldS,sz,szL,wrF,bldF,plT,bldS,srcS,nilS,nilEq,mapC,binH,binS2,structS,eqL,eqF,binS,arrS,isI,tupS,stor,storL,Value.oneCell',minS,maxS,capS,Nat.reduceAdd,Nat.reduceSub,Nat.reduceMul,Nat.reduceLT,Nat.reduceLeDiff,Nat.reduceEqDiff,Nat.reduceBEq,Int.reduceToNat,Int.reduceNeg,if_true,if_false,reduceIte,stays,inL,same1,qn,ldN,convN,lenN,cond_true,cond_false,implies_true,Int.reduceEq,Int.reduceNe,Int.reduceLE,Int.reduceLT,forall_eq_or_imp,forall_eq,ne_eq,reduceCtorEq,notInt,numB,tabB,Array.reduceGetElem?,upG,up,nth,lay,rcB,rnm,rnmL,wrB,pcB,res63,res52,pl63,pl52,Option.isNone,lhB,liB]
    repeat (refine ⟨by omega, ?_⟩)
    refine c113 Dv m1 (BitVec.ofInt 64 s) H1 hrow1 (by omega) _ ?_
    rw [← hD2']
    intro H2 m2 hE2 hm2 hrow2
    have hE4 := ext_own (ext_own hE hm hE1) (by have := hE1.1; omega) hE2
    have hx2 := hE2.look hx1 (by simp) hxm1
    have hm3 : h.length ≤ m2 := by have := hE1.1; omega
    simp -implicitDefEqProofs (maxSteps := 1000000) (disch := omega) only [↓vcB,↓gd,↓opP,↓qv,↓ef,↓bslS,↓stS,↓mkS,↓rangeS,↓nextS,↓entryS,↓delS,↓mupS,↓appS,↓s2bS,↓resS,evB,Sx.look,slot,↓lkL,putS,putO,argsL,↓reduceIte,ofV,of1,lookH,putH,List.replicate,List.append,convS,fldA,nthT,idxA,idxS,fldS,oslN,bnd,slS,unS,valI,lenS,lookS,takeC,psB,asRow,csB,rdF,Ent.row,ldS,sz,szL,wrF,bldF,plT,bldS,srcS,nilS,nilEq,mapC,binH,binS2,structS,eqL,eqF,binS,arrS,isI,tupS,stor,storL,Value.oneCell',minS,maxS,capS,Nat.reduceAdd,Nat.reduceSub,Nat.reduceMul,Nat.reduceLT,Nat.reduceLeDiff,Nat.reduceEqDiff,Nat.reduceBEq,Int.reduceToNat,Int.reduceNeg,if_true,if_false,reduceIte,stays,inL,same1,qn,ldN,convN,lenN,cond_true,cond_false,implies_true,Int.reduceEq,Int.reduceNe,Int.reduceLE,Int.reduceLT,forall_eq_or_imp,forall_eq,ne_eq,reduceCtorEq,notInt,numB,tabB,Array.reduceGetElem?,upG,up,nth,lay,rcB,rnm,rnmL,wrB,pcB,res63,res52,pl63,pl52,Option.isNone,lhB,liB]
    repeat (refine ⟨by omega, ?_⟩)
    refine ⟨hE2.2 _ (lookH_lt hx1 (by simp)) hxm1, ?_⟩
    exact into_keep [(1, .ptr h.length 0), (2, .v (.slice none 0 0)), (3, .osl m2 0 0 1 D2.length)] (by simp [sameT, slot, lkL]) fun j => ⟨H2, m2, j, (hHB _ _ _).2 ⟨hE4, hx2, hm3, hrow2⟩, rfl⟩
  rintro _ ⟨H, m, j, hhb, rfl⟩
  obtain ⟨hE, hx, hm, hrow⟩ := (hHB _ _ _).1 hhb
  have hhl := hE.1
  have hxm : h.length ≠ m := fun e => by rw [← e, hx] at hrow; cases hrow
  refine codeP_seq (pl := pl63) tabOk follows_mixed (by kernel_rfl) (fun st => ∃ (H : List Chunk) (m : Nat) (j : Nat → Value), HB D3 H m ∧ st = ⟨⟨107, [(1, .ptr h.length 0), (2, .v (.slice none 0 0)), (3, .osl m 0 0 1 D3.length)], j⟩, H, []⟩) ?_ ?_
  · simp -implicitDefEqProofs (maxSteps := 1000000) (disch := omega) only [↓vcB,↓gd,↓opP,↓qv,↓ef,↓bslS,↓stS,↓mkS,↓rangeS,↓nextS,↓entryS,↓delS,↓mupS,↓appS,↓s2bS,↓resS,evB,Sx.look,slot,↓lkL,putS,putO,argsL,↓reduceIte,ofV,of1,lookH,putH,List.replicate,List.append,convS,fldA,nthT,idxA,idxS,fldS,oslN,bnd,slS,unS,valI,lenS,lookS,takeC,psB,asRow,csB,rdF,Ent.row,ldS,sz,szL,wrF,bldF,plT,bldS,srcS,nilS,nilEq,mapC,binH,binS2,structS,eqL,eqF,binS,arrS,isI,tupS,stor,storL,Value.oneCell',minS,maxS,capS,Nat.reduceAdd,Nat.reduceSub,Nat.reduceMul,Nat.reduceLT,Nat.reduceLeDiff,Nat.reduceEqDiff,Nat.reduceBEq,Int.reduceToNat,Int.reduceNeg,if_true,if_false,reduceIte,stays,inL,same1,qn,ldN,convN,lenN,cond_true,cond_false,implies_true,Int.reduceEq,Int.reduceNe,Int.reduceLE,Int.reduceLT,forall_eq_or_imp,forall_eq,ne_eq,reduceCtorEq,notInt,numB,tabB,Array.reduceGetElem?,upG,up,nth,lay,rcB,rnm,rnmL,wrB,pcB,res63,res52,pl63,pl52,Option.isNone,lhB,hx,hrow,liB]
    repeat (refine ⟨by omega, ?_⟩)
    have hEp : ∀ c, Ext (fun _ => False) h (putH H m .none ++ [c]) := fun c => (hE.put _ (.inr hm)).app _
    have hxl := lookH_lt hx (by simp)
    refine ⟨by rw [lookH_at _ (by rw [putH_len]; exact hxl), lookH_put_ne _ hxm]; exact hx, ?_⟩
    have hl : D2.length + 32 = (D2 ++ d32 d).length := by rw [List.length_append, d32_len]
    refine callP_simL (row_sim hl fun i hi => ?_) ?_
    · rw [← app_byte]
      by_cases c : i < D2.length
      · rw [if_pos c, if_pos c]
      · rw [if_neg c, if_neg c, d32_get _ (by omega)]
    have hxc : lookH (putH H m .none ++ [.row true (D2 ++ d32 d).length 1 fun i => .int .u8 (nat ((D2 ++ d32 d).getD i 0))]) h.length = Chunk.cells true [.int .i64 k, .int .i64 f, .int .i64 v, .int .i64 s, .fam 32 1 fun i => .int .u8 (nat (d i)), .osl kb 0 0 1 b.length, .osl kbs 0 0 1 bs.length, .osl kp 0 0 73 p.length, .osl kq 0 0 74 q.length, .int .i64 key, .fam 32 1 fun i => .int .u8 (nat (of i))] := by rw [lookH_at _ (by rw [putH_len]; exact hxl), lookH_put_ne _ hxm]; exact hx
    rw [hl]
    have hkl := lookH_lt hkb (by simp)
    refine c114 (D2 ++ d32 d) b H.length kb wb _ (lookH_last (by simp [putH_len])) ((hEp _).look hkb (by simp) fun h => h) (by omega) (by rw [List.length_append, d32_len]; have : b.length ≤ (putB b).length := (by unfold putB; rw [List.length_append]; omega); omega) _ ?_
    rw [← hD3]
    intro H2 m2 hE2 hm2 hrow2
    have hE4 := ext_own (hEp _) (by omega) hE2
    have hx2 := hE2.look hxc (by simp) fun h => by omega
    have hm3 : h.length ≤ m2 := by rw [List.length_append, putH_len] at hm2; omega
    simp -implicitDefEqProofs (maxSteps := 1000000) (disch := omega) only [↓vcB,↓gd,↓opP,↓qv,↓ef,↓bslS,↓stS,↓mkS,↓rangeS,↓nextS,↓entryS,↓delS,↓mupS,↓appS,↓s2bS,↓resS,evB,Sx.look,slot,↓lkL,putS,putO,argsL,↓reduceIte,ofV,of1,lookH,putH,List.replicate,List.append,convS,fldA,nthT,idxA,idxS,fldS,oslN,bnd,slS,unS,valI,lenS,lookS,takeC,psB,asRow,csB,rdF,Ent.row,ldS,sz,szL,wrF,bldF,plT,bldS,srcS,nilS,nilEq,mapC,binH,binS2,structS,eqL,eqF,binS,arrS,isI,tupS,stor,storL,Value.oneCell',minS,maxS,capS,Nat.reduceAdd,Nat.reduceSub,Nat.reduceMul,Nat.reduceLT,Nat.reduceLeDiff,Nat.reduceEqDiff,Nat.reduceBEq,Int.reduceToNat,Int.reduceNeg,if_true,if_false,reduceIte,stays,inL,same1,qn,ldN,convN,lenN,cond_true,cond_false,implies_true,Int.reduceEq,Int.reduceNe,Int.reduceLE,Int.reduceLT,forall_eq_or_imp,forall_eq,ne_eq,reduceCtorEq,notInt,numB,tabB,Array.reduceGetElem?,upG,up,nth,lay,rcB,rnm,rnmL,wrB,pcB,res63,res52,pl63,pl52,Option.isNone,lhB,liB]
    repeat (refine ⟨by omega, ?_⟩)
    exact into_keep [(1, .ptr h.length 0), (2, .v (.slice none 0 0)), (3, .osl m2 0 0 1 D3.length)] (by simp [sameT, slot, lkL]) fun j => ⟨H2, m2, j, (hHB _ _ _).2 ⟨hE4, hx2, hm3, hrow2⟩, rfl⟩
  rintro _ ⟨H, m, j, hhb, rfl⟩
  obtain ⟨hE, hx, hm, hrow⟩ := (hHB _ _ _).1 hhb
  have hhl := hE.1
  have hxm : h.length ≠ m := fun e => by rw [← e, hx] at hrow; cases hrow
  refine codeP_seq (pl := pl63) tabOk follows_mixed (by kernel_rfl) (fun st => ∃ (H : List Chunk) (m : Nat) (j : Nat → Value), HB E3 H m ∧ st = ⟨⟨107, [(1, .ptr h.length 0), (2, .v (.slice none 0 0)), (3, .osl m 0 0 1 E3.length)], j⟩, H, []⟩) ?_ ?_
  · have hu := len_u64 (n := bs.length) (by omega)
    have hu1 := hu.1
    simp -implicitDefEqProofs (maxSteps := 1000000) (disch := omega) only [↓vcB,↓gd,↓opP,↓qv,↓ef,↓bslS,↓stS,↓mkS,↓rangeS,↓nextS,↓entryS,↓delS,↓mupS,↓appS,↓s2bS,↓resS,evB,Sx.look,slot,↓lkL,putS,putO,argsL,↓reduceIte,ofV,of1,lookH,putH,List.replicate,List.append,convS,fldA,nthT,idxA,idxS,fldS,oslN,bnd,slS,unS,valI,lenS,lookS,takeC,psB,asRow,csB,rdF,Ent.row,ldS,sz,szL,wrF,bldF,plT,bldS,srcS,nilS,nilEq,mapC,binH,binS2,structS,eqL,eqF,binS,arrS,isI,tupS,stor,storL,Value.oneCell',minS,maxS,capS,Nat.reduceAdd,Nat.reduceSub,Nat.reduceMul,Nat.reduceLT,Nat.reduceLeDiff,Nat.reduceEqDiff,Nat.reduceBEq,Int.reduceToNat,Int.reduceNeg,if_true,if_false,reduceIte,stays,inL,same1,qn,ldN,convN,lenN,cond_true,cond_false,implies_true,Int.reduceEq,Int.reduceNe,Int.reduceLE,Int.reduceLT,forall_eq_or_imp,forall_eq,ne_eq,reduceCtorEq,notInt,numB,tabB,Array.reduceGetElem?,upG,up,nth,lay,rcB,rnm,rnmL,wrB,pcB,res63,res52,pl63,pl52,Option.isNone,lhB,hx,hrow,hu1,liB]
    repeat (refine ⟨by omega, ?_⟩)
    refine c113 D3 m _ H hrow (by omega) _ ?_
    rw [hu.2, ← hE3]
    intro H2 m2 hE2 hm2 hrow2
    have hE4 := ext_own hE hm hE2
    have hx2 := hE2.look hx (by simp) hxm
    have hm3 : h.length ≤ m2 := by omega
    simp -implicitDefEqProofs (maxSteps := 1000000) (disch := omega) only [↓vcB,↓gd,↓opP,↓qv,↓ef,↓bslS,↓stS,↓mkS,↓rangeS,↓nextS,↓entryS,↓delS,↓mupS,↓appS,↓s2bS,↓resS,evB,Sx.look,slot,↓lkL,putS,putO,argsL,↓reduceIte,ofV,of1,lookH,putH,List.replicate,List.append,convS,fldA,nthT,idxA,idxS,fldS,oslN,bnd,slS,unS,valI,lenS,lookS,takeC,psB,asRow,csB,rdF,Ent.row,ldS,sz,szL,wrF,bldF,plT,bldS,srcS,nilS,nilEq,mapC,binH,binS2,structS,eqL,eqF,binS,arrS,isI,tupS,stor,storL,Value.oneCell',minS,maxS,capS,Nat.reduceAdd,Nat.reduceSub,Nat.reduceMul,Nat.reduceLT,Nat.reduceLeDiff,Nat.reduceEqDiff,Nat.reduceBEq,Int.reduceToNat,Int.reduceNeg,if_true,if_false,reduceIte,stays,inL,same1,qn,ldN,convN,lenN,cond_true,cond_false,implies_true,Int.reduceEq,Int.reduceNe,Int.reduceLE,Int.reduceLT,forall_eq_or_imp,forall_eq,ne_eq,reduceCtorEq,notInt,numB,tabB,Array.reduceGetElem?,upG,up,nth,lay,rcB,rnm,rnmL,wrB,pcB,res63,res52,pl63,pl52,Option.isNone,lhB,liB]
    repeat (refine ⟨by omega, ?_⟩)
    exact into_keep [(1, .ptr h.length 0), (2, .v (.slice none 0 0)), (3, .osl m2 0 0 1 E3.length)] (by simp [sameT, slot, lkL]) fun j => ⟨H2, m2, j, (hHB _ _ _).2 ⟨hE4, hx2, hm3, hrow2⟩, rfl⟩
  rintro _ ⟨H, m, j, hhb, rfl⟩
  obtain ⟨hE, hx, hm, hrow⟩ := (hHB _ _ _).1 hhb
  have hhl := hE.1
  have hxm : h.length ≠ m := fun e => by rw [← e, hx] at hrow; cases hrow
  refine codeP_seq (pl := pl63) tabOk follows_mixed (by kernel_rfl) (fun st => ∃ (H : List Chunk) (m : Nat) (j : Nat → Value), HB D4 H m ∧ st = ⟨⟨107, [(1, .ptr h.length 0), (2, .v (.slice none 0 0)), (3, .osl m 0 0 1 D4.length)], j⟩, H, []⟩) ?_ ?_
  · simp -implicitDefEqProofs (maxSteps := 1000000) (disch := omega) only [↓vcB,↓gd,↓opP,↓qv,↓ef,↓bslS,↓stS,↓mkS,↓rangeS,↓nextS,↓entryS,↓delS,↓mupS,↓appS,↓s2bS,↓resS,evB,Sx.look,slot,↓lkL,putS,putO,argsL,↓reduceIte,ofV,of1,lookH,putH,List.replicate,List.append,convS,fldA,nthT,idxA,idxS,fldS,oslN,bnd,slS,unS,valI,lenS,lookS,takeC,psB,asRow,csB,rdF,Ent.row,ldS,sz,szL,wrF,bldF,plT,bldS,srcS,nilS,nilEq,mapC,binH,binS2,structS,eqL,eqF,binS,arrS,isI,tupS,stor,storL,Value.oneCell',minS,maxS,capS,Nat.reduceAdd,Nat.reduceSub,Nat.reduceMul,Nat.reduceLT,Nat.reduceLeDiff,Nat.reduceEqDiff,Nat.reduceBEq,Int.reduceToNat,Int.reduceNeg,if_true,if_false,reduceIte,stays,inL,same1,qn,ldN,convN,lenN,cond_true,cond_false,implies_true,Int.reduceEq,Int.reduceNe,Int.reduceLE,Int.reduceLT,forall_eq_or_imp,forall_eq,ne_eq,reduceCtorEq,notInt,numB,tabB,Array.reduceGetElem?,upG,up,nth,lay,rcB,rnm,rnmL,wrB,pcB,res63,res52,pl63,pl52,Option.isNone,lhB,hx,hrow,liB]
    repeat (refine ⟨by omega, ?_⟩)
    refine codeP_loop (pl := pl63) tabOk follows_mixed (by kernel_rfl) (fun z st => ∃ (i : Nat) (D : List By) (H : List Chunk) (m : Nat) (j : Nat → Value), i + z = bs.length ∧ D ++ (bs.drop i).flatMap putB = D4 ∧ HB D H m ∧ st = ⟨⟨107, [(1, .ptr h.length 0), (2, .v (.slice none 0 0)), (3, .osl m 0 0 1 D.length), (42, .osl kbs 0 0 1 bs.length), (43, .int .i64 (bs.length : Nat)), (44, .int .i64 (i : Nat))], j⟩, H, []⟩) ?_ ?_
    · exact into_keep [(1, .ptr h.length 0), (2, .v (.slice none 0 0)), (3, .osl m 0 0 1 E3.length), (42, .osl kbs 0 0 1 bs.length), (43, .int .i64 (bs.length : Nat)), (44, .int .i64 (0 : Nat))] (by simp [sameT, slot, lkL]) fun j => ⟨bs.length, 0, E3, H, m, j, by omega, by rw [hD4]; rfl, hhb, rfl⟩
    · clear hxm hhl hrow hm hx hE hhb
      rintro z st ⟨i, D, H, m, j, hiz, hD, hhb, rfl⟩
      obtain ⟨hE, hx, hm, hrow⟩ := (hHB _ _ _).1 hhb
      have hhl := hE.1
      have hxm : h.length ≠ m := fun e => by rw [← e, hx] at hrow; cases hrow
      by_cases hi : i < bs.length
      · have g1 : decide ((i : Int) < (bs.length : Nat)) = true := decide_eq_true (by omega)
        have a1 : IntKind.i64.wrap ((i : Int) + 1) = ((i + 1 : Nat) : Int) := by rw [wrap64 (by omega) (by omega)]; omega
        have hr1 := hE.look hkbs (by simp) fun h => h
        rw [List.drop_eq_getElem_cons hi, List.flatMap_cons, ← List.append_assoc] at hD
        have hl2 := congrArg List.length hD
        rw [List.length_append] at hl2
        obtain ⟨k2, w2, hfi, hk2⟩ := hfb i hi
        have hg : bs.getD i [] = bs[i] := by simp [hi]
        rw [hg] at hfi hk2
        obtain ⟨C, hC⟩ : ∃ C, C = bs[i] := ⟨_, rfl⟩
        have hp : (D ++ putB C).length ≤ 17592186044416 := by rw [hC]; omega
        unfold putB at hp
        simp only [List.length_append] at hp
        rw [← hC] at hfi hk2
        simp -implicitDefEqProofs (maxSteps := 1000000) (disch := omega) only [↓vcB,↓gd,↓opP,↓qv,↓ef,↓bslS,↓stS,↓mkS,↓rangeS,↓nextS,↓entryS,↓delS,↓mupS,↓appS,↓s2bS,↓resS,evB,Sx.look,slot,↓lkL,putS,putO,argsL,↓reduceIte,ofV,of1,lookH,putH,List.replicate,List.append,convS,fldA,nthT,idxA,idxS,fldS,oslN,bnd,slS,unS,valI,lenS,lookS,takeC,psB,asRow,csB,rdF,Ent.row,ldS,sz,szL,wrF,bldF,plT,bldS,srcS,nilS,nilEq,mapC,binH,binS2,structS,eqL,eqF,binS,arrS,isI,tupS,stor,storL,Value.oneCell',minS,maxS,capS,Nat.reduceAdd,Nat.reduceSub,Nat.reduceMul,Nat.reduceLT,Nat.reduceLeDiff,Nat.reduceEqDiff,Nat.reduceBEq,Int.reduceToNat,Int.reduceNeg,if_true,if_false,reduceIte,stays,inL,same1,qn,ldN,convN,lenN,cond_true,cond_false,implies_true,Int.reduceEq,Int.reduceNe,Int.reduceLE,Int.reduceLT,forall_eq_or_imp,forall_eq,ne_eq,reduceCtorEq,notInt,numB,tabB,Array.reduceGetElem?,upG,up,nth,lay,rcB,rnm,rnmL,wrB,pcB,res63,res52,pl63,pl52,Option.isNone,lhB,g1,hr1,hfi,liB]
        repeat (refine ⟨by omega, ?_⟩)
        have hkl := lookH_lt hk2 (by simp)
        refine c114 D C m k2 w2 H hrow (hE.look hk2 (by simp) fun h => h) (by omega) (by omega) _ ?_
        rw [hC]
        intro H2 m2 hE2 hm2 hrow2
        obtain ⟨D9, hD9⟩ : ∃ D9, D9 = D ++ putB bs[i] := ⟨_, rfl⟩
        rw [← hD9] at hrow2 hD ⊢
        have hE4 := ext_own hE hm hE2
        have hx2 := hE2.look hx (by simp) hxm
        simp -implicitDefEqProofs (maxSteps := 1000000) (disch := omega) only [↓vcB,↓gd,↓opP,↓qv,↓ef,↓bslS,↓stS,↓mkS,↓rangeS,↓nextS,↓entryS,↓delS,↓mupS,↓appS,↓s2bS,↓resS,evB,Sx.look,slot,↓lkL,putS,putO,argsL,↓reduceIte,ofV,of1,lookH,putH,List.replicate,List.append,convS,fldA,nthT,idxA,idxS,fldS,oslN,bnd,slS,unS,valI,lenS,lookS,takeC,psB,asRow,csB,rdF,Ent.row,ldS,sz,szL,wrF,bldF,plT,bldS,srcS,nilS,nilEq,mapC,binH,binS2,structS,eqL,eqF,binS,arrS,isI,tupS,stor,storL,Value.oneCell',minS,maxS,capS,Nat.reduceAdd,Nat.reduceSub,Nat.reduceMul,Nat.reduceLT,Nat.reduceLeDiff,Nat.reduceEqDiff,Nat.reduceBEq,Int.reduceToNat,Int.reduceNeg,if_true,if_false,reduceIte,stays,inL,same1,qn,ldN,convN,lenN,cond_true,cond_false,implies_true,Int.reduceEq,Int.reduceNe,Int.reduceLE,Int.reduceLT,forall_eq_or_imp,forall_eq,ne_eq,reduceCtorEq,notInt,numB,tabB,Array.reduceGetElem?,upG,up,nth,lay,rcB,rnm,rnmL,wrB,pcB,res63,res52,pl63,pl52,Option.isNone,lhB,a1,liB]
        repeat (refine ⟨by omega, ?_⟩)
        exact into_keep [(1, .ptr h.length 0), (2, .v (.slice none 0 0)), (3, .osl m2 0 0 1 D9.length), (42, .osl kbs 0 0 1 bs.length), (43, .int .i64 (bs.length : Nat)), (44, .int .i64 (i + 1 : Nat))] (by simp [sameT, slot, lkL]) fun j => ⟨z - 1, by omega, i + 1, D9, H2, m2, j, by omega, hD, (hHB _ _ _).2 ⟨hE4, hx2, by omega, hrow2⟩, rfl⟩
      · have g1 : decide ((i : Int) < (bs.length : Nat)) = false := decide_eq_false (by omega)
        have hd : bs.drop i = [] := List.drop_of_length_le (by omega)
        rw [hd, List.flatMap_nil, List.append_nil] at hD
        rw [hD] at hhb ⊢
        simp -implicitDefEqProofs (maxSteps := 1000000) (disch := omega) only [↓vcB,↓gd,↓opP,↓qv,↓ef,↓bslS,↓stS,↓mkS,↓rangeS,↓nextS,↓entryS,↓delS,↓mupS,↓appS,↓s2bS,↓resS,evB,Sx.look,slot,↓lkL,putS,putO,argsL,↓reduceIte,ofV,of1,lookH,putH,List.replicate,List.append,convS,fldA,nthT,idxA,idxS,fldS,oslN,bnd,slS,unS,valI,lenS,lookS,takeC,psB,asRow,csB,rdF,Ent.row,ldS,sz,szL,wrF,bldF,plT,bldS,srcS,nilS,nilEq,mapC,binH,binS2,structS,eqL,eqF,binS,arrS,isI,tupS,stor,storL,Value.oneCell',minS,maxS,capS,Nat.reduceAdd,Nat.reduceSub,Nat.reduceMul,Nat.reduceLT,Nat.reduceLeDiff,Nat.reduceEqDiff,Nat.reduceBEq,Int.reduceToNat,Int.reduceNeg,if_true,if_false,reduceIte,stays,inL,same1,qn,ldN,convN,lenN,cond_true,cond_false,implies_true,Int.reduceEq,Int.reduceNe,Int.reduceLE,Int.reduceLT,forall_eq_or_imp,forall_eq,ne_eq,reduceCtorEq,notInt,numB,tabB,Array.reduceGetElem?,upG,up,nth,lay,rcB,rnm,rnmL,wrB,pcB,res63,res52,pl63,pl52,Option.isNone,lhB,g1,liB]
        repeat (refine ⟨by omega, ?_⟩)
        exact into_keep [(1, .ptr h.length 0), (2, .v (.slice none 0 0)), (3, .osl m 0 0 1 D4.length)] (by simp [sameT, slot, lkL]) fun j => ⟨H, m, j, hhb, rfl⟩
  rintro _ ⟨H, m, j, hhb, rfl⟩
  obtain ⟨hE, hx, hm, hrow⟩ := (hHB _ _ _).1 hhb
  have hhl := hE.1
  have hxm : h.length ≠ m := fun e => by rw [← e, hx] at hrow; cases hrow
  refine codeP_seq (pl := pl63) tabOk follows_mixed (by kernel_rfl) (fun st => ∃ (H : List Chunk) (m : Nat) (j : Nat → Value), HB E4 H m ∧ st = ⟨⟨107, [(1, .ptr h.length 0), (2, .v (.slice none 0 0)), (3, .osl m 0 0 1 E4.length)], j⟩, H, []⟩) ?_ ?_
  · have hu := len_u64 (n := p.length) (by omega)
    have hu1 := hu.1
    simp -implicitDefEqProofs (maxSteps := 1000000) (disch := omega) only [↓vcB,↓gd,↓opP,↓qv,↓ef,↓bslS,↓stS,↓mkS,↓rangeS,↓nextS,↓entryS,↓delS,↓mupS,↓appS,↓s2bS,↓resS,evB,Sx.look,slot,↓lkL,putS,putO,argsL,↓reduceIte,ofV,of1,lookH,putH,List.replicate,List.append,convS,fldA,nthT,idxA,idxS,fldS,oslN,bnd,slS,unS,valI,lenS,lookS,takeC,psB,asRow,csB,rdF,Ent.row,ldS,sz,szL,wrF,bldF,plT,bldS,srcS,nilS,nilEq,mapC,binH,binS2,structS,eqL,eqF,binS,arrS,isI,tupS,stor,storL,Value.oneCell',minS,maxS,capS,Nat.reduceAdd,Nat.reduceSub,Nat.reduceMul,Nat.reduceLT,Nat.reduceLeDiff,Nat.reduceEqDiff,Nat.reduceBEq,Int.reduceToNat,Int.reduceNeg,if_true,if_false,reduceIte,stays,inL,same1,qn,ldN,convN,lenN,cond_true,cond_false,implies_true,Int.reduceEq,Int.reduceNe,Int.reduceLE,Int.reduceLT,forall_eq_or_imp,forall_eq,ne_eq,reduceCtorEq,notInt,numB,tabB,Array.reduceGetElem?,upG,up,nth,lay,rcB,rnm,rnmL,wrB,pcB,res63,res52,pl63,pl52,Option.isNone,lhB,hx,hrow,hu1,liB]
    repeat (refine ⟨by omega, ?_⟩)
    refine c113 D4 m _ H hrow (by omega) _ ?_
    rw [hu.2, ← hE4]
    intro H2 m2 hE2 hm2 hrow2
    have hE4 := ext_own hE hm hE2
    have hx2 := hE2.look hx (by simp) hxm
    have hm3 : h.length ≤ m2 := by omega
    simp -implicitDefEqProofs (maxSteps := 1000000) (disch := omega) only [↓vcB,↓gd,↓opP,↓qv,↓ef,↓bslS,↓stS,↓mkS,↓rangeS,↓nextS,↓entryS,↓delS,↓mupS,↓appS,↓s2bS,↓resS,evB,Sx.look,slot,↓lkL,putS,putO,argsL,↓reduceIte,ofV,of1,lookH,putH,List.replicate,List.append,convS,fldA,nthT,idxA,idxS,fldS,oslN,bnd,slS,unS,valI,lenS,lookS,takeC,psB,asRow,csB,rdF,Ent.row,ldS,sz,szL,wrF,bldF,plT,bldS,srcS,nilS,nilEq,mapC,binH,binS2,structS,eqL,eqF,binS,arrS,isI,tupS,stor,storL,Value.oneCell',minS,maxS,capS,Nat.reduceAdd,Nat.reduceSub,Nat.reduceMul,Nat.reduceLT,Nat.reduceLeDiff,Nat.reduceEqDiff,Nat.reduceBEq,Int.reduceToNat,Int.reduceNeg,if_true,if_false,reduceIte,stays,inL,same1,qn,ldN,convN,lenN,cond_true,cond_false,implies_true,Int.reduceEq,Int.reduceNe,Int.reduceLE,Int.reduceLT,forall_eq_or_imp,forall_eq,ne_eq,reduceCtorEq,notInt,numB,tabB,Array.reduceGetElem?,upG,up,nth,lay,rcB,rnm,rnmL,wrB,pcB,res63,res52,pl63,pl52,Option.isNone,lhB,liB]
    repeat (refine ⟨by omega, ?_⟩)
    exact into_keep [(1, .ptr h.length 0), (2, .v (.slice none 0 0)), (3, .osl m2 0 0 1 E4.length)] (by simp [sameT, slot, lkL]) fun j => ⟨H2, m2, j, (hHB _ _ _).2 ⟨hE4, hx2, hm3, hrow2⟩, rfl⟩
  rintro _ ⟨H, m, j, hhb, rfl⟩
  obtain ⟨hE, hx, hm, hrow⟩ := (hHB _ _ _).1 hhb
  have hhl := hE.1
  have hxm : h.length ≠ m := fun e => by rw [← e, hx] at hrow; cases hrow
  refine codeP_seq (pl := pl63) tabOk follows_mixed (by kernel_rfl) (fun st => ∃ (H : List Chunk) (m : Nat) (j : Nat → Value), HB D5 H m ∧ st = ⟨⟨107, [(1, .ptr h.length 0), (2, .v (.slice none 0 0)), (3, .osl m 0 0 1 D5.length)], j⟩, H, []⟩) ?_ ?_
  · simp -implicitDefEqProofs (maxSteps := 1000000) (disch := omega) only [↓vcB,↓gd,↓opP,↓qv,↓ef,↓bslS,↓stS,↓mkS,↓rangeS,↓nextS,↓entryS,↓delS,↓mupS,↓appS,↓s2bS,↓resS,evB,Sx.look,slot,↓lkL,putS,putO,argsL,↓reduceIte,ofV,of1,lookH,putH,List.replicate,List.append,convS,fldA,nthT,idxA,idxS,fldS,oslN,bnd,slS,unS,valI,lenS,lookS,takeC,psB,asRow,csB,rdF,Ent.row,ldS,sz,szL,wrF,bldF,plT,bldS,srcS,nilS,nilEq,mapC,binH,binS2,structS,eqL,eqF,binS,arrS,isI,tupS,stor,storL,Value.oneCell',minS,maxS,capS,Nat.reduceAdd,Nat.reduceSub,Nat.reduceMul,Nat.reduceLT,Nat.reduceLeDiff,Nat.reduceEqDiff,Nat.reduceBEq,Int.reduceToNat,Int.reduceNeg,if_true,if_false,reduceIte,stays,inL,same1,qn,ldN,convN,lenN,cond_true,cond_false,implies_true,Int.reduceEq,Int.reduceNe,Int.reduceLE,Int.reduceLT,forall_eq_or_imp,forall_eq,ne_eq,reduceCtorEq,notInt,numB,tabB,Array.reduceGetElem?,upG,up,nth,lay,rcB,rnm,rnmL,wrB,pcB,res63,res52,pl63,pl52,Option.isNone,lhB,hx,hrow,liB]
    repeat (refine ⟨by omega, ?_⟩)
    refine codeP_loop (pl := pl63) tabOk follows_mixed (by kernel_rfl) (fun z st => ∃ (i : Nat) (D : List By) (H : List Chunk) (m : Nat) (j : Nat → Value), i + z = p.length ∧ D ++ ((p.drop i).flatMap fun m => putB (enc m)) = D5 ∧ HB D H m ∧ st = ⟨⟨107, [(1, .ptr h.length 0), (2, .v (.slice none 0 0)), (3, .osl m 0 0 1 D.length), (59, .osl kp 0 0 73 p.length), (60, .int .i64 (p.length : Nat)), (61, .int .i64 (i : Nat))], j⟩, H, []⟩) ?_ ?_
    · exact into_keep [(1, .ptr h.length 0), (2, .v (.slice none 0 0)), (3, .osl m 0 0 1 E4.length), (59, .osl kp 0 0 73 p.length), (60, .int .i64 (p.length : Nat)), (61, .int .i64 (0 : Nat))] (by simp [sameT, slot, lkL]) fun j => ⟨p.length, 0, E4, H, m, j, by omega, by rw [hD5]; rfl, hhb, rfl⟩
    · clear hxm hhl hrow hm hx hE hhb
      rintro z st ⟨i, D, H, m, j, hiz, hD, hhb, rfl⟩
      obtain ⟨hE, hx, hm, hrow⟩ := (hHB _ _ _).1 hhb
      have hhl := hE.1
      have hxm : h.length ≠ m := fun e => by rw [← e, hx] at hrow; cases hrow
      by_cases hi : i < p.length
      · have g1 : decide ((i : Int) < (p.length : Nat)) = true := decide_eq_true (by omega)
        have a1 : IntKind.i64.wrap ((i : Int) + 1) = ((i + 1 : Nat) : Int) := by rw [wrap64 (by omega) (by omega)]; omega
        have hr1 := hE.look h3 (by simp) fun h => h
        rw [List.drop_eq_getElem_cons hi, List.flatMap_cons, ← List.append_assoc] at hD
        have hl2 := congrArg List.length hD
        rw [List.length_append] at hl2
        have hM := h4.get hi
        obtain ⟨xk, xf, xv, xs, xd, xkb, xnb, xkbs, xnbs, xkp, xnp, xkq, xnq, xkey, xof, hfi⟩ := hM.open
        rw [hfi] at hM
        simp -implicitDefEqProofs (maxSteps := 1000000) (disch := omega) only [↓vcB,↓gd,↓opP,↓qv,↓ef,↓bslS,↓stS,↓mkS,↓rangeS,↓nextS,↓entryS,↓delS,↓mupS,↓appS,↓s2bS,↓resS,evB,Sx.look,slot,↓lkL,putS,putO,argsL,↓reduceIte,ofV,of1,lookH,putH,List.replicate,List.append,convS,fldA,nthT,idxA,idxS,fldS,oslN,bnd,slS,unS,valI,lenS,lookS,takeC,psB,asRow,csB,rdF,Ent.row,ldS,sz,szL,wrF,bldF,plT,bldS,srcS,nilS,nilEq,mapC,binH,binS2,structS,eqL,eqF,binS,arrS,isI,tupS,stor,storL,Value.oneCell',minS,maxS,capS,Nat.reduceAdd,Nat.reduceSub,Nat.reduceMul,Nat.reduceLT,Nat.reduceLeDiff,Nat.reduceEqDiff,Nat.reduceBEq,Int.reduceToNat,Int.reduceNeg,if_true,if_false,reduceIte,stays,inL,same1,qn,ldN,convN,lenN,cond_true,cond_false,implies_true,Int.reduceEq,Int.reduceNe,Int.reduceLE,Int.reduceLT,forall_eq_or_imp,forall_eq,ne_eq,reduceCtorEq,notInt,numB,tabB,Array.reduceGetElem?,upG,up,nth,lay,rcB,rnm,rnmL,wrB,pcB,res63,res52,pl63,pl52,Option.isNone,lhB,g1,hr1,hfi,liB]
        repeat (refine ⟨by omega, ?_⟩)
        obtain ⟨C, hC⟩ : ∃ C, C = enc p[i] := ⟨_, rfl⟩
        have hp : (D ++ putB C).length ≤ 17592186044416 := by rw [hC]; omega
        unfold putB at hp
        simp only [List.length_append] at hp
        have hEm : Ext (fun _ => False) h (H ++ [Chunk.cells true [.int .i64 xk, .int .i64 xf, .int .i64 xv, .int .i64 xs, .fam 32 1 fun i => .int .u8 (nat (xd i)), .osl xkb 0 0 1 xnb, .osl xkbs 0 0 1 xnbs, .osl xkp 0 0 73 xnp, .osl xkq 0 0 74 xnq, .int .i64 xkey, .fam 32 1 fun i => .int .u8 (nat (xof i))]]) := hE.app _
        have hlm := lookH_lt hrow (by simp)
        have hxl := lookH_lt hx (by simp)
        have hrowm : lookH (H ++ [Chunk.cells true [.int .i64 xk, .int .i64 xf, .int .i64 xv, .int .i64 xs, .fam 32 1 fun i => .int .u8 (nat (xd i)), .osl xkb 0 0 1 xnb, .osl xkbs 0 0 1 xnbs, .osl xkp 0 0 73 xnp, .osl xkq 0 0 74 xnq, .int .i64 xkey, .fam 32 1 fun i => .int .u8 (nat (xof i))]]) m = .row true D.length 1 (fun i => .int .u8 (nat (D.getD i 0))) := by rw [lookH_at _ hlm]; exact hrow
        have hxn : lookH (H ++ [Chunk.cells true [.int .i64 xk, .int .i64 xf, .int .i64 xv, .int .i64 xs, .fam 32 1 fun i => .int .u8 (nat (xd i)), .osl xkb 0 0 1 xnb, .osl xkbs 0 0 1 xnbs, .osl xkp 0 0 73 xnp, .osl xkq 0 0 74 xnq, .int .i64 xkey, .fam 32 1 fun i => .int .u8 (nat (xof i))]]) h.length = Chunk.cells true [.int .i64 k, .int .i64 f, .int .i64 v, .int .i64 s, .fam 32 1 fun i => .int .u8 (nat (d i)), .osl kb 0 0 1 b.length, .osl kbs 0 0 1 bs.length, .osl kp 0 0 73 p.length, .osl kq 0 0 74 q.length, .int .i64 key, .fam 32 1 fun i => .int .u8 (nat (of i))] := by rw [lookH_at _ hxl]; exact hx
        refine IP _ (List.getElem_mem hi) _ _ (hM.ext hEm) (by rw [← hC]; omega) _ ?_
        rw [← hC]
        intro H1 m1 hE1 hm1 hrow1
        have hrowm1 := hE1.look hrowm (by simp) fun h => h
        have hx1 := hE1.look hxn (by simp) fun h => h
        rw [List.length_append] at hm1
        simp -implicitDefEqProofs (maxSteps := 1000000) (disch := omega) only [↓vcB,↓gd,↓opP,↓qv,↓ef,↓bslS,↓stS,↓mkS,↓rangeS,↓nextS,↓entryS,↓delS,↓mupS,↓appS,↓s2bS,↓resS,evB,Sx.look,slot,↓lkL,putS,putO,argsL,↓reduceIte,ofV,of1,lookH,putH,List.replicate,List.append,convS,fldA,nthT,idxA,idxS,fldS,oslN,bnd,slS,unS,valI,lenS,lookS,takeC,psB,asRow,csB,rdF,Ent.row,ldS,sz,szL,wrF,bldF,plT,bldS,srcS,nilS,nilEq,mapC,binH,binS2,structS,eqL,eqF,binS,arrS,isI,tupS,stor,storL,Value.oneCell',minS,maxS,capS,Nat.reduceAdd,Nat.reduceSub,Nat.reduceMul,Nat.reduceLT,Nat.reduceLeDiff,Nat.reduceEqDiff,Nat.reduceBEq,Int.reduceToNat,Int.reduceNeg,if_true,if_false,reduceIte,stays,inL,same1,qn,ldN,convN,lenN,cond_true,cond_false,implies_true,Int.reduceEq,Int.reduceNe,Int.reduceLE,Int.reduceLT,forall_eq_or_imp,forall_eq,ne_eq,reduceCtorEq,notInt,numB,tabB,Array.reduceGetElem?,upG,up,nth,lay,rcB,rnm,rnmL,wrB,pcB,res63,res52,pl63,pl52,Option.isNone,lhB,liB]
        repeat (refine ⟨by omega, ?_⟩)
        refine c114 D C m m1 true H1 hrowm1 hrow1 (by omega) (by omega) _ ?_
        rw [hC]
        intro H2 m2 hE2 hm2 hrow2
        obtain ⟨D9, hD9⟩ : ∃ D9, D9 = D ++ putB (enc p[i]) := ⟨_, rfl⟩
        rw [← hD9] at hrow2 hD ⊢
        have hE4 := ext_own (hEm.trans hE1) hm hE2
        have hx2 := hE2.look hx1 (by simp) hxm
        have hl9 := hE1.1
        rw [List.length_append] at hl9
        simp -implicitDefEqProofs (maxSteps := 1000000) (disch := omega) only [↓vcB,↓gd,↓opP,↓qv,↓ef,↓bslS,↓stS,↓mkS,↓rangeS,↓nextS,↓entryS,↓delS,↓mupS,↓appS,↓s2bS,↓resS,evB,Sx.look,slot,↓lkL,putS,putO,argsL,↓reduceIte,ofV,of1,lookH,putH,List.replicate,List.append,convS,fldA,nthT,idxA,idxS,fldS,oslN,bnd,slS,unS,valI,lenS,lookS,takeC,psB,asRow,csB,rdF,Ent.row,ldS,sz,szL,wrF,bldF,plT,bldS,srcS,nilS,nilEq,mapC,binH,binS2,structS,eqL,eqF,binS,arrS,isI,tupS,stor,storL,Value.oneCell',minS,maxS,capS,Nat.reduceAdd,Nat.reduceSub,Nat.reduceMul,Nat.reduceLT,Nat.reduceLeDiff,Nat.reduceEqDiff,Nat.reduceBEq,Int.reduceToNat,Int.reduceNeg,if_true,if_false,reduceIte,stays,inL,same1,qn,ldN,convN,lenN,cond_true,cond_false,implies_true,Int.reduceEq,Int.reduceNe,Int.reduceLE,Int.reduceLT,forall_eq_or_imp,forall_eq,ne_eq,reduceCtorEq,notInt,numB,tabB,Array.reduceGetElem?,upG,up,nth,lay,rcB,rnm,rnmL,wrB,pcB,res63,res52,pl63,pl52,Option.isNone,lhB,a1,liB]
        repeat (refine ⟨by omega, ?_⟩)
        exact into_keep [(1, .ptr h.length 0), (2, .v (.slice none 0 0)), (3, .osl m2 0 0 1 D9.length), (59, .osl kp 0 0 73 p.length), (60, .int .i64 (p.length : Nat)), (61, .int .i64 (i + 1 : Nat))] (by simp [sameT, slot, lkL]) fun j => ⟨z - 1, by omega, i + 1, D9, H2, m2, j, by omega, hD, (hHB _ _ _).2 ⟨hE4, hx2, by omega, hrow2⟩, rfl⟩
      · have g1 : decide ((i : Int) < (p.length : Nat)) = false := decide_eq_false (by omega)
        have hd : p.drop i = [] := List.drop_of_length_le (by omega)
        rw [hd, List.flatMap_nil, List.append_nil] at hD
        rw [hD] at hhb ⊢
        simp -implicitDefEqProofs (maxSteps := 1000000) (disch := omega) only [↓vcB,↓gd,↓opP,↓qv,↓ef,↓bslS,↓stS,↓mkS,↓rangeS,↓nextS,↓entryS,↓delS,↓mupS,↓appS,↓s2bS,↓resS,evB,Sx.look,slot,↓lkL,putS,putO,argsL,↓reduceIte,ofV,of1,lookH,putH,List.replicate,List.append,convS,fldA,nthT,idxA,idxS,fldS,oslN,bnd,slS,unS,valI,lenS,lookS,takeC,psB,asRow,csB,rdF,Ent.row,ldS,sz,szL,wrF,bldF,plT,bldS,srcS,nilS,nilEq,mapC,binH,binS2,structS,eqL,eqF,binS,arrS,isI,tupS,stor,storL,Value.oneCell',minS,maxS,capS,Nat.reduceAdd,Nat.reduceSub,Nat.reduceMul,Nat.reduceLT,Nat.reduceLeDiff,Nat.reduceEqDiff,Nat.reduceBEq,Int.reduceToNat,Int.reduceNeg,if_true,if_false,reduceIte,stays,inL,same1,qn,ldN,convN,lenN,cond_true,cond_false,implies_true,Int.reduceEq,Int.reduceNe,Int.reduceLE,Int.reduceLT,forall_eq_or_imp,forall_eq,ne_eq,reduceCtorEq,notInt,numB,tabB,Array.reduceGetElem?,upG,up,nth,lay,rcB,rnm,rnmL,wrB,pcB,res63,res52,pl63,pl52,Option.isNone,lhB,g1,liB]
        repeat (refine ⟨by omega, ?_⟩)
        exact into_keep [(1, .ptr h.length 0), (2, .v (.slice none 0 0)), (3, .osl m 0 0 1 D5.length)] (by simp [sameT, slot, lkL]) fun j => ⟨H, m, j, hhb, rfl⟩
  rintro _ ⟨H, m, j, hhb, rfl⟩
  obtain ⟨hE, hx, hm, hrow⟩ := (hHB _ _ _).1 hhb
  have hhl := hE.1
  have hxm : h.length ≠ m := fun e => by rw [← e, hx] at hrow; cases hrow
  refine codeP_seq (pl := pl63) tabOk follows_mixed (by kernel_rfl) (fun st => ∃ (H : List Chunk) (m : Nat) (j : Nat → Value), HB E5 H m ∧ st = ⟨⟨107, [(1, .ptr h.length 0), (2, .v (.slice none 0 0)), (3, .osl m 0 0 1 E5.length)], j⟩, H, []⟩) ?_ ?_
  · have hu := len_u64 (n := q.length) (by omega)
    have hu1 := hu.1
    simp -implicitDefEqProofs (maxSteps := 1000000) (disch := omega) only [↓vcB,↓gd,↓opP,↓qv,↓ef,↓bslS,↓stS,↓mkS,↓rangeS,↓nextS,↓entryS,↓delS,↓mupS,↓appS,↓s2bS,↓resS,evB,Sx.look,slot,↓lkL,putS,putO,argsL,↓reduceIte,ofV,of1,lookH,putH,List.replicate,List.append,convS,fldA,nthT,idxA,idxS,fldS,oslN,bnd,slS,unS,valI,lenS,lookS,takeC,psB,asRow,csB,rdF,Ent.row,ldS,sz,szL,wrF,bldF,plT,bldS,srcS,nilS,nilEq,mapC,binH,binS2,structS,eqL,eqF,binS,arrS,isI,tupS,stor,storL,Value.oneCell',minS,maxS,capS,Nat.reduceAdd,Nat.reduceSub,Nat.reduceMul,Nat.reduceLT,Nat.reduceLeDiff,Nat.reduceEqDiff,Nat.reduceBEq,Int.reduceToNat,Int.reduceNeg,if_true,if_false,reduceIte,stays,inL,same1,qn,ldN,convN,lenN,cond_true,cond_false,implies_true,Int.reduceEq,Int.reduceNe,Int.reduceLE,Int.reduceLT,forall_eq_or_imp,forall_eq,ne_eq,reduceCtorEq,notInt,numB,tabB,Array.reduceGetElem?,upG,up,nth,lay,rcB,rnm,rnmL,wrB,pcB,res63,res52,pl63,pl52,Option.isNone,lhB,hx,hrow,hu1,liB]
    repeat (refine ⟨by omega, ?_⟩)
    refine c113 D5 m _ H hrow (by omega) _ ?_
    rw [hu.2, ← hE5]
    intro H2 m2 hE2 hm2 hrow2
    have hE4 := ext_own hE hm hE2
    have hx2 := hE2.look hx (by simp) hxm
    have hm3 : h.length ≤ m2 := by omega
    simp -implicitDefEqProofs (maxSteps := 1000000) (disch := omega) only [↓vcB,↓gd,↓opP,↓qv,↓ef,↓bslS,↓stS,↓mkS,↓rangeS,↓nextS,↓entryS,↓delS,↓mupS,↓appS,↓s2bS,↓resS,evB,Sx.look,slot,↓lkL,putS,putO,argsL,↓reduceIte,ofV,of1,lookH,putH,List.replicate,List.append,convS,fldA,nthT,idxA,idxS,fldS,oslN,bnd,slS,unS,valI,lenS,lookS,takeC,psB,asRow,csB,rdF,Ent.row,ldS,sz,szL,wrF,bldF,plT,bldS,srcS,nilS,nilEq,mapC,binH,binS2,structS,eqL,eqF,binS,arrS,isI,tupS,stor,storL,Value.oneCell',minS,maxS,capS,Nat.reduceAdd,Nat.reduceSub,Nat.reduceMul,Nat.reduceLT,Nat.reduceLeDiff,Nat.reduceEqDiff,Nat.reduceBEq,Int.reduceToNat,Int.reduceNeg,if_true,if_false,reduceIte,stays,inL,same1,qn,ldN,convN,lenN,cond_true,cond_false,implies_true,Int.reduceEq,Int.reduceNe,Int.reduceLE,Int.reduceLT,forall_eq_or_imp,forall_eq,ne_eq,reduceCtorEq,notInt,numB,tabB,Array.reduceGetElem?,upG,up,nth,lay,rcB,rnm,rnmL,wrB,pcB,res63,res52,pl63,pl52,Option.isNone,lhB,liB]
    repeat (refine ⟨by omega, ?_⟩)
    exact into_keep [(1, .ptr h.length 0), (2, .v (.slice none 0 0)), (3, .osl m2 0 0 1 E5.length)] (by simp [sameT, slot, lkL]) fun j => ⟨H2, m2, j, (hHB _ _ _).2 ⟨hE4, hx2, hm3, hrow2⟩, rfl⟩
  rintro _ ⟨H, m, j, hhb, rfl⟩
  obtain ⟨hE, hx, hm, hrow⟩ := (hHB _ _ _).1 hhb
  have hhl := hE.1
  have hxm : h.length ≠ m := fun e => by rw [← e, hx] at hrow; cases hrow
  refine codeP_of_vc (pl := pl63) tabOk follows_mixed (by kernel_rfl) ?_
  simp -implicitDefEqProofs (maxSteps := 1000000) (disch := omega) only [↓vcB,↓gd,↓opP,↓qv,↓ef,↓bslS,↓stS,↓mkS,↓rangeS,↓nextS,↓entryS,↓delS,↓mupS,↓appS,↓s2bS,↓resS,evB,Sx.look,slot,↓lkL,putS,putO,argsL,↓reduceIte,ofV,of1,lookH,putH,List.replicate,List.append,convS,fldA,nthT,idxA,idxS,fldS,oslN,bnd,slS,unS,valI,lenS,lookS,takeC,psB,asRow,csB,rdF,Ent.row,ldS,sz,szL,wrF,bldF,plT,bldS,srcS,nilS,nilEq,mapC,binH,binS2,structS,eqL,eqF,binS,arrS,isI,tupS,stor,storL,Value.oneCell',minS,maxS,capS,Nat.reduceAdd,Nat.reduceSub,Nat.reduceMul,Nat.reduceLT,Nat.reduceLeDiff,Nat.reduceEqDiff,Nat.reduceBEq,Int.reduceToNat,Int.reduceNeg,if_true,if_false,reduceIte,stays,inL,same1,qn,ldN,convN,lenN,cond_true,cond_false,implies_true,Int.reduceEq,Int.reduceNe,Int.reduceLE,Int.reduceLT,forall_eq_or_imp,forall_eq,ne_eq,reduceCtorEq,notInt,numB,tabB,Array.reduceGetElem?,upG,up,nth,lay,rcB,rnm,rnmL,wrB,pcB,res63,res52,pl63,pl52,Option.isNone,lhB,hx,hrow,liB]
  repeat (refine ⟨by omega, ?_⟩)
  refine codeP_loop (pl := pl63) tabOk follows_mixed (by kernel_rfl) (fun z st => ∃ (i : Nat) (D : List By) (H : List Chunk) (m : Nat) (j : Nat → Value), i + z = q.length ∧ D ++ (q.drop i).flatMap encP = D6 ∧ HB D H m ∧ st = ⟨⟨107, [(1, .ptr h.length 0), (2, .v (.slice none 0 0)), (3, .osl m 0 0 1 D.length), (77, .osl kq 0 0 74 q.length), (78, .int .i64 (q.length : Nat)), (79, .int .i64 (i : Nat))], j⟩, H, []⟩) ?_ ?_
  · exact into_keep [(1, .ptr h.length 0), (2, .v (.slice none 0 0)), (3, .osl m 0 0 1 E5.length), (77, .osl kq 0 0 74 q.length), (78, .int .i64 (q.length : Nat)), (79, .int .i64 (0 : Nat))] (by simp [sameT, slot, lkL]) fun j => ⟨q.length, 0, E5, H, m, j, by omega, by rw [hD6]; rfl, hhb, rfl⟩
  · clear hxm hhl hrow hm hx hE hhb
    rintro z st ⟨i, D, H, m, j, hiz, hD, hhb, rfl⟩
    obtain ⟨hE, hx, hm, hrow⟩ := (hHB _ _ _).1 hhb
    have hhl := hE.1
    have hxm : h.length ≠ m := fun e => by rw [← e, hx] at hrow; cases hrow
    by_cases hi : i < q.length
    · have g1 : decide ((i : Int) < (q.length : Nat)) = true := decide_eq_true (by omega)
      have a1 : IntKind.i64.wrap ((i : Int) + 1) = ((i + 1 : Nat) : Int) := by rw [wrap64 (by omega) (by omega)]; omega
      have hr1 := hE.look h5 (by simp) fun h => h
      rw [List.drop_eq_getElem_cons hi, List.flatMap_cons] at hD
      have hIH := IQ q[i] (List.getElem_mem hi)
      obtain ⟨lm, xkl, wl, fl, hfi, hM, hrl, hls⟩ := h6.get hi
      obtain ⟨xk, xf, xv, xs, xd, xkb, xnb, xkbs, xnbs, xkp, xnp, xkq, xnq, xkey, xof, hlm⟩ := hM.open
      rw [hlm] at hM hfi
      simp only [List.cons_append, List.nil_append] at hfi
      obtain ⟨Q, hQ⟩ : ∃ Q, Q = (q.drop (i + 1)).flatMap encP := ⟨_, rfl⟩
      rw [← hQ] at hD
      obtain ⟨l, hl⟩ : ∃ l, l = q[i].2 := ⟨_, rfl⟩
      obtain ⟨C, hC⟩ : ∃ C, C = enc q[i].1 := ⟨_, rfl⟩
      unfold encP at hD
      rw [← hl, ← hC] at hD
      rw [← hl] at hfi hrl hls hIH
      obtain ⟨xnl, hxnl⟩ : ∃ x, x = l.length := ⟨_, rfl⟩
      rw [← hxnl] at hfi hrl hD
      obtain ⟨G1, hG1⟩ : ∃ G, G = D ++ putB C := ⟨_, rfl⟩
      obtain ⟨G2, hG2⟩ : ∃ G, G = G1 ++ leb xnl := ⟨_, rfl⟩
      obtain ⟨G3, hG3⟩ : ∃ G, G = G2 ++ l.flatMap fun m => putB (enc m) := ⟨_, rfl⟩
      have hD' : G3 ++ Q = D6 := by rw [← hD, hG3, hG2, hG1]; simp only [List.append_assoc]
      have g9 := congrArg List.length hD'
      have g8 := congrArg List.length hG3
      have g7 := congrArg List.length hG2
      have g6 := congrArg List.length hG1
      rw [List.length_append] at g9 g8 g7 g6
      have b4 := len_flat (fun m => putB (enc m)) (fun x => putB_pos _) l
      have hcl : C.length ≤ (putB C).length := by unfold putB; rw [List.length_append]; omega
      have hu := len_u64 (n := xnl) (by omega)
      have hu1 := hu.1
      simp -implicitDefEqProofs (maxSteps := 1000000) (disch := omega) only [↓vcB,↓gd,↓opP,↓qv,↓ef,↓bslS,↓stS,↓mkS,↓rangeS,↓nextS,↓entryS,↓delS,↓mupS,↓appS,↓s2bS,↓resS,evB,Sx.look,slot,↓lkL,putS,putO,argsL,↓reduceIte,ofV,of1,lookH,putH,List.replicate,List.append,convS,fldA,nthT,idxA,idxS,fldS,oslN,bnd,slS,unS,valI,lenS,lookS,takeC,psB,asRow,csB,rdF,Ent.row,ldS,sz,szL,wrF,bldF,plT,bldS,srcS,nilS,nilEq,mapC,binH,binS2,structS,eqL,eqF,binS,arrS,isI,tupS,stor,storL,Value.oneCell',minS,maxS,capS,Nat.reduceAdd,Nat.reduceSub,Nat.reduceMul,Nat.reduceLT,Nat.reduceLeDiff,Nat.reduceEqDiff,Nat.reduceBEq,Int.reduceToNat,Int.reduceNeg,if_true,if_false,reduceIte,stays,inL,same1,qn,ldN,convN,lenN,cond_true,cond_false,implies_true,Int.reduceEq,Int.reduceNe,Int.reduceLE,Int.reduceLT,forall_eq_or_imp,forall_eq,ne_eq,reduceCtorEq,notInt,numB,tabB,Array.reduceGetElem?,upG,up,nth,lay,rcB,rnm,rnmL,wrB,pcB,res63,res52,pl63,pl52,Option.isNone,lhB,g1,hr1,hfi,hu1,liB]
      repeat (refine ⟨by omega, ?_⟩)
      have hEm : Ext (fun _ => False) h (H ++ [Chunk.cells true [.int .i64 xk, .int .i64 xf, .int .i64 xv, .int .i64 xs, .fam 32 1 fun i => .int .u8 (nat (xd i)), .osl xkb 0 0 1 xnb, .osl xkbs 0 0 1 xnbs, .osl xkp 0 0 73 xnp, .osl xkq 0 0 74 xnq, .int .i64 xkey, .fam 32 1 fun i => .int .u8 (nat (xof i)), .osl xkl 0 0 73 xnl]]) := hE.app _
      have hlm := lookH_lt hrow (by simp)
      have hxl := lookH_lt hx (by simp)
      have hrowm : lookH (H ++ [Chunk.cells true [.int .i64 xk, .int .i64 xf, .int .i64 xv, .int .i64 xs, .fam 32 1 fun i => .int .u8 (nat (xd i)), .osl xkb 0 0 1 xnb, .osl xkbs 0 0 1 xnbs, .osl xkp 0 0 73 xnp, .osl xkq 0 0 74 xnq, .int .i64 xkey, .fam 32 1 fun i => .int .u8 (nat (xof i)), .osl xkl 0 0 73 xnl]]) m = .row true D.length 1 (fun i => .int .u8 (nat (D.getD i 0))) := by rw [lookH_at _ hlm]; exact hrow
      have hxn : lookH (H ++ [Chunk.cells true [.int .i64 xk, .int .i64 xf, .int .i64 xv, .int .i64 xs, .fam 32 1 fun i => .int .u8 (nat (xd i)), .osl xkb 0 0 1 xnb, .osl xkbs 0 0 1 xnbs, .osl xkp 0 0 73 xnp, .osl xkq 0 0 74 xnq, .int .i64 xkey, .fam 32 1 fun i => .int .u8 (nat (xof i)), .osl xkl 0 0 73 xnl]]) h.length = Chunk.cells true [.int .i64 k, .int .i64 f, .int .i64 v, .int .i64 s, .fam 32 1 fun i => .int .u8 (nat (d i)), .osl kb 0 0 1 b.length, .osl kbs 0 0 1 bs.length, .osl kp 0 0 73 p.length, .osl kq 0 0 74 q.length, .int .i64 key, .fam 32 1 fun i => .int .u8 (nat (of i))] := by rw [lookH_at _ hxl]; exact hx
      have hpn : lookH (H ++ [Chunk.cells true [.int .i64 xk, .int .i64 xf, .int .i64 xv, .int .i64 xs, .fam 32 1 fun i => .int .u8 (nat (xd i)), .osl xkb 0 0 1 xnb, .osl xkbs 0 0 1 xnbs, .osl xkp 0 0 73 xnp, .osl xkq 0 0 74 xnq, .int .i64 xkey, .fam 32 1 fun i => .int .u8 (nat (xof i)), .osl xkl 0 0 73 xnl]]) H.length = Chunk.cells true [.int .i64 xk, .int .i64 xf, .int .i64 xv, .int .i64 xs, .fam 32 1 fun i => .int .u8 (nat (xd i)), .osl xkb 0 0 1 xnb, .osl xkbs 0 0 1 xnbs, .osl xkp 0 0 73 xnp, .osl xkq 0 0 74 xnq, .int .i64 xkey, .fam 32 1 fun i => .int .u8 (nat (xof i)), .osl xkl 0 0 73 xnl] := lookH_end _ _
      refine hIH.1 _ _ (hM.ext hEm) (by rw [← hC]; omega) _ ?_
      rw [← hC]
      intro H1 m1 hE1 hm1 hrow1
      have hrowm1 := hE1.look hrowm (by simp) fun h => h
      have hx1 := hE1.look hxn (by simp) fun h => h
      have hp1 := hE1.look hpn (by simp) fun h => h
      have hl1 := hE1.1
      rw [List.length_append, List.length_singleton] at hm1 hl1
      refine ⟨hp1, ?_⟩
      simp -implicitDefEqProofs (maxSteps := 1000000) (disch := omega) only [↓vcB,↓gd,↓opP,↓qv,↓ef,↓bslS,↓stS,↓mkS,↓rangeS,↓nextS,↓entryS,↓delS,↓mupS,↓appS,↓s2bS,↓resS,evB,Sx.look,slot,↓lkL,putS,putO,argsL,↓reduceIte,ofV,of1,lookH,putH,List.replicate,List.append,convS,fldA,nthT,idxA,idxS,fldS,oslN,bnd,slS,unS,valI,lenS,lookS,takeC,psB,asRow,csB,rdF,Ent.row,ldS,sz,szL,wrF,bldF,plT,bldS,srcS,nilS,nilEq,mapC,binH,binS2,structS,eqL,eqF,binS,arrS,isI,tupS,stor,storL,Value.oneCell',minS,maxS,capS,Nat.reduceAdd,Nat.reduceSub,Nat.reduceMul,Nat.reduceLT,Nat.reduceLeDiff,Nat.reduceEqDiff,Nat.reduceBEq,Int.reduceToNat,Int.reduceNeg,if_true,if_false,reduceIte,stays,inL,same1,qn,ldN,convN,lenN,cond_true,cond_false,implies_true,Int.reduceEq,Int.reduceNe,Int.reduceLE,Int.reduceLT,forall_eq_or_imp,forall_eq,ne_eq,reduceCtorEq,notInt,numB,tabB,Array.reduceGetElem?,upG,up,nth,lay,rcB,rnm,rnmL,wrB,pcB,res63,res52,pl63,pl52,Option.isNone,lhB,liB]
      repeat (refine ⟨by omega, ?_⟩)
      refine c114 D C m m1 true H1 hrowm1 hrow1 (by omega) (by omega) _ ?_
      rw [← hG1]
      intro H2 m2 hE2 hm2 hrow2
      have hx2 := hE2.look hx1 (by simp) hxm
      have hp2 := hE2.look hp1 (by simp) fun e => by omega
      have hl2 := hE2.1
      simp -implicitDefEqProofs (maxSteps := 1000000) (disch := omega) only [↓vcB,↓gd,↓opP,↓qv,↓ef,↓bslS,↓stS,↓mkS,↓rangeS,↓nextS,↓entryS,↓delS,↓mupS,↓appS,↓s2bS,↓resS,evB,Sx.look,slot,↓lkL,putS,putO,argsL,↓reduceIte,ofV,of1,lookH,putH,List.replicate,List.append,convS,fldA,nthT,idxA,idxS,fldS,oslN,bnd,slS,unS,valI,lenS,lookS,takeC,psB,asRow,csB,rdF,Ent.row,ldS,sz,szL,wrF,bldF,plT,bldS,srcS,nilS,nilEq,mapC,binH,binS2,structS,eqL,eqF,binS,arrS,isI,tupS,stor,storL,Value.oneCell',minS,maxS,capS,Nat.reduceAdd,Nat.reduceSub,Nat.reduceMul,Nat.reduceLT,Nat.reduceLeDiff,Nat.reduceEqDiff,Nat.reduceBEq,Int.reduceToNat,Int.reduceNeg,if_true,if_false,reduceIte,stays,inL,same1,qn,ldN,convN,lenN,cond_true,cond_false,implies_true,Int.reduceEq,Int.reduceNe,Int.reduceLE,Int.reduceLT,forall_eq_or_imp,forall_eq,ne_eq,reduceCtorEq,notInt,numB,tabB,Array.reduceGetElem?,upG,up,nth,lay,rcB,rnm,rnmL,wrB,pcB,res63,res52,pl63,pl52,Option.isNone,lhB,liB]
      repeat (refine ⟨by omega, ?_⟩)
      refine ⟨hE2.2 _ (lookH_lt hp1 (by simp)) (fun e => by omega), ?_⟩
      refine c113 G1 m2 _ H2 hrow2 (by omega) _ ?_
      rw [hu.2, ← hG2]
      intro H3 m3 hE3 hm3 hrow3
      have hx3 := hE3.look hx2 (by simp) fun e => by omega
      have hp3 := hE3.look hp2 (by simp) fun e => by omega
      have hl3 := hE3.1
      refine ⟨hE3.2 _ (lookH_lt hp2 (by simp)) (fun e => by omega), ?_⟩
      have hEa : Ext (fun _ => False) h H3 := ext_own (ext_own (hEm.trans hE1) hm hE2) (by omega) hE3
      have hhb3 : HB G2 H3 m3 := (hHB _ _ _).2 ⟨hEa, hx3, by omega, hrow3⟩
      simp -implicitDefEqProofs (maxSteps := 1000000) (disch := omega) only [↓vcB,↓gd,↓opP,↓qv,↓ef,↓bslS,↓stS,↓mkS,↓rangeS,↓nextS,↓entryS,↓delS,↓mupS,↓appS,↓s2bS,↓resS,evB,Sx.look,slot,↓lkL,putS,putO,argsL,↓reduceIte,ofV,of1,lookH,putH,List.replicate,List.append,convS,fldA,nthT,idxA,idxS,fldS,oslN,bnd,slS,unS,valI,lenS,lookS,takeC,psB,asRow,csB,rdF,Ent.row,ldS,sz,szL,wrF,bldF,plT,bldS,srcS,nilS,nilEq,mapC,binH,binS2,structS,eqL,eqF,binS,arrS,isI,tupS,stor,storL,Value.oneCell',minS,maxS,capS,Nat.reduceAdd,Nat.reduceSub,Nat.reduceMul,Nat.reduceLT,Nat.reduceLeDiff,Nat.reduceEqDiff,Nat.reduceBEq,Int.reduceToNat,Int.reduceNeg,if_true,if_false,reduceIte,stays,inL,same1,qn,ldN,convN,lenN,cond_true,cond_false,implies_true,Int.reduceEq,Int.reduceNe,Int.reduceLE,Int.reduceLT,forall_eq_or_imp,forall_eq,ne_eq,reduceCtorEq,notInt,numB,tabB,Array.reduceGetElem?,upG,up,nth,lay,rcB,rnm,rnmL,wrB,pcB,res63,res52,pl63,pl52,Option.isNone,lhB,hp3,liB]
      repeat (refine ⟨by omega, ?_⟩)
      clear hhb hrow hm hx hE hhl hxm hr1 hEm hlm hxl hrowm hxn hpn hE1 hm1 hrow1 hrowm1 hx1 hp1 hl1 hE2 hm2 hrow2 hx2 hp2 hl2 hE3 hm3 hrow3 hx3 hl3 hEa
      refine codeP_loop (pl := pl63) tabOk follows_mixed (by kernel_rfl) (fun y st => ∃ (u : Nat) (D : List By) (H : List Chunk) (m : Nat) (j : Nat → Value), u + y = xnl ∧ D ++ ((l.drop u).flatMap fun m => putB (enc m)) = G3 ∧ HB D H m ∧ st = ⟨⟨107, [(1, .ptr h.length 0), (2, .v (.slice none 0 0)), (3, .osl m 0 0 1 D.length), (77, .osl kq 0 0 74 q.length), (78, .int .i64 (q.length : Nat)), (79, .int .i64 (i : Nat)), (94, .osl xkl 0 0 73 xnl), (95, .int .i64 (xnl : Nat)), (96, .int .i64 (u : Nat))], j⟩, H, []⟩) ?_ ?_
      · exact into_keep [(1, .ptr h.length 0), (2, .v (.slice none 0 0)), (3, .osl m3 0 0 1 G2.length), (77, .osl kq 0 0 74 q.length), (78, .int .i64 (q.length : Nat)), (79, .int .i64 (i : Nat)), (94, .osl xkl 0 0 73 xnl), (95, .int .i64 (xnl : Nat)), (96, .int .i64 (0 : Nat))] (by simp [sameT, slot, lkL]) fun j => ⟨xnl, 0, G2, H3, m3, j, by omega, by rw [hG3]; rfl, hhb3, rfl⟩
      · rintro y st ⟨u, D, H, m, j, huy, hDu, hhb, rfl⟩
        obtain ⟨hE, hx, hm, hrow⟩ := (hHB _ _ _).1 hhb
        have hhl := hE.1
        have hxm : h.length ≠ m := fun e => by rw [← e, hx] at hrow; cases hrow
        by_cases hu : u < l.length
        · have g2 : decide ((u : Int) < (xnl : Nat)) = true := decide_eq_true (by omega)
          have a2 : IntKind.i64.wrap ((u : Int) + 1) = ((u + 1 : Nat) : Int) := by rw [wrap64 (by omega) (by omega)]; omega
          have hr1 := hE.look hrl (by simp) fun h => h
          rw [List.drop_eq_getElem_cons hu, List.flatMap_cons, ← List.append_assoc] at hDu
          have hl2 := congrArg List.length hDu
          rw [List.length_append] at hl2
          have hM := hls.get hu
          obtain ⟨yk, yf, yv, ys, yd, ykb, ynb, ykbs, ynbs, ykp, ynp, ykq, ynq, ykey, yof, hfu⟩ := hM.open
          rw [hfu] at hM
          simp -implicitDefEqProofs (maxSteps := 1000000) (disch := omega) only [↓vcB,↓gd,↓opP,↓qv,↓ef,↓bslS,↓stS,↓mkS,↓rangeS,↓nextS,↓entryS,↓delS,↓mupS,↓appS,↓s2bS,↓resS,evB,Sx.look,slot,↓lkL,putS,putO,argsL,↓reduceIte,ofV,of1,lookH,putH,List.replicate,List.append,convS,fldA,nthT,idxA,idxS,fldS,oslN,bnd,slS,unS,valI,lenS,lookS,takeC,psB,asRow,csB,rdF,Ent.row,ldS,sz,szL,wrF,bldF,plT,bldS,srcS,nilS,nilEq,mapC,binH,binS2,structS,eqL,eqF,binS,arrS,isI,tupS,stor,storL,Value.oneCell',minS,maxS,capS,Nat.reduceAdd,Nat.reduceSub,Nat.reduceMul,Nat.reduceLT,Nat.reduceLeDiff,Nat.reduceEqDiff,Nat.reduceBEq,Int.reduceToNat,Int.reduceNeg,if_true,if_false,reduceIte,stays,inL,same1,qn,ldN,convN,lenN,cond_true,cond_false,implies_true,Int.reduceEq,Int.reduceNe,Int.reduceLE,Int.reduceLT,forall_eq_or_imp,forall_eq,ne_eq,reduceCtorEq,notInt,numB,tabB,Array.reduceGetElem?,upG,up,nth,lay,rcB,rnm,rnmL,wrB,pcB,res63,res52,pl63,pl52,Option.isNone,lhB,g2,hr1,hfu,liB]
          repeat (refine ⟨by omega, ?_⟩)
          obtain ⟨C, hC⟩ : ∃ C, C = enc l[u] := ⟨_, rfl⟩
          have hp : (D ++ putB C).length ≤ 17592186044416 := by rw [hC]; omega
          unfold putB at hp
          simp only [List.length_append] at hp
          have hEm : Ext (fun _ => False) h (H ++ [Chunk.cells true [.int .i64 yk, .int .i64 yf, .int .i64 yv, .int .i64 ys, .fam 32 1 fun i => .int .u8 (nat (yd i)), .osl ykb 0 0 1 ynb, .osl ykbs 0 0 1 ynbs, .osl ykp 0 0 73 ynp, .osl ykq 0 0 74 ynq, .int .i64 ykey, .fam 32 1 fun i => .int .u8 (nat (yof i))]]) := hE.app _
          have hlm := lookH_lt hrow (by simp)
          have hxl := lookH_lt hx (by simp)
          have hrowm : lookH (H ++ [Chunk.cells true [.int .i64 yk, .int .i64 yf, .int .i64 yv, .int .i64 ys, .fam 32 1 fun i => .int .u8 (nat (yd i)), .osl ykb 0 0 1 ynb, .osl ykbs 0 0 1 ynbs, .osl ykp 0 0 73 ynp, .osl ykq 0 0 74 ynq, .int .i64 ykey, .fam 32 1 fun i => .int .u8 (nat (yof i))]]) m = .row true D.length 1 (fun i => .int .u8 (nat (D.getD i 0))) := by rw [lookH_at _ hlm]; exact hrow
          have hxn : lookH (H ++ [Chunk.cells true [.int .i64 yk, .int .i64 yf, .int .i64 yv, .int .i64 ys, .fam 32 1 fun i => .int .u8 (nat (yd i)), .osl ykb 0 0 1 ynb, .osl ykbs 0 0 1 ynbs, .osl ykp 0 0 73 ynp, .osl ykq 0 0 74 ynq, .int .i64 ykey, .fam 32 1 fun i => .int .u8 (nat (yof i))]]) h.length = Chunk.cells true [.int .i64 k, .int .i64 f, .int .i64 v, .int .i64 s, .fam 32 1 fun i => .int .u8 (nat (d i)), .osl kb 0 0 1 b.length, .osl kbs 0 0 1 bs.length, .osl kp 0 0 73 p.length, .osl kq 0 0 74 q.length, .int .i64 key, .fam 32 1 fun i => .int .u8 (nat (of i))] := by rw [lookH_at _ hxl]; exact hx
          refine hIH.2 _ (List.getElem_mem hu) _ _ (hM.ext hEm) (by rw [← hC]; omega) _ ?_
          rw [← hC]
          intro H1 m1 hE1 hm1 hrow1
          have hrowm1 := hE1.look hrowm (by simp) fun h => h
          have hx1 := hE1.look hxn (by simp) fun h => h
          rw [List.length_append] at hm1
          simp -implicitDefEqProofs (maxSteps := 1000000) (disch := omega) only [↓vcB,↓gd,↓opP,↓qv,↓ef,↓bslS,↓stS,↓mkS,↓rangeS,↓nextS,↓entryS,↓delS,↓mupS,↓appS,↓s2bS,↓resS,evB,Sx.look,slot,↓lkL,putS,putO,argsL,↓reduceIte,ofV,of1,lookH,putH,List.replicate,List.append,convS,fldA,nthT,idxA,idxS,fldS,oslN,bnd,slS,unS,valI,lenS,lookS,takeC,psB,asRow,csB,rdF,Ent.row,ldS,sz,szL,wrF,bldF,plT,bldS,srcS,nilS,nilEq,mapC,binH,binS2,structS,eqL,eqF,binS,arrS,isI,tupS,stor,storL,Value.oneCell',minS,maxS,capS,Nat.reduceAdd,Nat.reduceSub,Nat.reduceMul,Nat.reduceLT,Nat.reduceLeDiff,Nat.reduceEqDiff,Nat.reduceBEq,Int.reduceToNat,Int.reduceNeg,if_true,if_false,reduceIte,stays,inL,same1,qn,ldN,convN,lenN,cond_true,cond_false,implies_true,Int.reduceEq,Int.reduceNe,Int.reduceLE,Int.reduceLT,forall_eq_or_imp,forall_eq,ne_eq,reduceCtorEq,notInt,numB,tabB,Array.reduceGetElem?,upG,up,nth,lay,rcB,rnm,rnmL,wrB,pcB,res63,res52,pl63,pl52,Option.isNone,lhB,liB]
          repeat (refine ⟨by omega, ?_⟩)
          refine c114 D C m m1 true H1 hrowm1 hrow1 (by omega) (by omega) _ ?_
          rw [hC]
          intro H2 m2 hE2 hm2 hrow2
          obtain ⟨D9, hD9⟩ : ∃ D9, D9 = D ++ putB (enc l[u]) := ⟨_, rfl⟩
          rw [← hD9] at hrow2 hDu ⊢
          have hE4 := ext_own (hEm.trans hE1) hm hE2
          have hx2 := hE2.look hx1 (by simp) hxm
          have hl9 := hE1.1
          rw [List.length_append] at hl9
          simp -implicitDefEqProofs (maxSteps := 1000000) (disch := omega) only [↓vcB,↓gd,↓opP,↓qv,↓ef,↓bslS,↓stS,↓mkS,↓rangeS,↓nextS,↓entryS,↓delS,↓mupS,↓appS,↓s2bS,↓resS,evB,Sx.look,slot,↓lkL,putS,putO,argsL,↓reduceIte,ofV,of1,lookH,putH,List.replicate,List.append,convS,fldA,nthT,idxA,idxS,fldS,oslN,bnd,slS,unS,valI,lenS,lookS,takeC,psB,asRow,csB,rdF,Ent.row,ldS,sz,szL,wrF,bldF,plT,bldS,srcS,nilS,nilEq,mapC,binH,binS2,structS,eqL,eqF,binS,arrS,isI,tupS,stor,storL,Value.oneCell',minS,maxS,capS,Nat.reduceAdd,Nat.reduceSub,Nat.reduceMul,Nat.reduceLT,Nat.reduceLeDiff,Nat.reduceEqDiff,Nat.reduceBEq,Int.reduceToNat,Int.reduceNeg,if_true,if_false,reduceIte,stays,inL,same1,qn,ldN,convN,lenN,cond_true,cond_false,implies_true,Int.reduceEq,Int.reduceNe,Int.reduceLE,Int.reduceLT,forall_eq_or_imp,forall_eq,ne_eq,reduceCtorEq,notInt,numB,tabB,Array.reduceGetElem?,upG,up,nth,lay,rcB,rnm,rnmL,wrB,pcB,res63,res52,pl63,pl52,Option.isNone,lhB,a2,liB]
          repeat (refine ⟨by omega, ?_⟩)
          exact into_keep [(1, .ptr h.length 0), (2, .v (.slice none 0 0)), (3, .osl m2 0 0 1 D9.length), (77, .osl kq 0 0 74 q.length), (78, .int .i64 (q.length : Nat)), (79, .int .i64 (i : Nat)), (94, .osl xkl 0 0 73 xnl), (95, .int .i64 (xnl : Nat)), (96, .int .i64 (u + 1 : Nat))] (by simp [sameT, slot, lkL]) fun j => ⟨y - 1, by omega, u + 1, D9, H2, m2, j, by omega, hDu, (hHB _ _ _).2 ⟨hE4, hx2, by omega, hrow2⟩, rfl⟩
        · have g2 : decide ((u : Int) < (xnl : Nat)) = false := decide_eq_false (by omega)
          have hd : l.drop u = [] := List.drop_of_length_le (by omega)
          rw [hd, List.flatMap_nil, List.append_nil] at hDu
          rw [hDu] at hhb ⊢
          rw [hQ] at hD'
          simp -implicitDefEqProofs (maxSteps := 1000000) (disch := omega) only [↓vcB,↓gd,↓opP,↓qv,↓ef,↓bslS,↓stS,↓mkS,↓rangeS,↓nextS,↓entryS,↓delS,↓mupS,↓appS,↓s2bS,↓resS,evB,Sx.look,slot,↓lkL,putS,putO,argsL,↓reduceIte,ofV,of1,lookH,putH,List.replicate,List.append,convS,fldA,nthT,idxA,idxS,fldS,oslN,bnd,slS,unS,valI,lenS,lookS,takeC,psB,asRow,csB,rdF,Ent.row,ldS,sz,szL,wrF,bldF,plT,bldS,srcS,nilS,nilEq,mapC,binH,binS2,structS,eqL,eqF,binS,arrS,isI,tupS,stor,storL,Value.oneCell',minS,maxS,capS,Nat.reduceAdd,Nat.reduceSub,Nat.reduceMul,Nat.reduceLT,Nat.reduceLeDiff,Nat.reduceEqDiff,Nat.reduceBEq,Int.reduceToNat,Int.reduceNeg,if_true,if_false,reduceIte,stays,inL,same1,qn,ldN,convN,lenN,cond_true,cond_false,implies_true,Int.reduceEq,Int.reduceNe,Int.reduceLE,Int.reduceLT,forall_eq_or_imp,forall_eq,ne_eq,reduceCtorEq,notInt,numB,tabB,Array.reduceGetElem?,upG,up,nth,lay,rcB,rnm,rnmL,wrB,pcB,res63,res52,pl63,pl52,Option.isNone,lhB,g2,a1,liB]
          repeat (refine ⟨by omega, ?_⟩)
          exact into_keep [(1, .ptr h.length 0), (2, .v (.slice none 0 0)), (3, .osl m 0 0 1 G3.length), (77, .osl kq 0 0 74 q.length), (78, .int .i64 (q.length : Nat)), (79, .int .i64 (i + 1 : Nat))] (by simp [sameT, slot, lkL]) fun j => ⟨z - 1, by omega, i + 1, G3, H, m, j, by omega, hD', hhb, rfl⟩
    · have g1 : decide ((i : Int) < (q.length : Nat)) = false := decide_eq_false (by omega)
      have hd : q.drop i = [] := List.drop_of_length_le (by omega)
      rw [hd, List.flatMap_nil, List.append_nil] at hD
      rw [hD] at hrow ⊢
      simp -implicitDefEqProofs (maxSteps := 1000000) (disch := omega) only [↓vcB,↓gd,↓opP,↓qv,↓ef,↓bslS,↓stS,↓mkS,↓rangeS,↓nextS,↓entryS,↓delS,↓mupS,↓appS,↓s2bS,↓resS,evB,Sx.look,slot,↓lkL,putS,putO,argsL,↓reduceIte,ofV,of1,lookH,putH,List.replicate,List.append,convS,fldA,nthT,idxA,idxS,fldS,oslN,bnd,slS,unS,valI,lenS,lookS,takeC,psB,asRow,csB,rdF,Ent.row,ldS,sz,szL,wrF,bldF,plT,bldS,srcS,nilS,nilEq,mapC,binH,binS2,structS,eqL,eqF,binS,arrS,isI,tupS,stor,storL,Value.oneCell',minS,maxS,capS,Nat.reduceAdd,Nat.reduceSub,Nat.reduceMul,Nat.reduceLT,Nat.reduceLeDiff,Nat.reduceEqDiff,Nat.reduceBEq,Int.reduceToNat,Int.reduceNeg,if_true,if_false,reduceIte,stays,inL,same1,qn,ldN,convN,lenN,cond_true,cond_false,implies_true,Int.reduceEq,Int.reduceNe,Int.reduceLE,Int.reduceLT,forall_eq_or_imp,forall_eq,ne_eq,reduceCtorEq,notInt,numB,tabB,Array.reduceGetElem?,upG,up,nth,lay,rcB,rnm,rnmL,wrB,pcB,res63,res52,pl63,pl52,Option.isNone,lhB,g1,liB]
      repeat (refine ⟨by omega, ?_⟩)
      exact intoR_refl hhl (hK _ _ hE hm hrow)
set_option maxHeartbeats 4000000 in
theorem c52S (m : Msg) (hB : BodyAt 63 m) (hkey : rng m.key) : EncAt 52 m := by
  intro l h hm hlen K hK
  have hm0 := hm
  obtain ⟨k, f, v, s, d, b, bs, p, q, key, of⟩ := m
  obtain ⟨C, hC⟩ : ∃ C, C = body (.mk k f v s d b bs p q key of) := ⟨_, rfl⟩
  have hEC : enc (.mk k f v s d b bs p q key of) = C ++ leb (zig key) ++ d32 of := by unfold enc; rw [← hC]; rfl
  rw [hEC] at hlen hK
  rw [List.length_append, List.length_append, d32_len] at hlen
  rw [MsgH] at hm
  obtain ⟨sb, sbs, kp, wp, fp, kq, wq, fq, hl, h1, h2, h3, h4, h5, h6⟩ := hm
  obtain ⟨kb, wb, rfl, hkb⟩ := h1
  obtain ⟨kbs, wbs, fb, rfl, hkbs, hfb⟩ := h2
  unfold dig32 at hl
  subst hl
  replace hkey : rng key := hkey
  refine callP_of_code tabOk Try.func52 (by kernel_rfl) rfl (Nat.le_of_ble_eq_true rfl) (codeP_of_vc (pl := pl52) tabOk follows_mixed (by kernel_rfl) ?_)
  rw [Try.ntmps52]
  simp -implicitDefEqProofs (maxSteps := 1000000) (disch := omega) only [↓vcB,↓gd,↓opP,↓qv,↓ef,↓bslS,↓stS,↓mkS,↓rangeS,↓nextS,↓entryS,↓delS,↓mupS,↓appS,↓s2bS,↓resS,evB,Sx.look,slot,↓lkL,putS,putO,argsL,↓reduceIte,ofV,of1,lookH,putH,List.replicate,List.append,convS,fldA,nthT,idxA,idxS,fldS,oslN,bnd,slS,unS,valI,lenS,lookS,takeC,psB,asRow,csB,rdF,Ent.row,ldS,sz,szL,wrF,bldF,plT,bldS,srcS,nilS,nilEq,mapC,binH,binS2,structS,eqL,eqF,binS,arrS,isI,tupS,stor,storL,Value.oneCell',minS,maxS,capS,Nat.reduceAdd,Nat.reduceSub,Nat.reduceMul,Nat.reduceLT,Nat.reduceLeDiff,Nat.reduceEqDiff,Nat.reduceBEq,Int.reduceToNat,Int.reduceNeg,if_true,if_false,reduceIte,stays,inL,same1,qn,ldN,convN,lenN,cond_true,cond_false,implies_true,Int.reduceEq,Int.reduceNe,Int.reduceLE,Int.reduceLT,forall_eq_or_imp,forall_eq,ne_eq,reduceCtorEq,notInt,numB,tabB,Array.reduceGetElem?,upG,up,nth,lay,rcB,rnm,rnmL,wrB,pcB,res63,res52,pl63,pl52,Option.isNone,lhB,liB]
  repeat (refine ⟨by omega, ?_⟩)
  have hE0 : Ext (fun _ => False) h (h ++ [Chunk.cells true [.int .i64 k, .int .i64 f, .int .i64 v, .int .i64 s, .fam 32 1 fun i => .int .u8 (nat (d i)), .osl kb 0 0 1 b.length, .osl kbs 0 0 1 bs.length, .osl kp 0 0 73 p.length, .osl kq 0 0 74 q.length, .int .i64 key, .fam 32 1 fun i => .int .u8 (nat (of i))]]) := (Ext.refl _ _).app _
  refine hB _ _ (hm0.ext hE0) (by rw [← hC]; omega) _ ?_
  rw [← hC]
  intro H m hE hm hrow
  have hx : lookH H h.length = Chunk.cells true [.int .i64 k, .int .i64 f, .int .i64 v, .int .i64 s, .fam 32 1 fun i => .int .u8 (nat (d i)), .osl kb 0 0 1 b.length, .osl kbs 0 0 1 bs.length, .osl kp 0 0 73 p.length, .osl kq 0 0 74 q.length, .int .i64 key, .fam 32 1 fun i => .int .u8 (nat (of i))] := hE.look (lookH_end _ _) (by simp) fun h => h
  simp -implicitDefEqProofs (maxSteps := 1000000) (disch := omega) only [↓vcB,↓gd,↓opP,↓qv,↓ef,↓bslS,↓stS,↓mkS,↓rangeS,↓nextS,↓entryS,↓delS,↓mupS,↓appS,↓s2bS,↓resS,evB,Sx.look,slot,↓lkL,putS,putO,argsL,↓reduceIte,ofV,of1,lookH,putH,List.replicate,List.append,convS,fldA,nthT,idxA,idxS,fldS,oslN,bnd,slS,unS,valI,lenS,lookS,takeC,psB,asRow,csB,rdF,Ent.row,ldS,sz,szL,wrF,bldF,plT,bldS,srcS,nilS,nilEq,mapC,binH,binS2,structS,eqL,eqF,binS,arrS,isI,tupS,stor,storL,Value.oneCell',minS,maxS,capS,Nat.reduceAdd,Nat.reduceSub,Nat.reduceMul,Nat.reduceLT,Nat.reduceLeDiff,Nat.reduceEqDiff,Nat.reduceBEq,Int.reduceToNat,Int.reduceNeg,if_true,if_false,reduceIte,stays,inL,same1,qn,ldN,convN,lenN,cond_true,cond_false,implies_true,Int.reduceEq,Int.reduceNe,Int.reduceLE,Int.reduceLT,forall_eq_or_imp,forall_eq,ne_eq,reduceCtorEq,notInt,numB,tabB,Array.reduceGetElem?,upG,up,nth,lay,rcB,rnm,rnmL,wrB,pcB,res63,res52,pl63,pl52,Option.isNone,lhB,hx,liB]
  repeat (refine ⟨by omega, ?_⟩)
  have hxm0 : h.length ≠ m := fun e => by rw [← e, hx] at hrow; cases hrow
  have hmh : h.length ≤ m := by rw [List.length_append] at hm; omega
  refine c102 C m key hkey H hrow (by omega) _ ?_
  intro H2 m2 hE2 hm2 hrow2
  have hx2 := hE2.look hx (by simp) hxm0
  obtain ⟨D, hD⟩ : ∃ D, D = C ++ leb (zig key) := ⟨_, rfl⟩
  rw [← hD] at hrow2 hK ⊢
  have lD := congrArg List.length hD
  rw [List.length_append] at lD
  have hE4 := ext_own (hE0.trans hE) hmh hE2
  have hl4 := hE4.1
  have hm3 : h.length ≤ m2 := by have := hE2.1; have := hE.1; rw [List.length_append] at this; omega
  simp -implicitDefEqProofs (maxSteps := 1000000) (disch := omega) only [↓vcB,↓gd,↓opP,↓qv,↓ef,↓bslS,↓stS,↓mkS,↓rangeS,↓nextS,↓entryS,↓delS,↓mupS,↓appS,↓s2bS,↓resS,evB,Sx.look,slot,↓lkL,putS,putO,argsL,↓reduceIte,ofV,of1,lookH,putH,List.replicate,List.append,convS,fldA,nthT,idxA,idxS,fldS,oslN,bnd,slS,unS,valI,lenS,lookS,takeC,psB,asRow,csB,rdF,Ent.row,ldS,sz,szL,wrF,bldF,plT,bldS,srcS,nilS,nilEq,mapC,binH,binS2,structS,eqL,eqF,binS,arrS,isI,tupS,stor,storL,Value.oneCell',minS,maxS,capS,Nat.reduceAdd,Nat.reduceSub,Nat.reduceMul,Nat.reduceLT,Nat.reduceLeDiff,Nat.reduceEqDiff,Nat.reduceBEq,Int.reduceToNat,Int.reduceNeg,if_true,if_false,reduceIte,stays,inL,same1,qn,ldN,convN,lenN,cond_true,cond_false,implies_true,Int.reduceEq,Int.reduceNe,Int.reduceLE,Int.reduceLT,forall_eq_or_imp,forall_eq,ne_eq,reduceCtorEq,notInt,numB,tabB,Array.reduceGetElem?,upG,up,nth,lay,rcB,rnm,rnmL,wrB,pcB,res63,res52,pl63,pl52,Option.isNone,lhB,hx2,hrow2,liB]
  repeat (refine ⟨by omega, ?_⟩)
  have hxm : h.length ≠ m2 := fun e => by rw [← e, hx2] at hrow2; cases hrow2
  have hxl := lookH_lt hx2 (by simp)
  refine ⟨by rw [lookH_at _ (by rw [putH_len]; exact hxl), lookH_put_ne _ hxm]; exact hx2, ?_⟩
  have hl : D.length + 32 = (D ++ d32 of).length := by rw [List.length_append, d32_len]
  refine intoR_sim (row_sim hl fun i hi => ?_) ?_
  · rw [← app_byte]
    by_cases c : i < D.length
    · rw [if_pos c, if_pos c]
    · rw [if_neg c, if_neg c, d32_get _ (by omega)]
  rw [hl]
  exact intoR_refl (by simp [putH_len]; omega) (hK _ _ ((hE4.put _ (.inr hm3)).app _) (by omega) (lookH_last (by simp [putH_len])))
mutual
theorem c52 : ∀ m : Msg, wfM m → EncAt 52 m
  | .mk k f v s d b bs p q key of, h => by
    rw [wfM] at h
    exact c52S _ (c63S k f v s d b bs p q key of h.2.1 (c52L p h.2.2.2.2.2.1) (c52Q q h.2.2.2.2.2.2)) h.2.2.2.2.1
theorem c52L : ∀ p : List Msg, wfL p → ∀ m ∈ p, EncAt 52 m
  | [], h, m, hm => by cases hm
  | a :: l, h, m, hm => by
    rw [wfL] at h
    exact (List.mem_cons.1 hm).elim (fun e => e ▸ c52 a h.1) (c52L l h.2 m)
theorem c52Q : ∀ q : List (Msg × List Msg), wfQ q → ∀ x ∈ q, EncAt 52 x.1 ∧ ∀ m ∈ x.2, EncAt 52 m
  | [], h, x, hx => by cases hx
  | (a, l) :: r, h, x, hx => by
    rw [wfQ] at h
    exact (List.mem_cons.1 hx).elim (fun e => e ▸ ⟨c52 a h.1.1, c52L l h.1.2⟩) (c52Q r h.2 x)
end
theorem c63 (m : Msg) (h : wfM m) : BodyAt 63 m := by
  obtain ⟨k, f, v, s, d, b, bs, p, q, key, of⟩ := m
  rw [wfM] at h
  exact c63S k f v s d b bs p q key of h.2.1 (c52L p h.2.2.2.2.2.1) (c52Q q h.2.2.2.2.2.2)
end Go.Proofs.Ytgocfglmideobaa

set_option linter.all false
set_option maxRecDepth 40000
namespace Go.Proofs.Ytgocfglmideobaa
open Go Go.Sx

theorem mayL_all {kind : Int} : ∀ {l : List Msg}, mayL kind l = 0 → ∀ m ∈ l, m.kind = kind ∧ may m = 0
  | [], _, m, hm => by cases hm
  | a :: l, h, m, hm => by
    rw [mayL] at h
    by_cases c : a.kind ≠ kind
    · rw [if_pos c] at h; cases h
    · rw [if_neg c] at h
      by_cases c2 : may a ≠ 0
      · rw [if_pos c2] at h; exact absurd h c2
      · rw [if_neg c2] at h
        rcases List.mem_cons.1 hm with rfl | hm
        · exact ⟨Classical.not_not.1 c, Classical.not_not.1 c2⟩
        · exact mayL_all h m hm
theorem mayQ_all {is : Bool} : ∀ {q : List (Msg × List Msg)}, mayQ is q = 0 → ∀ x ∈ q, (x.1.kind = 2 ∧ may x.1 = 0) ∧ x.2.length ≤ 64 ∧ ∀ m ∈ x.2, m.kind = 3 ∧ may m = 0
  | [], _, x, hx => by cases hx
  | (a, l) :: r, h, x, hx => by
    rw [mayQ] at h
    dsimp only at h
    by_cases c : a.kind ≠ 2
    · rw [if_pos c] at h; cases h
    · rw [if_neg c] at h
      by_cases c2 : may a ≠ 0
      · rw [if_pos c2] at h; exact absurd h c2
      · rw [if_neg c2] at h
        by_cases c3 : is = false ∧ 0 < l.length
        · rw [if_pos c3] at h; cases h
        · rw [if_neg c3] at h
          by_cases c4 : l.length > 64
          · rw [if_pos c4] at h; cases h
          · rw [if_neg c4] at h
            by_cases c5 : mayL 3 l ≠ 0
            · rw [if_pos c5] at h; exact absurd h c5
            · rw [if_neg c5] at h
              rcases List.mem_cons.1 hx with rfl | hx
              · exact ⟨⟨Classical.not_not.1 c, Classical.not_not.1 c2⟩, by show l.length ≤ 64; omega, mayL_all (Classical.not_not.1 c5)⟩
              · exact mayQ_all h x hx
theorem mayBs_all : ∀ {bs : List (List By)}, mayBs bs = 0 → ∀ b ∈ bs, b.length ≤ 8192
  | [], _, b, hb => by cases hb
  | a :: l, h, b, hb => by
    rw [mayBs] at h
    by_cases c : mayB a = 0
    · rw [if_pos c] at h
      rcases List.mem_cons.1 hb with rfl | hb
      · unfold mayB at c
        split at c
        · cases c
        · split at c
          · cases c
          · omega
      · exact mayBs_all h b hb
    · rw [if_neg c] at h; exact absurd h c
/-- What is within one that may be. -/
theorem may_in {k f v s : Int} {d : Nat → By} {b : List By} {bs : List (List By)} {p : List Msg} {q : List (Msg × List Msg)} {key : Int} {of : Nat → By} (h : may (.mk k f v s d b bs p q key of) = 0) :
    (1 ≤ k ∧ k ≤ 9) ∧ b.length ≤ 8192 ∧ bs.length ≤ 512 ∧ (hBuns k = false → bs = []) ∧ (∀ b ∈ bs, b.length ≤ 8192) ∧ p.length ≤ 64 ∧ (hProof k = false → p = []) ∧ (∀ m ∈ p, m.kind = kProof k ∧ may m = 0) ∧
    q.length ≤ 64 ∧ (hPrep k = false → q = []) ∧ ∀ x ∈ q, (x.1.kind = 2 ∧ may x.1 = 0) ∧ x.2.length ≤ 64 ∧ ∀ m ∈ x.2, m.kind = 3 ∧ may m = 0 := by
  rw [may_eq] at h
  by_cases c1 : ¬ (1 ≤ k ∧ k ≤ 9)
  · rw [if_pos c1] at h; cases h
  rw [if_neg c1] at h
  by_cases c2 : ¬ okFrom k f = true
  · rw [if_pos c2] at h; cases h
  rw [if_neg c2] at h
  by_cases c3 : ¬ (okNum (hView k) v = true ∧ okNum (hSeq k) s = true ∧ (hDig k || zero32 d) = true)
  · rw [if_pos c3] at h; cases h
  rw [if_neg c3] at h
  by_cases c4 : hBun k = true ∧ mayB b ≠ 0
  · rw [if_pos c4] at h; exact absurd h c4.2
  rw [if_neg c4] at h
  by_cases c5 : hBun k = false ∧ 0 < b.length
  · rw [if_pos c5] at h; cases h
  rw [if_neg c5] at h
  by_cases c6 : mayLs k bs p q ≠ 0
  · rw [if_pos c6] at h; exact absurd h c6
  have hb : b.length ≤ 8192 := by
    cases hh : hBun k with
    | false => exact Nat.le_trans (Nat.le_of_not_lt fun h => c5 ⟨hh, h⟩) (Nat.zero_le _)
    | true =>
      have c : mayB b = 0 := Classical.not_not.1 fun h => c4 ⟨hh, h⟩
      unfold mayB at c
      split at c
      · cases c
      · split at c
        · cases c
        · omega
  replace c6 : mayLs k bs p q = 0 := Classical.not_not.1 c6
  unfold mayLs at c6
  by_cases d1 : hBuns k = false ∧ 0 < bs.length
  · rw [if_pos d1] at c6; cases c6
  rw [if_neg d1] at c6
  by_cases d2 : bs.length > 512
  · rw [if_pos d2] at c6; cases c6
  rw [if_neg d2] at c6
  by_cases d3 : mayBs bs ≠ 0
  · rw [if_pos d3] at c6; exact absurd c6 d3
  rw [if_neg d3] at c6
  by_cases d4 : hProof k = false ∧ 0 < p.length
  · rw [if_pos d4] at c6; cases c6
  rw [if_neg d4] at c6
  by_cases d5 : p.length > 64
  · rw [if_pos d5] at c6; cases c6
  rw [if_neg d5] at c6
  by_cases d6 : mayL (kProof k) p ≠ 0
  · rw [if_pos d6] at c6; exact absurd c6 d6
  rw [if_neg d6] at c6
  by_cases d7 : hPrep k = false ∧ 0 < q.length
  · rw [if_pos d7] at c6; cases c6
  rw [if_neg d7] at c6
  by_cases d8 : q.length > 64
  · rw [if_pos d8] at c6; cases c6
  rw [if_neg d8] at c6
  have emp : ∀ {α : Type} {l : List α} {b : Bool}, ¬ (b = false ∧ 0 < l.length) → b = false → l = [] := fun h e => List.eq_nil_of_length_eq_zero (Nat.le_zero.1 (Nat.le_of_not_lt fun q => h ⟨e, q⟩))
  exact ⟨Classical.not_not.1 c1, hb, by omega, emp d1, mayBs_all (Classical.not_not.1 d3), by omega, emp d4, mayL_all (Classical.not_not.1 d6), by omega, emp d7, mayQ_all c6⟩
theorem sum_le {α : Type} (f : α → List By) (B : Nat) : ∀ {l : List α}, (∀ x ∈ l, (f x).length ≤ B) → (l.flatMap f).length ≤ l.length * B
  | [], _ => by simp
  | a :: l, h => by
    rw [List.flatMap_cons, List.length_append, List.length_cons, Nat.succ_mul]
    have := h a (List.mem_cons_self ..)
    have := sum_le f B (l := l) fun x hx => h x (List.mem_cons_of_mem _ hx)
    omega
theorem leb_len {n : Nat} (h : n < 18446744073709551616) : (leb n).length ≤ 10 := leb_le 9 n (Nat.lt_of_lt_of_le h (by decide))
theorem putB_len {b : List By} {B : Nat} (h : b.length ≤ B) (hB : B < 18446744073709551616) : (putB b).length ≤ B + 10 := by
  unfold putB
  rw [List.length_append]
  have := leb_len (n := b.length) (by omega)
  omega
theorem enc_len {k f v s : Int} {d : Nat → By} {b : List By} {bs : List (List By)} {p : List Msg} {q : List (Msg × List Msg)} {key : Int} {of : Nat → By} (ho : wfM (.mk k f v s d b bs p q key of)) (h : may (.mk k f v s d b bs p q key of) = 0) {BS BP BQ : Nat} (h1 : (bs.flatMap putB).length ≤ BS) (h2 : (p.flatMap fun m => putB (enc m)).length ≤ BP) (h3 : (q.flatMap encP).length ≤ BQ) :
    (enc (.mk k f v s d b bs p q key of)).length ≤ 8400 + BS + BP + BQ := by
  have hm := may_in h
  rw [wfM] at ho
  unfold enc
  rw [body_eq]
  simp only [List.length_append, d32_len, List.length_singleton]
  have e1 := leb_len (zig_lt ho.2.1)
  have e2 := leb_64 (BitVec.ofInt 64 v)
  have e3 := leb_64 (BitVec.ofInt 64 s)
  have e4 := putB_len hm.2.1 (by decide)
  have e5 := leb_len (n := bs.length) (by have := hm.2.2.1; omega)
  have e6 := leb_len (n := p.length) (by have := hm.2.2.2.2.2.1; omega)
  have e7 := leb_len (n := q.length) (by have := hm.2.2.2.2.2.2.2.2.1; omega)
  have e8 : (leb (zig (Msg.mk k f v s d b bs p q key of).key)).length ≤ 10 := leb_len (zig_lt ho.2.2.2.2.1)
  have e9 : (d32 (Msg.mk k f v s d b bs p q key of).of).length = 32 := d32_len _
  have e2' : (leb (u64n v)).length ≤ 10 := e2
  have e3' : (leb (u64n s)).length ≤ 10 := e3
  omega
/-- Without messages within. -/
theorem enc_flat {m : Msg} (ho : wfM m) (h : may m = 0) (h1 : hBuns m.kind = false) (h2 : hProof m.kind = false) (h3 : hPrep m.kind = false) : (enc m).length ≤ 8400 := by
  obtain ⟨k, f, v, s, d, b, bs, p, q, key, of⟩ := m
  have hm := may_in h
  obtain rfl := hm.2.2.2.1 h1
  obtain rfl := hm.2.2.2.2.2.2.1 h2
  obtain rfl := hm.2.2.2.2.2.2.2.2.2.1 h3
  exact enc_len ho h (BS := 0) (BP := 0) (BQ := 0) (by simp) (by simp) (by simp)
theorem encP_len {x : Msg × List Msg} (ho : wfM x.1 ∧ wfL x.2) (h : (x.1.kind = 2 ∧ may x.1 = 0) ∧ x.2.length ≤ 64 ∧ ∀ m ∈ x.2, m.kind = 3 ∧ may m = 0) : (encP x).length ≤ 560000 := by
  unfold encP
  rw [List.length_append, List.length_append]
  have e1 := putB_len (enc_flat ho.1 h.1.2 (by rw [h.1.1]; rfl) (by rw [h.1.1]; rfl) (by rw [h.1.1]; rfl)) (by decide)
  have e2 := leb_len (n := x.2.length) (by have := h.2.1; omega)
  have e3 := sum_le (fun m => putB (enc m)) 8410 (l := x.2) fun m hm => by
    have hk := h.2.2 m hm
    exact putB_len (enc_flat (ho.2.get m hm) hk.2 (by rw [hk.1]; rfl) (by rw [hk.1]; rfl) (by rw [hk.1]; rfl)) (by decide)
  have e4 := Nat.mul_le_mul_right 8410 h.2.1
  omega
theorem bs_len {bs : List (List By)} (h : bs.length ≤ 512) (hb : ∀ b ∈ bs, b.length ≤ 8192) : (bs.flatMap putB).length ≤ 4200000 := by
  have := sum_le putB 8202 (l := bs) fun b hb' => putB_len (hb b hb') (by decide)
  have := Nat.mul_le_mul_right 8202 h
  omega
/-- With messages within that have none. -/
theorem enc_five {m : Msg} (ho : wfM m) (h : may m = 0) (hk : m.kind ≠ 7) : (enc m).length ≤ 41000000 := by
  obtain ⟨k, f, v, s, d, b, bs, p, q, key, of⟩ := m
  have hm := may_in h
  have ho' := ho
  rw [wfM] at ho'
  have hk5 : kProof k = 5 := by unfold kProof; exact if_neg hk
  have e1 := sum_le (fun m => putB (enc m)) 8410 (l := p) fun m hm' => by
    have hk := hm.2.2.2.2.2.2.2.1 m hm'
    rw [hk5] at hk
    exact putB_len (enc_flat (ho'.2.2.2.2.2.1.get m hm') hk.2 (by rw [hk.1]; rfl) (by rw [hk.1]; rfl) (by rw [hk.1]; rfl)) (by decide)
  have e2 := sum_le encP 560000 (l := q) fun x hx => encP_len (ho'.2.2.2.2.2.2.get x hx) (hm.2.2.2.2.2.2.2.2.2.2 x hx)
  have e3 := Nat.mul_le_mul_right 8410 hm.2.2.2.2.2.1
  have e4 := Nat.mul_le_mul_right 560000 hm.2.2.2.2.2.2.2.2.1
  have := enc_len ho h (BS := 4200000) (BP := 540000) (BQ := 35840000) (bs_len hm.2.2.1 hm.2.2.2.2.1) (by omega) (by omega)
  omega
theorem enc_small {m : Msg} (ho : wfM m) (h : may m = 0) : (enc m).length ≤ 3000000000 := by
  by_cases hk : m.kind = 7
  · obtain ⟨k, f, v, s, d, b, bs, p, q, key, of⟩ := m
    have hm := may_in h
    have ho' := ho
    rw [wfM] at ho'
    have hk6 : kProof k = 6 := by unfold kProof; exact if_pos hk
    have e1 := sum_le (fun m => putB (enc m)) 41000010 (l := p) fun m hm' => by
      have hk := hm.2.2.2.2.2.2.2.1 m hm'
      rw [hk6] at hk
      exact putB_len (enc_five (ho'.2.2.2.2.2.1.get m hm') hk.2 (by rw [hk.1]; decide)) (by decide)
    have e2 := sum_le encP 560000 (l := q) fun x hx => encP_len (ho'.2.2.2.2.2.2.get x hx) (hm.2.2.2.2.2.2.2.2.2.2 x hx)
    have e3 := Nat.mul_le_mul_right 41000010 hm.2.2.2.2.2.1
    have e4 := Nat.mul_le_mul_right 560000 hm.2.2.2.2.2.2.2.2.1
    have := enc_len ho h (BS := 4200000) (BP := 2624000640) (BQ := 35840000) (bs_len hm.2.2.1 hm.2.2.2.2.1) (by omega) (by omega)
    omega
  · have := enc_five ho h hk
    omega
theorem body_small {m : Msg} (ho : wfM m) (h : may m = 0) : (body m).length ≤ 3000000000 := by
  have := enc_small ho h
  unfold enc at this
  rw [List.length_append, List.length_append] at this
  omega
end Go.Proofs.Ytgocfglmideobaa

set_option linter.all false
set_option maxRecDepth 40000
namespace Go.Proofs.Ytgocfglmideobaa
open Go Go.Sx
theorem res13 : Try.f13.results.toList = [.tmp 2, .tmp 3] := rfl
theorem res14 : Try.f14.results.toList = [.tmp 2, .tmp 3] := rfl
theorem res17 : Try.f17.results.toList = [.tmp 2] := rfl
theorem res18 : Try.f18.results.toList = [.tmp 2] := rfl
theorem ext_eq {h H : List Chunk} (hE : Ext (fun _ => False) h H) : H = h ++ H.drop h.length := by
  have e : H.take h.length = h := by
    apply List.ext_getElem?
    intro i
    by_cases hi : i < h.length
    · rw [List.getElem?_take_of_lt hi, get_of_lt (Nat.lt_of_lt_of_le hi hE.1), get_of_lt hi, hE.2 i hi fun h => h]
    · rw [List.getElem?_eq_none (by rw [List.length_take]; omega), List.getElem?_eq_none (by omega)]
  calc H = H.take h.length ++ H.drop h.length := (List.take_append_drop _ _).symm
    _ = _ := by rw [e]
set_option maxHeartbeats 4000000 in
theorem c17 (m : Msg) (ho : wfM m) (l : List SV) (h : List Chunk) (hm : MsgH h m l) (K : Tok → SV → List Chunk → Prop) (h0 : may m ≠ 0 → K .mk (.v (.slice none 0 0)) h) (h1 : may m = 0 → Out (fun _ => False) h (body m) K) : callP Try.prog 17 [.agg l] h K := by
  refine callP_good fun hgood => ?_
  obtain ⟨xk, xf, xv, xs, xd, xkb, xnb, xkbs, xnbs, xkp, xnp, xkq, xnq, xkey, xof, rfl⟩ := hm.open
  have hE0 : Ext (fun _ => False) h (h ++ [Chunk.cells true [.int .i64 xk, .int .i64 xf, .int .i64 xv, .int .i64 xs, .fam 32 1 fun i => .int .u8 (nat (xd i)), .osl xkb 0 0 1 xnb, .osl xkbs 0 0 1 xnbs, .osl xkp 0 0 73 xnp, .osl xkq 0 0 74 xnq, .int .i64 xkey, .fam 32 1 fun i => .int .u8 (nat (xof i))]]) := (Ext.refl _ _).app _
  refine callP_of_code tabOk Try.func17 (by kernel_rfl) rfl (Nat.le_of_ble_eq_true rfl) (codeP_of_vc (pl := np) tabOk follows_mixed (by kernel_rfl) ?_)
  rw [Try.ntmps17]
  simp -implicitDefEqProofs (maxSteps := 1000000) (disch := omega) only [↓vcB,↓gd,↓opP,↓qv,↓ef,↓bslS,↓stS,↓mkS,↓rangeS,↓nextS,↓entryS,↓delS,↓mupS,↓appS,↓s2bS,↓resS,evB,Sx.look,slot,↓lkL,putS,putO,argsL,↓reduceIte,ofV,of1,lookH,putH,List.replicate,List.append,convS,fldA,nthT,idxA,idxS,fldS,oslN,bnd,slS,unS,valI,lenS,lookS,takeC,psB,asRow,csB,rdF,Ent.row,ldS,sz,szL,wrF,bldF,plT,bldS,srcS,nilS,nilEq,mapC,binH,binS2,structS,eqL,eqF,binS,arrS,isI,tupS,stor,storL,Value.oneCell',minS,maxS,capS,Nat.reduceAdd,Nat.reduceSub,Nat.reduceMul,Nat.reduceLT,Nat.reduceLeDiff,Nat.reduceEqDiff,Nat.reduceBEq,Int.reduceToNat,Int.reduceNeg,if_true,if_false,reduceIte,stays,inL,same1,qn,ldN,convN,lenN,cond_true,cond_false,implies_true,Int.reduceEq,Int.reduceNe,Int.reduceLE,Int.reduceLT,forall_eq_or_imp,forall_eq,ne_eq,reduceCtorEq,notInt,numB,tabB,Array.reduceGetElem?,upG,up,nth,lay,rcB,rnm,rnmL,wrB,pcB,res13,res14,res17,res18,Option.isNone,lhB,liB]
  repeat (refine ⟨by omega, ?_⟩)
  refine c15 m _ _ (hm.ext hE0) _ ?_
  by_cases e : may m = 0
  · have z : (may m != 0) = false := by rw [e]; rfl
    obtain ⟨C, hC⟩ : ∃ C, C = body m := ⟨_, rfl⟩
    have hb := c62 m ho _ _ (hm.ext hE0) (Nat.le_trans (body_small ho e) (by decide))
    have hK := h1 e
    rw [← hC] at hb hK
    simp -implicitDefEqProofs (maxSteps := 1000000) (disch := omega) only [↓vcB,↓gd,↓opP,↓qv,↓ef,↓bslS,↓stS,↓mkS,↓rangeS,↓nextS,↓entryS,↓delS,↓mupS,↓appS,↓s2bS,↓resS,evB,Sx.look,slot,↓lkL,putS,putO,argsL,↓reduceIte,ofV,of1,lookH,putH,List.replicate,List.append,convS,fldA,nthT,idxA,idxS,fldS,oslN,bnd,slS,unS,valI,lenS,lookS,takeC,psB,asRow,csB,rdF,Ent.row,ldS,sz,szL,wrF,bldF,plT,bldS,srcS,nilS,nilEq,mapC,binH,binS2,structS,eqL,eqF,binS,arrS,isI,tupS,stor,storL,Value.oneCell',minS,maxS,capS,Nat.reduceAdd,Nat.reduceSub,Nat.reduceMul,Nat.reduceLT,Nat.reduceLeDiff,Nat.reduceEqDiff,Nat.reduceBEq,Int.reduceToNat,Int.reduceNeg,if_true,if_false,reduceIte,stays,inL,same1,qn,ldN,convN,lenN,cond_true,cond_false,implies_true,Int.reduceEq,Int.reduceNe,Int.reduceLE,Int.reduceLT,forall_eq_or_imp,forall_eq,ne_eq,reduceCtorEq,notInt,numB,tabB,Array.reduceGetElem?,upG,up,nth,lay,rcB,rnm,rnmL,wrB,pcB,res13,res14,res17,res18,Option.isNone,lhB,z,liB]
    repeat (refine ⟨by omega, ?_⟩)
    refine hb _ ?_
    intro H m1 hE hm1 hrow
    have hE1 := hE0.trans hE
    have hl1 := hE1.1
    rw [List.length_append] at hm1
    simp -implicitDefEqProofs (maxSteps := 1000000) (disch := omega) only [↓vcB,↓gd,↓opP,↓qv,↓ef,↓bslS,↓stS,↓mkS,↓rangeS,↓nextS,↓entryS,↓delS,↓mupS,↓appS,↓s2bS,↓resS,evB,Sx.look,slot,↓lkL,putS,putO,argsL,↓reduceIte,ofV,of1,lookH,putH,List.replicate,List.append,convS,fldA,nthT,idxA,idxS,fldS,oslN,bnd,slS,unS,valI,lenS,lookS,takeC,psB,asRow,csB,rdF,Ent.row,ldS,sz,szL,wrF,bldF,plT,bldS,srcS,nilS,nilEq,mapC,binH,binS2,structS,eqL,eqF,binS,arrS,isI,tupS,stor,storL,Value.oneCell',minS,maxS,capS,Nat.reduceAdd,Nat.reduceSub,Nat.reduceMul,Nat.reduceLT,Nat.reduceLeDiff,Nat.reduceEqDiff,Nat.reduceBEq,Int.reduceToNat,Int.reduceNeg,if_true,if_false,reduceIte,stays,inL,same1,qn,ldN,convN,lenN,cond_true,cond_false,implies_true,Int.reduceEq,Int.reduceNe,Int.reduceLE,Int.reduceLT,forall_eq_or_imp,forall_eq,ne_eq,reduceCtorEq,notInt,numB,tabB,Array.reduceGetElem?,upG,up,nth,lay,rcB,rnm,rnmL,wrB,pcB,res13,res14,res17,res18,Option.isNone,lhB,liB]
    repeat (refine ⟨by omega, ?_⟩)
    exact intoR_refl hl1 (hK _ _ hE1 (by omega) hrow)
  · have z : (may m != 0) = true := bne_iff_ne.2 e
    simp -implicitDefEqProofs (maxSteps := 1000000) (disch := omega) only [↓vcB,↓gd,↓opP,↓qv,↓ef,↓bslS,↓stS,↓mkS,↓rangeS,↓nextS,↓entryS,↓delS,↓mupS,↓appS,↓s2bS,↓resS,evB,Sx.look,slot,↓lkL,putS,putO,argsL,↓reduceIte,ofV,of1,lookH,putH,List.replicate,List.append,convS,fldA,nthT,idxA,idxS,fldS,oslN,bnd,slS,unS,valI,lenS,lookS,takeC,psB,asRow,csB,rdF,Ent.row,ldS,sz,szL,wrF,bldF,plT,bldS,srcS,nilS,nilEq,mapC,binH,binS2,structS,eqL,eqF,binS,arrS,isI,tupS,stor,storL,Value.oneCell',minS,maxS,capS,Nat.reduceAdd,Nat.reduceSub,Nat.reduceMul,Nat.reduceLT,Nat.reduceLeDiff,Nat.reduceEqDiff,Nat.reduceBEq,Int.reduceToNat,Int.reduceNeg,if_true,if_false,reduceIte,stays,inL,same1,qn,ldN,convN,lenN,cond_true,cond_false,implies_true,Int.reduceEq,Int.reduceNe,Int.reduceLE,Int.reduceLT,forall_eq_or_imp,forall_eq,ne_eq,reduceCtorEq,notInt,numB,tabB,Array.reduceGetElem?,upG,up,nth,lay,rcB,rnm,rnmL,wrB,pcB,res13,res14,res17,res18,Option.isNone,lhB,z,liB]
    repeat (refine ⟨by omega, ?_⟩)
    exact intoR_drop hgood (by simp [ok]) (h0 e)
set_option maxHeartbeats 4000000 in
theorem c18 (m : Msg) (ho : wfM m) (l : List SV) (h : List Chunk) (hm : MsgH h m l) (K : Tok → SV → List Chunk → Prop) (h0 : may m ≠ 0 → K .mk (.v (.slice none 0 0)) h) (h1 : may m = 0 → Out (fun _ => False) h (body m) K) : callP Try.prog 18 [.agg l] h K := by
  refine callP_good fun hgood => ?_
  obtain ⟨xk, xf, xv, xs, xd, xkb, xnb, xkbs, xnbs, xkp, xnp, xkq, xnq, xkey, xof, rfl⟩ := hm.open
  have hE0 : Ext (fun _ => False) h (h ++ [Chunk.cells true [.int .i64 xk, .int .i64 xf, .int .i64 xv, .int .i64 xs, .fam 32 1 fun i => .int .u8 (nat (xd i)), .osl xkb 0 0 1 xnb, .osl xkbs 0 0 1 xnbs, .osl xkp 0 0 73 xnp, .osl xkq 0 0 74 xnq, .int .i64 xkey, .fam 32 1 fun i => .int .u8 (nat (xof i))]]) := (Ext.refl _ _).app _
  refine callP_of_code tabOk Try.func18 (by kernel_rfl) rfl (Nat.le_of_ble_eq_true rfl) (codeP_of_vc (pl := np) tabOk follows_mixed (by kernel_rfl) ?_)
  rw [Try.ntmps18]
  simp -implicitDefEqProofs (maxSteps := 1000000) (disch := omega) only [↓vcB,↓gd,↓opP,↓qv,↓ef,↓bslS,↓stS,↓mkS,↓rangeS,↓nextS,↓entryS,↓delS,↓mupS,↓appS,↓s2bS,↓resS,evB,Sx.look,slot,↓lkL,putS,putO,argsL,↓reduceIte,ofV,of1,lookH,putH,List.replicate,List.append,convS,fldA,nthT,idxA,idxS,fldS,oslN,bnd,slS,unS,valI,lenS,lookS,takeC,psB,asRow,csB,rdF,Ent.row,ldS,sz,szL,wrF,bldF,plT,bldS,srcS,nilS,nilEq,mapC,binH,binS2,structS,eqL,eqF,binS,arrS,isI,tupS,stor,storL,Value.oneCell',minS,maxS,capS,Nat.reduceAdd,Nat.reduceSub,Nat.reduceMul,Nat.reduceLT,Nat.reduceLeDiff,Nat.reduceEqDiff,Nat.reduceBEq,Int.reduceToNat,Int.reduceNeg,if_true,if_false,reduceIte,stays,inL,same1,qn,ldN,convN,lenN,cond_true,cond_false,implies_true,Int.reduceEq,Int.reduceNe,Int.reduceLE,Int.reduceLT,forall_eq_or_imp,forall_eq,ne_eq,reduceCtorEq,notInt,numB,tabB,Array.reduceGetElem?,upG,up,nth,lay,rcB,rnm,rnmL,wrB,pcB,res13,res14,res17,res18,Option.isNone,lhB,liB]
  repeat (refine ⟨by omega, ?_⟩)
  refine c16 m _ _ (hm.ext hE0) _ ?_
  by_cases e : may m = 0
  · have z : (may m != 0) = false := by rw [e]; rfl
    obtain ⟨C, hC⟩ : ∃ C, C = body m := ⟨_, rfl⟩
    have hb := c63 m ho _ _ (hm.ext hE0) (Nat.le_trans (body_small ho e) (by decide))
    have hK := h1 e
    rw [← hC] at hb hK
    simp -implicitDefEqProofs (maxSteps := 1000000) (disch := omega) only [↓vcB,↓gd,↓opP,↓qv,↓ef,↓bslS,↓stS,↓mkS,↓rangeS,↓nextS,↓entryS,↓delS,↓mupS,↓appS,↓s2bS,↓resS,evB,Sx.look,slot,↓lkL,putS,putO,argsL,↓reduceIte,ofV,of1,lookH,putH,List.replicate,List.append,convS,fldA,nthT,idxA,idxS,fldS,oslN,bnd,slS,unS,valI,lenS,lookS,takeC,psB,asRow,csB,rdF,Ent.row,ldS,sz,szL,wrF,bldF,plT,bldS,srcS,nilS,nilEq,mapC,binH,binS2,structS,eqL,eqF,binS,arrS,isI,tupS,stor,storL,Value.oneCell',minS,maxS,capS,Nat.reduceAdd,Nat.reduceSub,Nat.reduceMul,Nat.reduceLT,Nat.reduceLeDiff,Nat.reduceEqDiff,Nat.reduceBEq,Int.reduceToNat,Int.reduceNeg,if_true,if_false,reduceIte,stays,inL,same1,qn,ldN,convN,lenN,cond_true,cond_false,implies_true,Int.reduceEq,Int.reduceNe,Int.reduceLE,Int.reduceLT,forall_eq_or_imp,forall_eq,ne_eq,reduceCtorEq,notInt,numB,tabB,Array.reduceGetElem?,upG,up,nth,lay,rcB,rnm,rnmL,wrB,pcB,res13,res14,res17,res18,Option.isNone,lhB,z,liB]
    repeat (refine ⟨by omega, ?_⟩)
    refine hb _ ?_
    intro H m1 hE hm1 hrow
    have hE1 := hE0.trans hE
    have hl1 := hE1.1
    rw [List.length_append] at hm1
    simp -implicitDefEqProofs (maxSteps := 1000000) (disch := omega) only [↓vcB,↓gd,↓opP,↓qv,↓ef,↓bslS,↓stS,↓mkS,↓rangeS,↓nextS,↓entryS,↓delS,↓mupS,↓appS,↓s2bS,↓resS,evB,Sx.look,slot,↓lkL,putS,putO,argsL,↓reduceIte,ofV,of1,lookH,putH,List.replicate,List.append,convS,fldA,nthT,idxA,idxS,fldS,oslN,bnd,slS,unS,valI,lenS,lookS,takeC,psB,asRow,csB,rdF,Ent.row,ldS,sz,szL,wrF,bldF,plT,bldS,srcS,nilS,nilEq,mapC,binH,binS2,structS,eqL,eqF,binS,arrS,isI,tupS,stor,storL,Value.oneCell',minS,maxS,capS,Nat.reduceAdd,Nat.reduceSub,Nat.reduceMul,Nat.reduceLT,Nat.reduceLeDiff,Nat.reduceEqDiff,Nat.reduceBEq,Int.reduceToNat,Int.reduceNeg,if_true,if_false,reduceIte,stays,inL,same1,qn,ldN,convN,lenN,cond_true,cond_false,implies_true,Int.reduceEq,Int.reduceNe,Int.reduceLE,Int.reduceLT,forall_eq_or_imp,forall_eq,ne_eq,reduceCtorEq,notInt,numB,tabB,Array.reduceGetElem?,upG,up,nth,lay,rcB,rnm,rnmL,wrB,pcB,res13,res14,res17,res18,Option.isNone,lhB,liB]
    repeat (refine ⟨by omega, ?_⟩)
    exact intoR_refl hl1 (hK _ _ hE1 (by omega) hrow)
  · have z : (may m != 0) = true := bne_iff_ne.2 e
    simp -implicitDefEqProofs (maxSteps := 1000000) (disch := omega) only [↓vcB,↓gd,↓opP,↓qv,↓ef,↓bslS,↓stS,↓mkS,↓rangeS,↓nextS,↓entryS,↓delS,↓mupS,↓appS,↓s2bS,↓resS,evB,Sx.look,slot,↓lkL,putS,putO,argsL,↓reduceIte,ofV,of1,lookH,putH,List.replicate,List.append,convS,fldA,nthT,idxA,idxS,fldS,oslN,bnd,slS,unS,valI,lenS,lookS,takeC,psB,asRow,csB,rdF,Ent.row,ldS,sz,szL,wrF,bldF,plT,bldS,srcS,nilS,nilEq,mapC,binH,binS2,structS,eqL,eqF,binS,arrS,isI,tupS,stor,storL,Value.oneCell',minS,maxS,capS,Nat.reduceAdd,Nat.reduceSub,Nat.reduceMul,Nat.reduceLT,Nat.reduceLeDiff,Nat.reduceEqDiff,Nat.reduceBEq,Int.reduceToNat,Int.reduceNeg,if_true,if_false,reduceIte,stays,inL,same1,qn,ldN,convN,lenN,cond_true,cond_false,implies_true,Int.reduceEq,Int.reduceNe,Int.reduceLE,Int.reduceLT,forall_eq_or_imp,forall_eq,ne_eq,reduceCtorEq,notInt,numB,tabB,Array.reduceGetElem?,upG,up,nth,lay,rcB,rnm,rnmL,wrB,pcB,res13,res14,res17,res18,Option.isNone,lhB,z,liB]
    repeat (refine ⟨by omega, ?_⟩)
    exact intoR_drop hgood (by simp [ok]) (h0 e)
set_option maxHeartbeats 4000000 in
theorem c13 (m : Msg) (ho : wfM m) (l : List SV) (h : List Chunk) (hm : MsgH h m l) (K : Tok → SV → List Chunk → Prop) (h0 : may m ≠ 0 → K .mk (.tup [.v (.slice none 0 0), .int .i64 (may m)]) h) (h1 : may m = 0 → 1048576 < (enc m).length → K .mk (.tup [.v (.slice none 0 0), .int .i64 2]) h) (h2 : may m = 0 → (enc m).length ≤ 1048576 → ∀ H' k', Ext (fun _ => False) h H' → h.length ≤ k' → lookH H' k' = .row true (enc m).length 1 (fun i => .int .u8 (nat ((enc m).getD i 0))) → K .mk (.tup [.osl k' 0 0 1 (enc m).length, .int .i64 0]) H') : callP Try.prog 13 [.agg l] h K := by
  refine callP_good fun hgood => ?_
  obtain ⟨xk, xf, xv, xs, xd, xkb, xnb, xkbs, xnbs, xkp, xnp, xkq, xnq, xkey, xof, rfl⟩ := hm.open
  have hE0 : Ext (fun _ => False) h (h ++ [Chunk.cells true [.int .i64 xk, .int .i64 xf, .int .i64 xv, .int .i64 xs, .fam 32 1 fun i => .int .u8 (nat (xd i)), .osl xkb 0 0 1 xnb, .osl xkbs 0 0 1 xnbs, .osl xkp 0 0 73 xnp, .osl xkq 0 0 74 xnq, .int .i64 xkey, .fam 32 1 fun i => .int .u8 (nat (xof i))]]) := (Ext.refl _ _).app _
  refine callP_of_code tabOk Try.func13 (by kernel_rfl) rfl (Nat.le_of_ble_eq_true rfl) (codeP_of_vc (pl := np) tabOk follows_mixed (by kernel_rfl) ?_)
  rw [Try.ntmps13]
  simp -implicitDefEqProofs (maxSteps := 1000000) (disch := omega) only [↓vcB,↓gd,↓opP,↓qv,↓ef,↓bslS,↓stS,↓mkS,↓rangeS,↓nextS,↓entryS,↓delS,↓mupS,↓appS,↓s2bS,↓resS,evB,Sx.look,slot,↓lkL,putS,putO,argsL,↓reduceIte,ofV,of1,lookH,putH,List.replicate,List.append,convS,fldA,nthT,idxA,idxS,fldS,oslN,bnd,slS,unS,valI,lenS,lookS,takeC,psB,asRow,csB,rdF,Ent.row,ldS,sz,szL,wrF,bldF,plT,bldS,srcS,nilS,nilEq,mapC,binH,binS2,structS,eqL,eqF,binS,arrS,isI,tupS,stor,storL,Value.oneCell',minS,maxS,capS,Nat.reduceAdd,Nat.reduceSub,Nat.reduceMul,Nat.reduceLT,Nat.reduceLeDiff,Nat.reduceEqDiff,Nat.reduceBEq,Int.reduceToNat,Int.reduceNeg,if_true,if_false,reduceIte,stays,inL,same1,qn,ldN,convN,lenN,cond_true,cond_false,implies_true,Int.reduceEq,Int.reduceNe,Int.reduceLE,Int.reduceLT,forall_eq_or_imp,forall_eq,ne_eq,reduceCtorEq,notInt,numB,tabB,Array.reduceGetElem?,upG,up,nth,lay,rcB,rnm,rnmL,wrB,pcB,res13,res14,res17,res18,Option.isNone,lhB,liB]
  repeat (refine ⟨by omega, ?_⟩)
  refine c15 m _ _ (hm.ext hE0) _ ?_
  by_cases e : may m = 0
  · have z : (may m != 0) = false := by rw [e]; rfl
    obtain ⟨C, hC⟩ : ∃ C, C = enc m := ⟨_, rfl⟩
    have hb := c51 m ho _ _ (hm.ext hE0) (Nat.le_trans (enc_small ho e) (by decide))
    rw [← hC] at hb h1 h2
    simp -implicitDefEqProofs (maxSteps := 1000000) (disch := omega) only [↓vcB,↓gd,↓opP,↓qv,↓ef,↓bslS,↓stS,↓mkS,↓rangeS,↓nextS,↓entryS,↓delS,↓mupS,↓appS,↓s2bS,↓resS,evB,Sx.look,slot,↓lkL,putS,putO,argsL,↓reduceIte,ofV,of1,lookH,putH,List.replicate,List.append,convS,fldA,nthT,idxA,idxS,fldS,oslN,bnd,slS,unS,valI,lenS,lookS,takeC,psB,asRow,csB,rdF,Ent.row,ldS,sz,szL,wrF,bldF,plT,bldS,srcS,nilS,nilEq,mapC,binH,binS2,structS,eqL,eqF,binS,arrS,isI,tupS,stor,storL,Value.oneCell',minS,maxS,capS,Nat.reduceAdd,Nat.reduceSub,Nat.reduceMul,Nat.reduceLT,Nat.reduceLeDiff,Nat.reduceEqDiff,Nat.reduceBEq,Int.reduceToNat,Int.reduceNeg,if_true,if_false,reduceIte,stays,inL,same1,qn,ldN,convN,lenN,cond_true,cond_false,implies_true,Int.reduceEq,Int.reduceNe,Int.reduceLE,Int.reduceLT,forall_eq_or_imp,forall_eq,ne_eq,reduceCtorEq,notInt,numB,tabB,Array.reduceGetElem?,upG,up,nth,lay,rcB,rnm,rnmL,wrB,pcB,res13,res14,res17,res18,Option.isNone,lhB,z,liB]
    repeat (refine ⟨by omega, ?_⟩)
    refine hb _ ?_
    intro H m1 hE hm1 hrow
    have hE1 := hE0.trans hE
    have hl1 := hE1.1
    rw [List.length_append] at hm1
    by_cases c : 1048576 < C.length
    · have z2 : decide (((C.length : Nat) : Int) > 1048576) = true := decide_eq_true (by omega)
      simp -implicitDefEqProofs (maxSteps := 1000000) (disch := omega) only [↓vcB,↓gd,↓opP,↓qv,↓ef,↓bslS,↓stS,↓mkS,↓rangeS,↓nextS,↓entryS,↓delS,↓mupS,↓appS,↓s2bS,↓resS,evB,Sx.look,slot,↓lkL,putS,putO,argsL,↓reduceIte,ofV,of1,lookH,putH,List.replicate,List.append,convS,fldA,nthT,idxA,idxS,fldS,oslN,bnd,slS,unS,valI,lenS,lookS,takeC,psB,asRow,csB,rdF,Ent.row,ldS,sz,szL,wrF,bldF,plT,bldS,srcS,nilS,nilEq,mapC,binH,binS2,structS,eqL,eqF,binS,arrS,isI,tupS,stor,storL,Value.oneCell',minS,maxS,capS,Nat.reduceAdd,Nat.reduceSub,Nat.reduceMul,Nat.reduceLT,Nat.reduceLeDiff,Nat.reduceEqDiff,Nat.reduceBEq,Int.reduceToNat,Int.reduceNeg,if_true,if_false,reduceIte,stays,inL,same1,qn,ldN,convN,lenN,cond_true,cond_false,implies_true,Int.reduceEq,Int.reduceNe,Int.reduceLE,Int.reduceLT,forall_eq_or_imp,forall_eq,ne_eq,reduceCtorEq,notInt,numB,tabB,Array.reduceGetElem?,upG,up,nth,lay,rcB,rnm,rnmL,wrB,pcB,res13,res14,res17,res18,Option.isNone,lhB,z2,liB]
      repeat (refine ⟨by omega, ?_⟩)
      have hx : H = h ++ H.drop h.length := ext_eq hE1
      rw [hx]
      exact intoR_drop hgood (by simp [ok, okL]) (h1 e c)
    · have z2 : decide (((C.length : Nat) : Int) > 1048576) = false := decide_eq_false (by omega)
      simp -implicitDefEqProofs (maxSteps := 1000000) (disch := omega) only [↓vcB,↓gd,↓opP,↓qv,↓ef,↓bslS,↓stS,↓mkS,↓rangeS,↓nextS,↓entryS,↓delS,↓mupS,↓appS,↓s2bS,↓resS,evB,Sx.look,slot,↓lkL,putS,putO,argsL,↓reduceIte,ofV,of1,lookH,putH,List.replicate,List.append,convS,fldA,nthT,idxA,idxS,fldS,oslN,bnd,slS,unS,valI,lenS,lookS,takeC,psB,asRow,csB,rdF,Ent.row,ldS,sz,szL,wrF,bldF,plT,bldS,srcS,nilS,nilEq,mapC,binH,binS2,structS,eqL,eqF,binS,arrS,isI,tupS,stor,storL,Value.oneCell',minS,maxS,capS,Nat.reduceAdd,Nat.reduceSub,Nat.reduceMul,Nat.reduceLT,Nat.reduceLeDiff,Nat.reduceEqDiff,Nat.reduceBEq,Int.reduceToNat,Int.reduceNeg,if_true,if_false,reduceIte,stays,inL,same1,qn,ldN,convN,lenN,cond_true,cond_false,implies_true,Int.reduceEq,Int.reduceNe,Int.reduceLE,Int.reduceLT,forall_eq_or_imp,forall_eq,ne_eq,reduceCtorEq,notInt,numB,tabB,Array.reduceGetElem?,upG,up,nth,lay,rcB,rnm,rnmL,wrB,pcB,res13,res14,res17,res18,Option.isNone,lhB,z2,liB]
      repeat (refine ⟨by omega, ?_⟩)
      exact intoR_refl hl1 (h2 e (by omega) _ _ hE1 (by omega) hrow)
  · have z : (may m != 0) = true := bne_iff_ne.2 e
    simp -implicitDefEqProofs (maxSteps := 1000000) (disch := omega) only [↓vcB,↓gd,↓opP,↓qv,↓ef,↓bslS,↓stS,↓mkS,↓rangeS,↓nextS,↓entryS,↓delS,↓mupS,↓appS,↓s2bS,↓resS,evB,Sx.look,slot,↓lkL,putS,putO,argsL,↓reduceIte,ofV,of1,lookH,putH,List.replicate,List.append,convS,fldA,nthT,idxA,idxS,fldS,oslN,bnd,slS,unS,valI,lenS,lookS,takeC,psB,asRow,csB,rdF,Ent.row,ldS,sz,szL,wrF,bldF,plT,bldS,srcS,nilS,nilEq,mapC,binH,binS2,structS,eqL,eqF,binS,arrS,isI,tupS,stor,storL,Value.oneCell',minS,maxS,capS,Nat.reduceAdd,Nat.reduceSub,Nat.reduceMul,Nat.reduceLT,Nat.reduceLeDiff,Nat.reduceEqDiff,Nat.reduceBEq,Int.reduceToNat,Int.reduceNeg,if_true,if_false,reduceIte,stays,inL,same1,qn,ldN,convN,lenN,cond_true,cond_false,implies_true,Int.reduceEq,Int.reduceNe,Int.reduceLE,Int.reduceLT,forall_eq_or_imp,forall_eq,ne_eq,reduceCtorEq,notInt,numB,tabB,Array.reduceGetElem?,upG,up,nth,lay,rcB,rnm,rnmL,wrB,pcB,res13,res14,res17,res18,Option.isNone,lhB,z,liB]
    repeat (refine ⟨by omega, ?_⟩)
    exact intoR_drop hgood (by simp [ok, okL]) (h0 e)
set_option maxHeartbeats 4000000 in
theorem c14 (m : Msg) (ho : wfM m) (l : List SV) (h : List Chunk) (hm : MsgH h m l) (K : Tok → SV → List Chunk → Prop) (h0 : may m ≠ 0 → K .mk (.tup [.v (.slice none 0 0), .int .i64 (may m)]) h) (h1 : may m = 0 → 1048576 < (enc m).length → K .mk (.tup [.v (.slice none 0 0), .int .i64 2]) h) (h2 : may m = 0 → (enc m).length ≤ 1048576 → ∀ H' k', Ext (fun _ => False) h H' → h.length ≤ k' → lookH H' k' = .row true (enc m).length 1 (fun i => .int .u8 (nat ((enc m).getD i 0))) → K .mk (.tup [.osl k' 0 0 1 (enc m).length, .int .i64 0]) H') : callP Try.prog 14 [.agg l] h K := by
  refine callP_good fun hgood => ?_
  obtain ⟨xk, xf, xv, xs, xd, xkb, xnb, xkbs, xnbs, xkp, xnp, xkq, xnq, xkey, xof, rfl⟩ := hm.open
  have hE0 : Ext (fun _ => False) h (h ++ [Chunk.cells true [.int .i64 xk, .int .i64 xf, .int .i64 xv, .int .i64 xs, .fam 32 1 fun i => .int .u8 (nat (xd i)), .osl xkb 0 0 1 xnb, .osl xkbs 0 0 1 xnbs, .osl xkp 0 0 73 xnp, .osl xkq 0 0 74 xnq, .int .i64 xkey, .fam 32 1 fun i => .int .u8 (nat (xof i))]]) := (Ext.refl _ _).app _
  refine callP_of_code tabOk Try.func14 (by kernel_rfl) rfl (Nat.le_of_ble_eq_true rfl) (codeP_of_vc (pl := np) tabOk follows_mixed (by kernel_rfl) ?_)
  rw [Try.ntmps14]
  simp -implicitDefEqProofs (maxSteps := 1000000) (disch := omega) only [↓vcB,↓gd,↓opP,↓qv,↓ef,↓bslS,↓stS,↓mkS,↓rangeS,↓nextS,↓entryS,↓delS,↓mupS,↓appS,↓s2bS,↓resS,evB,Sx.look,slot,↓lkL,putS,putO,argsL,↓reduceIte,ofV,of1,lookH,putH,List.replicate,List.append,convS,fldA,nthT,idxA,idxS,fldS,oslN,bnd,slS,unS,valI,lenS,lookS,takeC,psB,asRow,csB,rdF,Ent.row,ldS,sz,szL,wrF,bldF,plT,bldS,srcS,nilS,nilEq,mapC,binH,binS2,structS,eqL,eqF,binS,arrS,isI,tupS,stor,storL,Value.oneCell',minS,maxS,capS,Nat.reduceAdd,Nat.reduceSub,Nat.reduceMul,Nat.reduceLT,Nat.reduceLeDiff,Nat.reduceEqDiff,Nat.reduceBEq,Int.reduceToNat,Int.reduceNeg,if_true,if_false,reduceIte,stays,inL,same1,qn,ldN,convN,lenN,cond_true,cond_false,implies_true,Int.reduceEq,Int.reduceNe,Int.reduceLE,Int.reduceLT,forall_eq_or_imp,forall_eq,ne_eq,reduceCtorEq,notInt,numB,tabB,Array.reduceGetElem?,upG,up,nth,lay,rcB,rnm,rnmL,wrB,pcB,res13,res14,res17,res18,Option.isNone,lhB,liB]
  repeat (refine ⟨by omega, ?_⟩)
  refine c16 m _ _ (hm.ext hE0) _ ?_
  by_cases e : may m = 0
  · have z : (may m != 0) = false := by rw [e]; rfl
    obtain ⟨C, hC⟩ : ∃ C, C = enc m := ⟨_, rfl⟩
    have hb := c52 m ho _ _ (hm.ext hE0) (Nat.le_trans (enc_small ho e) (by decide))
    rw [← hC] at hb h1 h2
    simp -implicitDefEqProofs (maxSteps := 1000000) (disch := omega) only [↓vcB,↓gd,↓opP,↓qv,↓ef,↓bslS,↓stS,↓mkS,↓rangeS,↓nextS,↓entryS,↓delS,↓mupS,↓appS,↓s2bS,↓resS,evB,Sx.look,slot,↓lkL,putS,putO,argsL,↓reduceIte,ofV,of1,lookH,putH,List.replicate,List.append,convS,fldA,nthT,idxA,idxS,fldS,oslN,bnd,slS,unS,valI,lenS,lookS,takeC,psB,asRow,csB,rdF,Ent.row,ldS,sz,szL,wrF,bldF,plT,bldS,srcS,nilS,nilEq,mapC,binH,binS2,structS,eqL,eqF,binS,arrS,isI,tupS,stor,storL,Value.oneCell',minS,maxS,capS,Nat.reduceAdd,Nat.reduceSub,Nat.reduceMul,Nat.reduceLT,Nat.reduceLeDiff,Nat.reduceEqDiff,Nat.reduceBEq,Int.reduceToNat,Int.reduceNeg,if_true,if_false,reduceIte,stays,inL,same1,qn,ldN,convN,lenN,cond_true,cond_false,implies_true,Int.reduceEq,Int.reduceNe,Int.reduceLE,Int.reduceLT,forall_eq_or_imp,forall_eq,ne_eq,reduceCtorEq,notInt,numB,tabB,Array.reduceGetElem?,upG,up,nth,lay,rcB,rnm,rnmL,wrB,pcB,res13,res14,res17,res18,Option.isNone,lhB,z,liB]
    repeat (refine ⟨by omega, ?_⟩)
    refine hb _ ?_
    intro H m1 hE hm1 hrow
    have hE1 := hE0.trans hE
    have hl1 := hE1.1
    rw [List.length_append] at hm1
    by_cases c : 1048576 < C.length
    · have z2 : decide (((C.length : Nat) : Int) > 1048576) = true := decide_eq_true (by omega)
      simp -implicitDefEqProofs (maxSteps := 1000000) (disch := omega) only [↓vcB,↓gd,↓opP,↓qv,↓ef,↓bslS,↓stS,↓mkS,↓rangeS,↓nextS,↓entryS,↓delS,↓mupS,↓appS,↓s2bS,↓resS,evB,Sx.look,slot,↓lkL,putS,putO,argsL,↓reduceIte,ofV,of1,lookH,putH,List.replicate,List.append,convS,fldA,nthT,idxA,idxS,fldS,oslN,bnd,slS,unS,valI,lenS,lookS,takeC,psB,asRow,csB,rdF,Ent.row,ldS,sz,szL,wrF,bldF,plT,bldS,srcS,nilS,nilEq,mapC,binH,binS2,structS,eqL,eqF,binS,arrS,isI,tupS,stor,storL,Value.oneCell',minS,maxS,capS,Nat.reduceAdd,Nat.reduceSub,Nat.reduceMul,Nat.reduceLT,Nat.reduceLeDiff,Nat.reduceEqDiff,Nat.reduceBEq,Int.reduceToNat,Int.reduceNeg,if_true,if_false,reduceIte,stays,inL,same1,qn,ldN,convN,lenN,cond_true,cond_false,implies_true,Int.reduceEq,Int.reduceNe,Int.reduceLE,Int.reduceLT,forall_eq_or_imp,forall_eq,ne_eq,reduceCtorEq,notInt,numB,tabB,Array.reduceGetElem?,upG,up,nth,lay,rcB,rnm,rnmL,wrB,pcB,res13,res14,res17,res18,Option.isNone,lhB,z2,liB]
      repeat (refine ⟨by omega, ?_⟩)
      have hx : H = h ++ H.drop h.length := ext_eq hE1
      rw [hx]
      exact intoR_drop hgood (by simp [ok, okL]) (h1 e c)
    · have z2 : decide (((C.length : Nat) : Int) > 1048576) = false := decide_eq_false (by omega)
      simp -implicitDefEqProofs (maxSteps := 1000000) (disch := omega) only [↓vcB,↓gd,↓opP,↓qv,↓ef,↓bslS,↓stS,↓mkS,↓rangeS,↓nextS,↓entryS,↓delS,↓mupS,↓appS,↓s2bS,↓resS,evB,Sx.look,slot,↓lkL,putS,putO,argsL,↓reduceIte,ofV,of1,lookH,putH,List.replicate,List.append,convS,fldA,nthT,idxA,idxS,fldS,oslN,bnd,slS,unS,valI,lenS,lookS,takeC,psB,asRow,csB,rdF,Ent.row,ldS,sz,szL,wrF,bldF,plT,bldS,srcS,nilS,nilEq,mapC,binH,binS2,structS,eqL,eqF,binS,arrS,isI,tupS,stor,storL,Value.oneCell',minS,maxS,capS,Nat.reduceAdd,Nat.reduceSub,Nat.reduceMul,Nat.reduceLT,Nat.reduceLeDiff,Nat.reduceEqDiff,Nat.reduceBEq,Int.reduceToNat,Int.reduceNeg,if_true,if_false,reduceIte,stays,inL,same1,qn,ldN,convN,lenN,cond_true,cond_false,implies_true,Int.reduceEq,Int.reduceNe,Int.reduceLE,Int.reduceLT,forall_eq_or_imp,forall_eq,ne_eq,reduceCtorEq,notInt,numB,tabB,Array.reduceGetElem?,upG,up,nth,lay,rcB,rnm,rnmL,wrB,pcB,res13,res14,res17,res18,Option.isNone,lhB,z2,liB]
      repeat (refine ⟨by omega, ?_⟩)
      exact intoR_refl hl1 (h2 e (by omega) _ _ hE1 (by omega) hrow)
  · have z : (may m != 0) = true := bne_iff_ne.2 e
    simp -implicitDefEqProofs (maxSteps := 1000000) (disch := omega) only [↓vcB,↓gd,↓opP,↓qv,↓ef,↓bslS,↓stS,↓mkS,↓rangeS,↓nextS,↓entryS,↓delS,↓mupS,↓appS,↓s2bS,↓resS,evB,Sx.look,slot,↓lkL,putS,putO,argsL,↓reduceIte,ofV,of1,lookH,putH,List.replicate,List.append,convS,fldA,nthT,idxA,idxS,fldS,oslN,bnd,slS,unS,valI,lenS,lookS,takeC,psB,asRow,csB,rdF,Ent.row,ldS,sz,szL,wrF,bldF,plT,bldS,srcS,nilS,nilEq,mapC,binH,binS2,structS,eqL,eqF,binS,arrS,isI,tupS,stor,storL,Value.oneCell',minS,maxS,capS,Nat.reduceAdd,Nat.reduceSub,Nat.reduceMul,Nat.reduceLT,Nat.reduceLeDiff,Nat.reduceEqDiff,Nat.reduceBEq,Int.reduceToNat,Int.reduceNeg,if_true,if_false,reduceIte,stays,inL,same1,qn,ldN,convN,lenN,cond_true,cond_false,implies_true,Int.reduceEq,Int.reduceNe,Int.reduceLE,Int.reduceLT,forall_eq_or_imp,forall_eq,ne_eq,reduceCtorEq,notInt,numB,tabB,Array.reduceGetElem?,upG,up,nth,lay,rcB,rnm,rnmL,wrB,pcB,res13,res14,res17,res18,Option.isNone,lhB,z,liB]
    repeat (refine ⟨by omega, ?_⟩)
    exact intoR_drop hgood (by simp [ok, okL]) (h0 e)
end Go.Proofs.Ytgocfglmideobaa

set_option linter.all false
set_option maxRecDepth 40000
namespace Go.Proofs.Ytgocfglmideobaa
open Go Go.Sx

theorem MsgsH.mk {h : List Chunk} : ∀ {p : List Msg} {f : Nat → List SV}, (∀ i (hi : i < p.length), MsgH h p[i] (f i)) → MsgsH h p f
  | [], _, _ => by rw [MsgsH]; trivial
  | m :: l, f, H => by
    rw [MsgsH]
    exact ⟨H 0 (by simp), MsgsH.mk fun i hi => H (i + 1) (by simpa using hi)⟩
theorem MsgsH.app {h : List Chunk} {a b : List Msg} {f g F : Nat → List SV} (ha : MsgsH h a f) (hb : MsgsH h b g) (h1 : ∀ i, i < a.length → F i = f i) (h2 : ∀ i, i < b.length → F (a.length + i) = g i) : MsgsH h (a ++ b) F := MsgsH.mk fun i hi => by
  by_cases c : i < a.length
  · rw [h1 i c, List.getElem_append_left c]
    exact ha.get c
  · have hi2 : i - a.length < b.length := by rw [List.length_append] at hi; omega
    have hF := h2 _ hi2
    rw [Nat.add_sub_cancel' (Nat.le_of_not_lt c)] at hF
    rw [List.getElem_append_right (by omega), hF]
    exact hb.get hi2
/-- What a function that answers messages leaves. -/
abbrev OutM (F : Nat → Prop) (H : List Chunk) (l : List Msg) (K : Tok → SV → List Chunk → Prop) : Prop :=
  ∀ H' k' f, Ext F H H' → H.length ≤ k' → lookH H' k' = .row true l.length 73 (fun i => .agg (f i)) → MsgsH H' l f → K .mk (.osl k' 0 0 73 l.length) H'
mutual
def blkM : Msg → Nat
  | .mk k f v s d b bs p q key of => 1 + blkL p + blkQ q
def blkL : List Msg → Nat
  | [] => 0
  | m :: l => blkM m + blkL l
def blkQ : List (Msg × List Msg) → Nat
  | [] => 0
  | (m, l) :: r => 1 + (blkM m + blkL l) + blkQ r
end
theorem blkM_pos (m : Msg) : 1 ≤ blkM m := by
  cases m with
  | mk => rw [blkM]; omega
theorem blkL_len : ∀ l : List Msg, l.length ≤ blkL l
  | [] => Nat.zero_le _
  | m :: l => by
    rw [blkL, List.length_cons]
    have := blkM_pos m
    have := blkL_len l
    omega
theorem blkL_app : ∀ a b : List Msg, blkL (a ++ b) = blkL a + blkL b
  | [], b => by simp [blkL]
  | m :: a, b => by rw [List.cons_append, blkL, blkL, blkL_app a b]; omega
def flat (q : List (Msg × List Msg)) : List Msg := q.flatMap fun x => x.1 :: x.2
theorem blkQ_flat : ∀ q : List (Msg × List Msg), blkL (flat q) + q.length = blkQ q
  | [] => by simp [flat, blkL, blkQ]
  | (m, l) :: r => by
    have := blkQ_flat r
    unfold flat at this ⊢
    rw [List.flatMap_cons, blkL_app, blkL, blkQ, List.length_cons]
    show blkM m + blkL l + blkL (List.flatMap (fun x => x.1 :: x.2) r) + (r.length + 1) = _
    omega
theorem blk_inside (m : Msg) : blkL (inside m) + m.prepared.length + 1 = blkM m := by
  obtain ⟨k, f, v, s, d, b, bs, p, q, key, of⟩ := m
  show blkL (p ++ flat q) + q.length + 1 = _
  rw [blkL_app, blkM]
  have := blkQ_flat q
  omega
theorem blkL_mem : ∀ {l : List Msg}, ∀ m ∈ l, blkM m ≤ blkL l
  | [], m, hm => by cases hm
  | a :: l, m, hm => by
    rw [blkL]
    rcases List.mem_cons.1 hm with rfl | hm
    · omega
    · have := blkL_mem m hm
      omega
/-- What is a row stays one. -/
def ExtR (h h' : List Chunk) : Prop := ∀ k w n s f, lookH h k = .row w n s f → lookH h' k = .row w n s f
theorem rowB.extR {h h' : List Chunk} {sv : SV} {b : List By} (H : rowB h sv b) (hE : ExtR h h') : rowB h' sv b := by
  obtain ⟨k, w, e, hk⟩ := H
  exact ⟨k, w, e, hE _ _ _ _ _ hk⟩
theorem rowBs.extR {h h' : List Chunk} {sv : SV} {b : List (List By)} (H : rowBs h sv b) (hE : ExtR h h') : rowBs h' sv b := by
  obtain ⟨k, w, f, e, hk, hb⟩ := H
  exact ⟨k, w, f, e, hE _ _ _ _ _ hk, fun i hi => (hb i hi).extR hE⟩
mutual
theorem MsgH.extR {h h' : List Chunk} (hE : ExtR h h') : ∀ {m : Msg} {l : List SV}, MsgH h m l → MsgH h' m l
  | .mk kind frm view seq dig b bs p q key of, l, H => by
    rw [MsgH] at H ⊢
    obtain ⟨sb, sbs, kp, wp, fp, kq, wq, fq, e, h1, h2, h3, h4, h5, h6⟩ := H
    exact ⟨sb, sbs, kp, wp, fp, kq, wq, fq, e, h1.extR hE, h2.extR hE, hE _ _ _ _ _ h3, MsgsH.extR hE h4, hE _ _ _ _ _ h5, PrepsH.extR hE h6⟩
theorem MsgsH.extR {h h' : List Chunk} (hE : ExtR h h') : ∀ {p : List Msg} {f : Nat → List SV}, MsgsH h p f → MsgsH h' p f
  | [], _, _ => by rw [MsgsH]; trivial
  | m :: l, f, H => by
    rw [MsgsH] at H ⊢
    exact ⟨MsgH.extR hE H.1, MsgsH.extR hE H.2⟩
theorem PrepsH.extR {h h' : List Chunk} (hE : ExtR h h') : ∀ {p : List (Msg × List Msg)} {f : Nat → List SV}, PrepsH h p f → PrepsH h' p f
  | [], _, _ => by rw [PrepsH]; trivial
  | (m, l) :: r, f, H => by
    rw [PrepsH] at H ⊢
    obtain ⟨⟨lm, kl, wl, fl, e, h1, h2, h3⟩, h4⟩ := H
    exact ⟨⟨lm, kl, wl, fl, e, MsgH.extR hE h1, hE _ _ _ _ _ h2, MsgsH.extR hE h3⟩, PrepsH.extR hE h4⟩
end
theorem ext_rows {h h' : List Chunk} {N : Nat → Prop} (hE : Ext N h h') (hN : ∀ k, N k → ∀ w n s f, lookH h k ≠ .row w n s f) : ExtR h h' := fun k w n s f hk => hE.look hk (by simp) fun hn => hN k hn _ _ _ _ hk
theorem sim_4 {A : List Chunk} {c1 c2 c3 c c' : Chunk} (hc : chSim c c') : Sim (A ++ [c1, c2, c3, c]) (A ++ [c1, c2, c3, c']) := by
  have := sim_last (A := A ++ [c1, c2, c3]) hc
  simpa using this
theorem putH_at (l : List Chunk) (c : Chunk) : ∀ {h : List Chunk} {k : Nat}, k < h.length → putH (h ++ l) k c = putH h k c ++ l
  | [], k, hk => absurd hk (Nat.not_lt_zero _)
  | x :: h, 0, hk => rfl
  | x :: h, k + 1, hk => by
    show x :: putH (h ++ l) k c = x :: (putH h k c ++ l)
    rw [putH_at l c (by simpa using hk)]
theorem lookH_pA (l : List Chunk) (c : Chunk) (h : List Chunk) (m j : Nat) : lookH (putH h m c ++ l) (h.length + j) = lookH l j := by
  have := lookH_app l j (putH h m c)
  rwa [putH_len] at this
theorem lookH_pA0 (l : List Chunk) (c : Chunk) (h : List Chunk) (m : Nat) : lookH (putH h m c ++ l) h.length = lookH l 0 := lookH_pA l c h m 0
theorem putH_pA (l : List Chunk) (c d : Chunk) (h : List Chunk) (m j : Nat) : putH (putH h m c ++ l) (h.length + j) d = putH h m c ++ putH l j d := by
  have := putH_app l d j (putH h m c)
  rwa [putH_len] at this
theorem lookH_pB (l : List Chunk) (c : Chunk) {h : List Chunk} {m k : Nat} (hk : k < h.length) : lookH (putH h m c ++ l) k = lookH (putH h m c) k := lookH_at l (by rw [putH_len]; exact hk)
end Go.Proofs.Ytgocfglmideobaa
