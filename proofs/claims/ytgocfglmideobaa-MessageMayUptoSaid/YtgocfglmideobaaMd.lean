/- Texts put together: Contracts of functions that the laws reach, by the symbolic executor. No condition. -/
import Derived.Test.YtgocfglmideobaaMc
set_option linter.all false
set_option maxRecDepth 40000
namespace Go.Proofs.Ytgocfglmideobaa
open Go Go.Sx
theorem res56 : Try.f56.results.toList = [.tmp 4] := rfl
theorem mayBs_drop (bs : List (List By)) {i : Nat} (hi : i < bs.length) : mayBs (bs.drop i) = if mayB (bs.getD i []) = 0 then mayBs (bs.drop (i + 1)) else mayB (bs.getD i []) := by
  rw [List.drop_eq_getElem_cons hi, mayBs, List.getD_eq_getElem?_getD, List.getElem?_eq_getElem hi]
  rfl
set_option maxHeartbeats 4000000 in
theorem c56 (k f v s : Int) (d : Nat → By) (b : List By) (bs : List (List By)) (p : List Msg) (q : List (Msg × List Msg)) (key : Int) (of : Nat → By) (l : List SV) (h : List Chunk) (hm : MsgH h (.mk k f v s d b bs p q key of) l) (K : Tok → SV → List Chunk → Prop) (hK : K .mk (.int .i64 (mayBuns k b bs)) h) : callP Try.prog 56 [.agg l, hasS k] h K := by
  rw [MsgH] at hm
  obtain ⟨sb, sbs, kp, wp, fp, kq, wq, fq, rfl, h1, h2, h3, h4, h5, h6⟩ := hm
  have h1' := h1
  obtain ⟨kb, wb, rfl, hkb⟩ := h1'
  obtain ⟨kbs, wbs, fb, rfl, hkbs, hfb⟩ := h2
  unfold dig32
  refine callP_good fun hgood => ?_
  refine callP_of_code tabOk Try.func56 (by kernel_rfl) rfl (Nat.le_of_ble_eq_true rfl) ?_
  rw [Try.ntmps56]
  unfold hasS
  refine codeP_seq (pl := np) tabOk follows_mixed (by kernel_rfl) (fun st => ∃ (H1 x : List Chunk) (j : Nat → Value), H1 = h ++ x ∧ lookH H1 h.length = (.cells true [.int .i64 k, .int .i64 f, .int .i64 v, .int .i64 s, .fam 32 1 fun i => .int .u8 (nat (d i)), .osl kb 0 0 1 b.length, .osl kbs 0 0 1 bs.length, .osl kp 0 0 73 p.length, .osl kq 0 0 74 q.length, .int .i64 key, .fam 32 1 fun i => .int .u8 (nat (of i))]) ∧ lookH H1 (h.length + 1) = (.cells true [.bool (hView k), .bool (hSeq k), .bool (hDig k), .bool (hBun k), .bool (hBuns k), .bool (hProof k), .bool (hPrep k), .bool (hPreps k), .int .i64 (if k = 7 then 6 else if k = 6 ∨ k = 9 then 5 else 0)]) ∧ st = ⟨⟨54, [(2, .ptr h.length 0), (3, .ptr (h.length + 1) 0), (4, .int .i64 0)], j⟩, H1, []⟩) ?_ ?_
  · simp -implicitDefEqProofs (maxSteps := 1000000) (disch := omega) only [↓vcB,↓gd,↓opP,↓qv,↓ef,↓bslS,↓stS,↓mkS,↓rangeS,↓nextS,↓entryS,↓delS,↓mupS,↓appS,↓s2bS,↓resS,evB,Sx.look,slot,↓lkL,putS,putO,argsL,↓reduceIte,ofV,of1,lookH,putH,List.replicate,List.append,convS,fldA,nthT,idxA,idxS,fldS,oslN,bnd,slS,unS,valI,lenS,lookS,takeC,psB,asRow,csB,rdF,Ent.row,ldS,sz,szL,wrF,bldF,plT,bldS,srcS,nilS,nilEq,mapC,binH,binS2,structS,eqL,eqF,binS,arrS,isI,tupS,stor,storL,Value.oneCell',minS,maxS,capS,Nat.reduceAdd,Nat.reduceSub,Nat.reduceMul,Nat.reduceLT,Nat.reduceLeDiff,Nat.reduceEqDiff,Nat.reduceBEq,Int.reduceToNat,Int.reduceNeg,if_true,if_false,reduceIte,stays,inL,same1,qn,ldN,convN,lenN,cond_true,cond_false,implies_true,Int.reduceEq,Int.reduceNe,Int.reduceLE,Int.reduceLT,forall_eq_or_imp,forall_eq,ne_eq,reduceCtorEq,notInt,numB,tabB,Array.reduceGetElem?,upG,up,nth,lay,rcB,rnm,rnmL,wrB,pcB,res56,Option.isNone,lhB,liB]
    repeat (refine ⟨by omega, ?_⟩)
    refine into_keep [(2, .ptr h.length 0), (3, .ptr (h.length + 1) 0), (4, .int .i64 0)] (by simp [sameT, slot, lkL]) fun j => ⟨_, _, j, rfl, lookH_app _ 0 _, lookH_app _ 1 _, rfl⟩
  · rintro _ ⟨H1, x, j, hH1, hx, hy, rfl⟩
    have hE : Ext (fun _ => False) h H1 := by rw [hH1]; exact (Ext.refl _ _).app _
    have hkbs1 := hE.look hkbs (by simp) fun h => h
    have drop : ∀ e, mayBuns k b bs = e → IntoR h.length (.int .i64 e) H1 K := fun e he => by
      rw [he] at hK
      rw [hH1]
      exact intoR_drop hgood trivial hK
    obtain ⟨NB, hNB⟩ : ∃ NB : Prop, NB ↔ ¬ (hBun k = true ∧ mayB b ≠ 0) := ⟨_, Iff.rfl⟩
    obtain ⟨NC, hNC⟩ : ∃ NC : Prop, NC ↔ ¬ ((hBun k = false ∧ 0 < b.length) ∨ (hBuns k = false ∧ 0 < bs.length)) := ⟨_, Iff.rfl⟩
    refine codeP_seq (pl := np) tabOk follows_mixed (by kernel_rfl) (fun st => ∃ (j : Nat → Value), NB ∧ st = ⟨⟨54, [(2, .ptr h.length 0), (3, .ptr (h.length + 1) 0), (4, .int .i64 0)], j⟩, H1, []⟩) ?_ ?_
    · cases z1 : hBun k with
      | true =>
        simp -implicitDefEqProofs (maxSteps := 1000000) (disch := omega) only [↓vcB,↓gd,↓opP,↓qv,↓ef,↓bslS,↓stS,↓mkS,↓rangeS,↓nextS,↓entryS,↓delS,↓mupS,↓appS,↓s2bS,↓resS,evB,Sx.look,slot,↓lkL,putS,putO,argsL,↓reduceIte,ofV,of1,lookH,putH,List.replicate,List.append,convS,fldA,nthT,idxA,idxS,fldS,oslN,bnd,slS,unS,valI,lenS,lookS,takeC,psB,asRow,csB,rdF,Ent.row,ldS,sz,szL,wrF,bldF,plT,bldS,srcS,nilS,nilEq,mapC,binH,binS2,structS,eqL,eqF,binS,arrS,isI,tupS,stor,storL,Value.oneCell',minS,maxS,capS,Nat.reduceAdd,Nat.reduceSub,Nat.reduceMul,Nat.reduceLT,Nat.reduceLeDiff,Nat.reduceEqDiff,Nat.reduceBEq,Int.reduceToNat,Int.reduceNeg,if_true,if_false,reduceIte,stays,inL,same1,qn,ldN,convN,lenN,cond_true,cond_false,implies_true,Int.reduceEq,Int.reduceNe,Int.reduceLE,Int.reduceLT,forall_eq_or_imp,forall_eq,ne_eq,reduceCtorEq,notInt,numB,tabB,Array.reduceGetElem?,upG,up,nth,lay,rcB,rnm,rnmL,wrB,pcB,res56,Option.isNone,lhB,hx,hy,z1,liB]
        repeat (refine ⟨by omega, ?_⟩)
        refine c103 b _ H1 (h1.ext hE) _ ?_
        by_cases e : mayB b = 0
        · have z2 : (mayB b != 0) = false := by rw [e]; rfl
          simp -implicitDefEqProofs (maxSteps := 1000000) (disch := omega) only [↓vcB,↓gd,↓opP,↓qv,↓ef,↓bslS,↓stS,↓mkS,↓rangeS,↓nextS,↓entryS,↓delS,↓mupS,↓appS,↓s2bS,↓resS,evB,Sx.look,slot,↓lkL,putS,putO,argsL,↓reduceIte,ofV,of1,lookH,putH,List.replicate,List.append,convS,fldA,nthT,idxA,idxS,fldS,oslN,bnd,slS,unS,valI,lenS,lookS,takeC,psB,asRow,csB,rdF,Ent.row,ldS,sz,szL,wrF,bldF,plT,bldS,srcS,nilS,nilEq,mapC,binH,binS2,structS,eqL,eqF,binS,arrS,isI,tupS,stor,storL,Value.oneCell',minS,maxS,capS,Nat.reduceAdd,Nat.reduceSub,Nat.reduceMul,Nat.reduceLT,Nat.reduceLeDiff,Nat.reduceEqDiff,Nat.reduceBEq,Int.reduceToNat,Int.reduceNeg,if_true,if_false,reduceIte,stays,inL,same1,qn,ldN,convN,lenN,cond_true,cond_false,implies_true,Int.reduceEq,Int.reduceNe,Int.reduceLE,Int.reduceLT,forall_eq_or_imp,forall_eq,ne_eq,reduceCtorEq,notInt,numB,tabB,Array.reduceGetElem?,upG,up,nth,lay,rcB,rnm,rnmL,wrB,pcB,res56,Option.isNone,lhB,hx,hy,z1,z2,liB]
          repeat (refine ⟨by omega, ?_⟩)
          refine into_keep [(2, .ptr h.length 0), (3, .ptr (h.length + 1) 0), (4, .int .i64 0)] (by simp [sameT, slot, lkL]) fun j => ⟨j, hNB.2 fun h => h.2 e, rfl⟩
        · have z2 : (mayB b != 0) = true := bne_iff_ne.2 e
          simp -implicitDefEqProofs (maxSteps := 1000000) (disch := omega) only [↓vcB,↓gd,↓opP,↓qv,↓ef,↓bslS,↓stS,↓mkS,↓rangeS,↓nextS,↓entryS,↓delS,↓mupS,↓appS,↓s2bS,↓resS,evB,Sx.look,slot,↓lkL,putS,putO,argsL,↓reduceIte,ofV,of1,lookH,putH,List.replicate,List.append,convS,fldA,nthT,idxA,idxS,fldS,oslN,bnd,slS,unS,valI,lenS,lookS,takeC,psB,asRow,csB,rdF,Ent.row,ldS,sz,szL,wrF,bldF,plT,bldS,srcS,nilS,nilEq,mapC,binH,binS2,structS,eqL,eqF,binS,arrS,isI,tupS,stor,storL,Value.oneCell',minS,maxS,capS,Nat.reduceAdd,Nat.reduceSub,Nat.reduceMul,Nat.reduceLT,Nat.reduceLeDiff,Nat.reduceEqDiff,Nat.reduceBEq,Int.reduceToNat,Int.reduceNeg,if_true,if_false,reduceIte,stays,inL,same1,qn,ldN,convN,lenN,cond_true,cond_false,implies_true,Int.reduceEq,Int.reduceNe,Int.reduceLE,Int.reduceLT,forall_eq_or_imp,forall_eq,ne_eq,reduceCtorEq,notInt,numB,tabB,Array.reduceGetElem?,upG,up,nth,lay,rcB,rnm,rnmL,wrB,pcB,res56,Option.isNone,lhB,hx,hy,z1,z2,liB]
          repeat (refine ⟨by omega, ?_⟩)
          exact drop _ (by unfold mayBuns; rw [if_pos ⟨z1, e⟩])
      | false =>
        simp -implicitDefEqProofs (maxSteps := 1000000) (disch := omega) only [↓vcB,↓gd,↓opP,↓qv,↓ef,↓bslS,↓stS,↓mkS,↓rangeS,↓nextS,↓entryS,↓delS,↓mupS,↓appS,↓s2bS,↓resS,evB,Sx.look,slot,↓lkL,putS,putO,argsL,↓reduceIte,ofV,of1,lookH,putH,List.replicate,List.append,convS,fldA,nthT,idxA,idxS,fldS,oslN,bnd,slS,unS,valI,lenS,lookS,takeC,psB,asRow,csB,rdF,Ent.row,ldS,sz,szL,wrF,bldF,plT,bldS,srcS,nilS,nilEq,mapC,binH,binS2,structS,eqL,eqF,binS,arrS,isI,tupS,stor,storL,Value.oneCell',minS,maxS,capS,Nat.reduceAdd,Nat.reduceSub,Nat.reduceMul,Nat.reduceLT,Nat.reduceLeDiff,Nat.reduceEqDiff,Nat.reduceBEq,Int.reduceToNat,Int.reduceNeg,if_true,if_false,reduceIte,stays,inL,same1,qn,ldN,convN,lenN,cond_true,cond_false,implies_true,Int.reduceEq,Int.reduceNe,Int.reduceLE,Int.reduceLT,forall_eq_or_imp,forall_eq,ne_eq,reduceCtorEq,notInt,numB,tabB,Array.reduceGetElem?,upG,up,nth,lay,rcB,rnm,rnmL,wrB,pcB,res56,Option.isNone,lhB,hx,hy,z1,liB]
        repeat (refine ⟨by omega, ?_⟩)
        refine into_keep [(2, .ptr h.length 0), (3, .ptr (h.length + 1) 0), (4, .int .i64 0)] (by simp [sameT, slot, lkL]) fun j => ⟨j, hNB.2 (fun h => by rw [z1] at h; cases h.1), rfl⟩
    · rintro _ ⟨j1, hb0, rfl⟩
      have nb0 := hNB.1 hb0
      refine codeP_seq (pl := np) tabOk follows_mixed (by kernel_rfl) (fun st => ∃ (j : Nat → Value), NC ∧ bs.length ≤ 512 ∧ st = ⟨⟨54, [(2, .ptr h.length 0), (3, .ptr (h.length + 1) 0), (4, .int .i64 0)], j⟩, H1, []⟩) ?_ ?_
      · by_cases c1 : hBun k = false ∧ 0 < b.length
        · have z3 : decide (((b.length : Nat) : Int) > 0) = true := decide_eq_true (by omega)
          have z1 := c1.1
          simp -implicitDefEqProofs (maxSteps := 1000000) (disch := omega) only [↓vcB,↓gd,↓opP,↓qv,↓ef,↓bslS,↓stS,↓mkS,↓rangeS,↓nextS,↓entryS,↓delS,↓mupS,↓appS,↓s2bS,↓resS,evB,Sx.look,slot,↓lkL,putS,putO,argsL,↓reduceIte,ofV,of1,lookH,putH,List.replicate,List.append,convS,fldA,nthT,idxA,idxS,fldS,oslN,bnd,slS,unS,valI,lenS,lookS,takeC,psB,asRow,csB,rdF,Ent.row,ldS,sz,szL,wrF,bldF,plT,bldS,srcS,nilS,nilEq,mapC,binH,binS2,structS,eqL,eqF,binS,arrS,isI,tupS,stor,storL,Value.oneCell',minS,maxS,capS,Nat.reduceAdd,Nat.reduceSub,Nat.reduceMul,Nat.reduceLT,Nat.reduceLeDiff,Nat.reduceEqDiff,Nat.reduceBEq,Int.reduceToNat,Int.reduceNeg,if_true,if_false,reduceIte,stays,inL,same1,qn,ldN,convN,lenN,cond_true,cond_false,implies_true,Int.reduceEq,Int.reduceNe,Int.reduceLE,Int.reduceLT,forall_eq_or_imp,forall_eq,ne_eq,reduceCtorEq,notInt,numB,tabB,Array.reduceGetElem?,upG,up,nth,lay,rcB,rnm,rnmL,wrB,pcB,res56,Option.isNone,lhB,hx,hy,z1,z3,liB]
          repeat (refine ⟨by omega, ?_⟩)
          exact drop _ (by unfold mayBuns; rw [if_neg nb0, if_pos (.inl c1)])
        · have hc5 : ∀ {P : Prop}, (hBun k = true → P) → (hBun k = false → decide (((b.length : Nat) : Int) > 0) = false → P) → P := fun a c => by
            cases z : hBun k with
            | true => exact a z
            | false => exact c z (decide_eq_false (fun h => c1 ⟨z, by omega⟩))
          by_cases c2 : hBuns k = false ∧ 0 < bs.length
          · have z5 : decide (((bs.length : Nat) : Int) > 0) = true := decide_eq_true (by omega)
            have z4 := c2.1
            refine hc5 (fun z1 => ?_) fun z1 z3 => ?_
            · simp -implicitDefEqProofs (maxSteps := 1000000) (disch := omega) only [↓vcB,↓gd,↓opP,↓qv,↓ef,↓bslS,↓stS,↓mkS,↓rangeS,↓nextS,↓entryS,↓delS,↓mupS,↓appS,↓s2bS,↓resS,evB,Sx.look,slot,↓lkL,putS,putO,argsL,↓reduceIte,ofV,of1,lookH,putH,List.replicate,List.append,convS,fldA,nthT,idxA,idxS,fldS,oslN,bnd,slS,unS,valI,lenS,lookS,takeC,psB,asRow,csB,rdF,Ent.row,ldS,sz,szL,wrF,bldF,plT,bldS,srcS,nilS,nilEq,mapC,binH,binS2,structS,eqL,eqF,binS,arrS,isI,tupS,stor,storL,Value.oneCell',minS,maxS,capS,Nat.reduceAdd,Nat.reduceSub,Nat.reduceMul,Nat.reduceLT,Nat.reduceLeDiff,Nat.reduceEqDiff,Nat.reduceBEq,Int.reduceToNat,Int.reduceNeg,if_true,if_false,reduceIte,stays,inL,same1,qn,ldN,convN,lenN,cond_true,cond_false,implies_true,Int.reduceEq,Int.reduceNe,Int.reduceLE,Int.reduceLT,forall_eq_or_imp,forall_eq,ne_eq,reduceCtorEq,notInt,numB,tabB,Array.reduceGetElem?,upG,up,nth,lay,rcB,rnm,rnmL,wrB,pcB,res56,Option.isNone,lhB,hx,hy,z1,z4,z5,liB]
              repeat (refine ⟨by omega, ?_⟩)
              exact drop _ (by unfold mayBuns; rw [if_neg nb0, if_pos (.inr c2)])
            · simp -implicitDefEqProofs (maxSteps := 1000000) (disch := omega) only [↓vcB,↓gd,↓opP,↓qv,↓ef,↓bslS,↓stS,↓mkS,↓rangeS,↓nextS,↓entryS,↓delS,↓mupS,↓appS,↓s2bS,↓resS,evB,Sx.look,slot,↓lkL,putS,putO,argsL,↓reduceIte,ofV,of1,lookH,putH,List.replicate,List.append,convS,fldA,nthT,idxA,idxS,fldS,oslN,bnd,slS,unS,valI,lenS,lookS,takeC,psB,asRow,csB,rdF,Ent.row,ldS,sz,szL,wrF,bldF,plT,bldS,srcS,nilS,nilEq,mapC,binH,binS2,structS,eqL,eqF,binS,arrS,isI,tupS,stor,storL,Value.oneCell',minS,maxS,capS,Nat.reduceAdd,Nat.reduceSub,Nat.reduceMul,Nat.reduceLT,Nat.reduceLeDiff,Nat.reduceEqDiff,Nat.reduceBEq,Int.reduceToNat,Int.reduceNeg,if_true,if_false,reduceIte,stays,inL,same1,qn,ldN,convN,lenN,cond_true,cond_false,implies_true,Int.reduceEq,Int.reduceNe,Int.reduceLE,Int.reduceLT,forall_eq_or_imp,forall_eq,ne_eq,reduceCtorEq,notInt,numB,tabB,Array.reduceGetElem?,upG,up,nth,lay,rcB,rnm,rnmL,wrB,pcB,res56,Option.isNone,lhB,hx,hy,z1,z3,z4,z5,liB]
              repeat (refine ⟨by omega, ?_⟩)
              exact drop _ (by unfold mayBuns; rw [if_neg nb0, if_pos (.inr c2)])
          · have nc : ¬ ((hBun k = false ∧ 0 < b.length) ∨ (hBuns k = false ∧ 0 < bs.length)) := fun h => h.elim c1 c2
            have hc6 : ∀ {P : Prop}, (hBuns k = true → P) → (hBuns k = false → decide (((bs.length : Nat) : Int) > 0) = false → P) → P := fun a c => by
              cases z : hBuns k with
              | true => exact a z
              | false => exact c z (decide_eq_false (fun h => c2 ⟨z, by omega⟩))
            by_cases c3 : bs.length > 512
            · have z6 : decide (((bs.length : Nat) : Int) > 512) = true := decide_eq_true (by omega)
              have hd := drop 18 (by unfold mayBuns; rw [if_neg nb0, if_neg nc, if_pos c3])
              refine hc5 (fun z1 => ?_) fun z1 z3 => ?_
              · refine hc6 (fun z4 => ?_) fun z4 z5 => ?_
                · simp -implicitDefEqProofs (maxSteps := 1000000) (disch := omega) only [↓vcB,↓gd,↓opP,↓qv,↓ef,↓bslS,↓stS,↓mkS,↓rangeS,↓nextS,↓entryS,↓delS,↓mupS,↓appS,↓s2bS,↓resS,evB,Sx.look,slot,↓lkL,putS,putO,argsL,↓reduceIte,ofV,of1,lookH,putH,List.replicate,List.append,convS,fldA,nthT,idxA,idxS,fldS,oslN,bnd,slS,unS,valI,lenS,lookS,takeC,psB,asRow,csB,rdF,Ent.row,ldS,sz,szL,wrF,bldF,plT,bldS,srcS,nilS,nilEq,mapC,binH,binS2,structS,eqL,eqF,binS,arrS,isI,tupS,stor,storL,Value.oneCell',minS,maxS,capS,Nat.reduceAdd,Nat.reduceSub,Nat.reduceMul,Nat.reduceLT,Nat.reduceLeDiff,Nat.reduceEqDiff,Nat.reduceBEq,Int.reduceToNat,Int.reduceNeg,if_true,if_false,reduceIte,stays,inL,same1,qn,ldN,convN,lenN,cond_true,cond_false,implies_true,Int.reduceEq,Int.reduceNe,Int.reduceLE,Int.reduceLT,forall_eq_or_imp,forall_eq,ne_eq,reduceCtorEq,notInt,numB,tabB,Array.reduceGetElem?,upG,up,nth,lay,rcB,rnm,rnmL,wrB,pcB,res56,Option.isNone,lhB,hx,hy,z1,z4,z6,liB]
                  repeat (refine ⟨by omega, ?_⟩)
                  exact hd
                · simp -implicitDefEqProofs (maxSteps := 1000000) (disch := omega) only [↓vcB,↓gd,↓opP,↓qv,↓ef,↓bslS,↓stS,↓mkS,↓rangeS,↓nextS,↓entryS,↓delS,↓mupS,↓appS,↓s2bS,↓resS,evB,Sx.look,slot,↓lkL,putS,putO,argsL,↓reduceIte,ofV,of1,lookH,putH,List.replicate,List.append,convS,fldA,nthT,idxA,idxS,fldS,oslN,bnd,slS,unS,valI,lenS,lookS,takeC,psB,asRow,csB,rdF,Ent.row,ldS,sz,szL,wrF,bldF,plT,bldS,srcS,nilS,nilEq,mapC,binH,binS2,structS,eqL,eqF,binS,arrS,isI,tupS,stor,storL,Value.oneCell',minS,maxS,capS,Nat.reduceAdd,Nat.reduceSub,Nat.reduceMul,Nat.reduceLT,Nat.reduceLeDiff,Nat.reduceEqDiff,Nat.reduceBEq,Int.reduceToNat,Int.reduceNeg,if_true,if_false,reduceIte,stays,inL,same1,qn,ldN,convN,lenN,cond_true,cond_false,implies_true,Int.reduceEq,Int.reduceNe,Int.reduceLE,Int.reduceLT,forall_eq_or_imp,forall_eq,ne_eq,reduceCtorEq,notInt,numB,tabB,Array.reduceGetElem?,upG,up,nth,lay,rcB,rnm,rnmL,wrB,pcB,res56,Option.isNone,lhB,hx,hy,z1,z4,z5,z6,liB]
                  repeat (refine ⟨by omega, ?_⟩)
                  exact hd
              · refine hc6 (fun z4 => ?_) fun z4 z5 => ?_
                · simp -implicitDefEqProofs (maxSteps := 1000000) (disch := omega) only [↓vcB,↓gd,↓opP,↓qv,↓ef,↓bslS,↓stS,↓mkS,↓rangeS,↓nextS,↓entryS,↓delS,↓mupS,↓appS,↓s2bS,↓resS,evB,Sx.look,slot,↓lkL,putS,putO,argsL,↓reduceIte,ofV,of1,lookH,putH,List.replicate,List.append,convS,fldA,nthT,idxA,idxS,fldS,oslN,bnd,slS,unS,valI,lenS,lookS,takeC,psB,asRow,csB,rdF,Ent.row,ldS,sz,szL,wrF,bldF,plT,bldS,srcS,nilS,nilEq,mapC,binH,binS2,structS,eqL,eqF,binS,arrS,isI,tupS,stor,storL,Value.oneCell',minS,maxS,capS,Nat.reduceAdd,Nat.reduceSub,Nat.reduceMul,Nat.reduceLT,Nat.reduceLeDiff,Nat.reduceEqDiff,Nat.reduceBEq,Int.reduceToNat,Int.reduceNeg,if_true,if_false,reduceIte,stays,inL,same1,qn,ldN,convN,lenN,cond_true,cond_false,implies_true,Int.reduceEq,Int.reduceNe,Int.reduceLE,Int.reduceLT,forall_eq_or_imp,forall_eq,ne_eq,reduceCtorEq,notInt,numB,tabB,Array.reduceGetElem?,upG,up,nth,lay,rcB,rnm,rnmL,wrB,pcB,res56,Option.isNone,lhB,hx,hy,z1,z3,z4,z6,liB]
                  repeat (refine ⟨by omega, ?_⟩)
                  exact hd
                · simp -implicitDefEqProofs (maxSteps := 1000000) (disch := omega) only [↓vcB,↓gd,↓opP,↓qv,↓ef,↓bslS,↓stS,↓mkS,↓rangeS,↓nextS,↓entryS,↓delS,↓mupS,↓appS,↓s2bS,↓resS,evB,Sx.look,slot,↓lkL,putS,putO,argsL,↓reduceIte,ofV,of1,lookH,putH,List.replicate,List.append,convS,fldA,nthT,idxA,idxS,fldS,oslN,bnd,slS,unS,valI,lenS,lookS,takeC,psB,asRow,csB,rdF,Ent.row,ldS,sz,szL,wrF,bldF,plT,bldS,srcS,nilS,nilEq,mapC,binH,binS2,structS,eqL,eqF,binS,arrS,isI,tupS,stor,storL,Value.oneCell',minS,maxS,capS,Nat.reduceAdd,Nat.reduceSub,Nat.reduceMul,Nat.reduceLT,Nat.reduceLeDiff,Nat.reduceEqDiff,Nat.reduceBEq,Int.reduceToNat,Int.reduceNeg,if_true,if_false,reduceIte,stays,inL,same1,qn,ldN,convN,lenN,cond_true,cond_false,implies_true,Int.reduceEq,Int.reduceNe,Int.reduceLE,Int.reduceLT,forall_eq_or_imp,forall_eq,ne_eq,reduceCtorEq,notInt,numB,tabB,Array.reduceGetElem?,upG,up,nth,lay,rcB,rnm,rnmL,wrB,pcB,res56,Option.isNone,lhB,hx,hy,z1,z3,z4,z5,z6,liB]
                  repeat (refine ⟨by omega, ?_⟩)
                  exact hd
            · have z6 : decide (((bs.length : Nat) : Int) > 512) = false := decide_eq_false (by omega)
              have hl : bs.length ≤ 512 := by omega
              refine hc5 (fun z1 => ?_) fun z1 z3 => ?_
              · refine hc6 (fun z4 => ?_) fun z4 z5 => ?_
                · simp -implicitDefEqProofs (maxSteps := 1000000) (disch := omega) only [↓vcB,↓gd,↓opP,↓qv,↓ef,↓bslS,↓stS,↓mkS,↓rangeS,↓nextS,↓entryS,↓delS,↓mupS,↓appS,↓s2bS,↓resS,evB,Sx.look,slot,↓lkL,putS,putO,argsL,↓reduceIte,ofV,of1,lookH,putH,List.replicate,List.append,convS,fldA,nthT,idxA,idxS,fldS,oslN,bnd,slS,unS,valI,lenS,lookS,takeC,psB,asRow,csB,rdF,Ent.row,ldS,sz,szL,wrF,bldF,plT,bldS,srcS,nilS,nilEq,mapC,binH,binS2,structS,eqL,eqF,binS,arrS,isI,tupS,stor,storL,Value.oneCell',minS,maxS,capS,Nat.reduceAdd,Nat.reduceSub,Nat.reduceMul,Nat.reduceLT,Nat.reduceLeDiff,Nat.reduceEqDiff,Nat.reduceBEq,Int.reduceToNat,Int.reduceNeg,if_true,if_false,reduceIte,stays,inL,same1,qn,ldN,convN,lenN,cond_true,cond_false,implies_true,Int.reduceEq,Int.reduceNe,Int.reduceLE,Int.reduceLT,forall_eq_or_imp,forall_eq,ne_eq,reduceCtorEq,notInt,numB,tabB,Array.reduceGetElem?,upG,up,nth,lay,rcB,rnm,rnmL,wrB,pcB,res56,Option.isNone,lhB,hx,hy,z1,z4,z6,liB]
                  repeat (refine ⟨by omega, ?_⟩)
                  exact into_keep [(2, .ptr h.length 0), (3, .ptr (h.length + 1) 0), (4, .int .i64 0)] (by simp [sameT, slot, lkL]) fun j => ⟨j, hNC.2 nc, hl, rfl⟩
                · simp -implicitDefEqProofs (maxSteps := 1000000) (disch := omega) only [↓vcB,↓gd,↓opP,↓qv,↓ef,↓bslS,↓stS,↓mkS,↓rangeS,↓nextS,↓entryS,↓delS,↓mupS,↓appS,↓s2bS,↓resS,evB,Sx.look,slot,↓lkL,putS,putO,argsL,↓reduceIte,ofV,of1,lookH,putH,List.replicate,List.append,convS,fldA,nthT,idxA,idxS,fldS,oslN,bnd,slS,unS,valI,lenS,lookS,takeC,psB,asRow,csB,rdF,Ent.row,ldS,sz,szL,wrF,bldF,plT,bldS,srcS,nilS,nilEq,mapC,binH,binS2,structS,eqL,eqF,binS,arrS,isI,tupS,stor,storL,Value.oneCell',minS,maxS,capS,Nat.reduceAdd,Nat.reduceSub,Nat.reduceMul,Nat.reduceLT,Nat.reduceLeDiff,Nat.reduceEqDiff,Nat.reduceBEq,Int.reduceToNat,Int.reduceNeg,if_true,if_false,reduceIte,stays,inL,same1,qn,ldN,convN,lenN,cond_true,cond_false,implies_true,Int.reduceEq,Int.reduceNe,Int.reduceLE,Int.reduceLT,forall_eq_or_imp,forall_eq,ne_eq,reduceCtorEq,notInt,numB,tabB,Array.reduceGetElem?,upG,up,nth,lay,rcB,rnm,rnmL,wrB,pcB,res56,Option.isNone,lhB,hx,hy,z1,z4,z5,z6,liB]
                  repeat (refine ⟨by omega, ?_⟩)
                  exact into_keep [(2, .ptr h.length 0), (3, .ptr (h.length + 1) 0), (4, .int .i64 0)] (by simp [sameT, slot, lkL]) fun j => ⟨j, hNC.2 nc, hl, rfl⟩
              · refine hc6 (fun z4 => ?_) fun z4 z5 => ?_
                · simp -implicitDefEqProofs (maxSteps := 1000000) (disch := omega) only [↓vcB,↓gd,↓opP,↓qv,↓ef,↓bslS,↓stS,↓mkS,↓rangeS,↓nextS,↓entryS,↓delS,↓mupS,↓appS,↓s2bS,↓resS,evB,Sx.look,slot,↓lkL,putS,putO,argsL,↓reduceIte,ofV,of1,lookH,putH,List.replicate,List.append,convS,fldA,nthT,idxA,idxS,fldS,oslN,bnd,slS,unS,valI,lenS,lookS,takeC,psB,asRow,csB,rdF,Ent.row,ldS,sz,szL,wrF,bldF,plT,bldS,srcS,nilS,nilEq,mapC,binH,binS2,structS,eqL,eqF,binS,arrS,isI,tupS,stor,storL,Value.oneCell',minS,maxS,capS,Nat.reduceAdd,Nat.reduceSub,Nat.reduceMul,Nat.reduceLT,Nat.reduceLeDiff,Nat.reduceEqDiff,Nat.reduceBEq,Int.reduceToNat,Int.reduceNeg,if_true,if_false,reduceIte,stays,inL,same1,qn,ldN,convN,lenN,cond_true,cond_false,implies_true,Int.reduceEq,Int.reduceNe,Int.reduceLE,Int.reduceLT,forall_eq_or_imp,forall_eq,ne_eq,reduceCtorEq,notInt,numB,tabB,Array.reduceGetElem?,upG,up,nth,lay,rcB,rnm,rnmL,wrB,pcB,res56,Option.isNone,lhB,hx,hy,z1,z3,z4,z6,liB]
                  repeat (refine ⟨by omega, ?_⟩)
                  exact into_keep [(2, .ptr h.length 0), (3, .ptr (h.length + 1) 0), (4, .int .i64 0)] (by simp [sameT, slot, lkL]) fun j => ⟨j, hNC.2 nc, hl, rfl⟩
                · simp -implicitDefEqProofs (maxSteps := 1000000) (disch := omega) only [↓vcB,↓gd,↓opP,↓qv,↓ef,↓bslS,↓stS,↓mkS,↓rangeS,↓nextS,↓entryS,↓delS,↓mupS,↓appS,↓s2bS,↓resS,evB,Sx.look,slot,↓lkL,putS,putO,argsL,↓reduceIte,ofV,of1,lookH,putH,List.replicate,List.append,convS,fldA,nthT,idxA,idxS,fldS,oslN,bnd,slS,unS,valI,lenS,lookS,takeC,psB,asRow,csB,rdF,Ent.row,ldS,sz,szL,wrF,bldF,plT,bldS,srcS,nilS,nilEq,mapC,binH,binS2,structS,eqL,eqF,binS,arrS,isI,tupS,stor,storL,Value.oneCell',minS,maxS,capS,Nat.reduceAdd,Nat.reduceSub,Nat.reduceMul,Nat.reduceLT,Nat.reduceLeDiff,Nat.reduceEqDiff,Nat.reduceBEq,Int.reduceToNat,Int.reduceNeg,if_true,if_false,reduceIte,stays,inL,same1,qn,ldN,convN,lenN,cond_true,cond_false,implies_true,Int.reduceEq,Int.reduceNe,Int.reduceLE,Int.reduceLT,forall_eq_or_imp,forall_eq,ne_eq,reduceCtorEq,notInt,numB,tabB,Array.reduceGetElem?,upG,up,nth,lay,rcB,rnm,rnmL,wrB,pcB,res56,Option.isNone,lhB,hx,hy,z1,z3,z4,z5,z6,liB]
                  repeat (refine ⟨by omega, ?_⟩)
                  exact into_keep [(2, .ptr h.length 0), (3, .ptr (h.length + 1) 0), (4, .int .i64 0)] (by simp [sameT, slot, lkL]) fun j => ⟨j, hNC.2 nc, hl, rfl⟩
      · rintro _ ⟨j2, hnc, hl, rfl⟩
        have nc := hNC.1 hnc
        have hmay : mayBuns k b bs = mayBs bs := by unfold mayBuns; rw [if_neg nb0, if_neg nc, if_neg (by omega)]
        refine codeP_of_vc (pl := np) tabOk follows_mixed (by kernel_rfl) ?_
        simp -implicitDefEqProofs (maxSteps := 1000000) (disch := omega) only [↓vcB,↓gd,↓opP,↓qv,↓ef,↓bslS,↓stS,↓mkS,↓rangeS,↓nextS,↓entryS,↓delS,↓mupS,↓appS,↓s2bS,↓resS,evB,Sx.look,slot,↓lkL,putS,putO,argsL,↓reduceIte,ofV,of1,lookH,putH,List.replicate,List.append,convS,fldA,nthT,idxA,idxS,fldS,oslN,bnd,slS,unS,valI,lenS,lookS,takeC,psB,asRow,csB,rdF,Ent.row,ldS,sz,szL,wrF,bldF,plT,bldS,srcS,nilS,nilEq,mapC,binH,binS2,structS,eqL,eqF,binS,arrS,isI,tupS,stor,storL,Value.oneCell',minS,maxS,capS,Nat.reduceAdd,Nat.reduceSub,Nat.reduceMul,Nat.reduceLT,Nat.reduceLeDiff,Nat.reduceEqDiff,Nat.reduceBEq,Int.reduceToNat,Int.reduceNeg,if_true,if_false,reduceIte,stays,inL,same1,qn,ldN,convN,lenN,cond_true,cond_false,implies_true,Int.reduceEq,Int.reduceNe,Int.reduceLE,Int.reduceLT,forall_eq_or_imp,forall_eq,ne_eq,reduceCtorEq,notInt,numB,tabB,Array.reduceGetElem?,upG,up,nth,lay,rcB,rnm,rnmL,wrB,pcB,res56,Option.isNone,lhB,hx,hy,liB]
        repeat (refine ⟨by omega, ?_⟩)
        refine codeP_loop (pl := np) tabOk follows_mixed (by kernel_rfl) (fun z st => ∃ (i : Nat) (j : Nat → Value), i + z = bs.length ∧ mayBs bs = mayBs (bs.drop i) ∧ st = ⟨⟨54, [(2, .ptr h.length 0), (3, .ptr (h.length + 1) 0), (4, .int .i64 0), (42, .osl kbs 0 0 1 bs.length), (43, .int .i64 (bs.length : Nat)), (44, .int .i64 (i : Nat))], j⟩, H1, []⟩) ?_ ?_
        · refine into_keep [(2, .ptr h.length 0), (3, .ptr (h.length + 1) 0), (4, .int .i64 0), (42, .osl kbs 0 0 1 bs.length), (43, .int .i64 (bs.length : Nat)), (44, .int .i64 (0 : Nat))] (by simp [sameT, slot, lkL]) fun j => ⟨bs.length, 0, j, by omega, rfl, rfl⟩
        · rintro z st ⟨i, j, hiz, hmi, rfl⟩
          by_cases hi : i < bs.length
          · have g1 : decide ((i : Int) < (bs.length : Nat)) = true := decide_eq_true (by omega)
            have a1 : IntKind.i64.wrap ((i : Int) + 1) = ((i + 1 : Nat) : Int) := by rw [wrap64 (by omega) (by omega)]; omega
            have hbi := hfb i hi
            obtain ⟨ki, wi, hfi, hki⟩ := hbi
            have hd := mayBs_drop bs hi
            simp -implicitDefEqProofs (maxSteps := 1000000) (disch := omega) only [↓vcB,↓gd,↓opP,↓qv,↓ef,↓bslS,↓stS,↓mkS,↓rangeS,↓nextS,↓entryS,↓delS,↓mupS,↓appS,↓s2bS,↓resS,evB,Sx.look,slot,↓lkL,putS,putO,argsL,↓reduceIte,ofV,of1,lookH,putH,List.replicate,List.append,convS,fldA,nthT,idxA,idxS,fldS,oslN,bnd,slS,unS,valI,lenS,lookS,takeC,psB,asRow,csB,rdF,Ent.row,ldS,sz,szL,wrF,bldF,plT,bldS,srcS,nilS,nilEq,mapC,binH,binS2,structS,eqL,eqF,binS,arrS,isI,tupS,stor,storL,Value.oneCell',minS,maxS,capS,Nat.reduceAdd,Nat.reduceSub,Nat.reduceMul,Nat.reduceLT,Nat.reduceLeDiff,Nat.reduceEqDiff,Nat.reduceBEq,Int.reduceToNat,Int.reduceNeg,if_true,if_false,reduceIte,stays,inL,same1,qn,ldN,convN,lenN,cond_true,cond_false,implies_true,Int.reduceEq,Int.reduceNe,Int.reduceLE,Int.reduceLT,forall_eq_or_imp,forall_eq,ne_eq,reduceCtorEq,notInt,numB,tabB,Array.reduceGetElem?,upG,up,nth,lay,rcB,rnm,rnmL,wrB,pcB,res56,Option.isNone,lhB,g1,hkbs1,hfi,liB]
            repeat (refine ⟨by omega, ?_⟩)
            refine c103 (bs.getD i []) _ H1 ⟨ki, wi, rfl, hE.look hki (by simp) fun h => h⟩ _ ?_
            by_cases e : mayB (bs.getD i []) = 0
            · have z2 : (mayB (bs.getD i []) != 0) = false := by rw [e]; rfl
              rw [if_pos e] at hd
              simp -implicitDefEqProofs (maxSteps := 1000000) (disch := omega) only [↓vcB,↓gd,↓opP,↓qv,↓ef,↓bslS,↓stS,↓mkS,↓rangeS,↓nextS,↓entryS,↓delS,↓mupS,↓appS,↓s2bS,↓resS,evB,Sx.look,slot,↓lkL,putS,putO,argsL,↓reduceIte,ofV,of1,lookH,putH,List.replicate,List.append,convS,fldA,nthT,idxA,idxS,fldS,oslN,bnd,slS,unS,valI,lenS,lookS,takeC,psB,asRow,csB,rdF,Ent.row,ldS,sz,szL,wrF,bldF,plT,bldS,srcS,nilS,nilEq,mapC,binH,binS2,structS,eqL,eqF,binS,arrS,isI,tupS,stor,storL,Value.oneCell',minS,maxS,capS,Nat.reduceAdd,Nat.reduceSub,Nat.reduceMul,Nat.reduceLT,Nat.reduceLeDiff,Nat.reduceEqDiff,Nat.reduceBEq,Int.reduceToNat,Int.reduceNeg,if_true,if_false,reduceIte,stays,inL,same1,qn,ldN,convN,lenN,cond_true,cond_false,implies_true,Int.reduceEq,Int.reduceNe,Int.reduceLE,Int.reduceLT,forall_eq_or_imp,forall_eq,ne_eq,reduceCtorEq,notInt,numB,tabB,Array.reduceGetElem?,upG,up,nth,lay,rcB,rnm,rnmL,wrB,pcB,res56,Option.isNone,lhB,z2,a1,liB]
              repeat (refine ⟨by omega, ?_⟩)
              refine into_keep [(2, .ptr h.length 0), (3, .ptr (h.length + 1) 0), (4, .int .i64 0), (42, .osl kbs 0 0 1 bs.length), (43, .int .i64 (bs.length : Nat)), (44, .int .i64 (i + 1 : Nat))] (by simp [sameT, slot, lkL]) fun j => ⟨z - 1, by omega, i + 1, j, by omega, hmi.trans hd, rfl⟩
            · have z2 : (mayB (bs.getD i []) != 0) = true := bne_iff_ne.2 e
              rw [if_neg e] at hd
              simp -implicitDefEqProofs (maxSteps := 1000000) (disch := omega) only [↓vcB,↓gd,↓opP,↓qv,↓ef,↓bslS,↓stS,↓mkS,↓rangeS,↓nextS,↓entryS,↓delS,↓mupS,↓appS,↓s2bS,↓resS,evB,Sx.look,slot,↓lkL,putS,putO,argsL,↓reduceIte,ofV,of1,lookH,putH,List.replicate,List.append,convS,fldA,nthT,idxA,idxS,fldS,oslN,bnd,slS,unS,valI,lenS,lookS,takeC,psB,asRow,csB,rdF,Ent.row,ldS,sz,szL,wrF,bldF,plT,bldS,srcS,nilS,nilEq,mapC,binH,binS2,structS,eqL,eqF,binS,arrS,isI,tupS,stor,storL,Value.oneCell',minS,maxS,capS,Nat.reduceAdd,Nat.reduceSub,Nat.reduceMul,Nat.reduceLT,Nat.reduceLeDiff,Nat.reduceEqDiff,Nat.reduceBEq,Int.reduceToNat,Int.reduceNeg,if_true,if_false,reduceIte,stays,inL,same1,qn,ldN,convN,lenN,cond_true,cond_false,implies_true,Int.reduceEq,Int.reduceNe,Int.reduceLE,Int.reduceLT,forall_eq_or_imp,forall_eq,ne_eq,reduceCtorEq,notInt,numB,tabB,Array.reduceGetElem?,upG,up,nth,lay,rcB,rnm,rnmL,wrB,pcB,res56,Option.isNone,lhB,z2,a1,liB]
              repeat (refine ⟨by omega, ?_⟩)
              exact drop _ (hmay.trans (hmi.trans hd))
          · have g1 : decide ((i : Int) < (bs.length : Nat)) = false := decide_eq_false (by omega)
            have hd : bs.drop i = [] := List.drop_of_length_le (by omega)
            rw [hd] at hmi
            simp -implicitDefEqProofs (maxSteps := 1000000) (disch := omega) only [↓vcB,↓gd,↓opP,↓qv,↓ef,↓bslS,↓stS,↓mkS,↓rangeS,↓nextS,↓entryS,↓delS,↓mupS,↓appS,↓s2bS,↓resS,evB,Sx.look,slot,↓lkL,putS,putO,argsL,↓reduceIte,ofV,of1,lookH,putH,List.replicate,List.append,convS,fldA,nthT,idxA,idxS,fldS,oslN,bnd,slS,unS,valI,lenS,lookS,takeC,psB,asRow,csB,rdF,Ent.row,ldS,sz,szL,wrF,bldF,plT,bldS,srcS,nilS,nilEq,mapC,binH,binS2,structS,eqL,eqF,binS,arrS,isI,tupS,stor,storL,Value.oneCell',minS,maxS,capS,Nat.reduceAdd,Nat.reduceSub,Nat.reduceMul,Nat.reduceLT,Nat.reduceLeDiff,Nat.reduceEqDiff,Nat.reduceBEq,Int.reduceToNat,Int.reduceNeg,if_true,if_false,reduceIte,stays,inL,same1,qn,ldN,convN,lenN,cond_true,cond_false,implies_true,Int.reduceEq,Int.reduceNe,Int.reduceLE,Int.reduceLT,forall_eq_or_imp,forall_eq,ne_eq,reduceCtorEq,notInt,numB,tabB,Array.reduceGetElem?,upG,up,nth,lay,rcB,rnm,rnmL,wrB,pcB,res56,Option.isNone,lhB,g1,liB]
            repeat (refine ⟨by omega, ?_⟩)
            exact drop _ (hmay.trans (hmi.trans rfl))
end Go.Proofs.Ytgocfglmideobaa

set_option linter.all false
set_option maxRecDepth 40000
namespace Go.Proofs.Ytgocfglmideobaa
open Go Go.Sx
theorem res57 : Try.f57.results.toList = [.tmp 6] := rfl
def mayW (is : Bool) (kind : Int) (p : List Msg) : Int := if is = false ∧ 0 < p.length then 1 else if p.length > 64 then 18 else mayL kind p
theorem mayL_drop (kind : Int) (p : List Msg) {i : Nat} (hi : i < p.length) : mayL kind (p.drop i) = if p[i].kind ≠ kind then 1 else if may p[i] ≠ 0 then may p[i] else mayL kind (p.drop (i + 1)) := by
  rw [List.drop_eq_getElem_cons hi, mayL]
abbrev MayAt (m : Msg) : Prop := ∀ (l : List SV) (h : List Chunk), MsgH h m l → ∀ (K : Tok → SV → List Chunk → Prop), K .mk (.int .i64 (may m)) h → callP Try.prog 15 [.agg l] h K
set_option maxHeartbeats 4000000 in
theorem c57R (is : Bool) (kind : Int) (p : List Msg) (IH : ∀ m ∈ p, MayAt m) (kp : Nat) (wp : Bool) (fp : Nat → List SV) (h : List Chunk) (hrow : lookH h kp = .row wp p.length 73 fun i => .agg (fp i)) (hp : MsgsH h p fp) (K : Tok → SV → List Chunk → Prop) (hK : K .mk (.int .i64 (mayW is kind p)) h) :
    callP Try.prog 57 [.bool is, .int .i64 kind, .osl kp 0 0 73 p.length] h K := by
  refine callP_good fun hgood => ?_
  have drop : ∀ (H1 x : List Chunk) e, H1 = h ++ x → mayW is kind p = e → IntoR h.length (.int .i64 e) H1 K := fun H1 x e hH he => by
    rw [he] at hK
    rw [hH]
    exact intoR_drop hgood trivial hK
  have dh : h = h ++ [] := by simp
  obtain ⟨NC, hNC⟩ : ∃ NC : Prop, NC ↔ ¬ (is = false ∧ 0 < p.length) := ⟨_, Iff.rfl⟩
  refine callP_of_code tabOk Try.func57 (by kernel_rfl) rfl (Nat.le_of_ble_eq_true rfl) ?_
  rw [Try.ntmps57]
  refine codeP_seq (pl := np) tabOk follows_mixed (by kernel_rfl) _ ?_ (fun s h => h)
  simp -implicitDefEqProofs (maxSteps := 1000000) (disch := omega) only [↓vcB,↓gd,↓opP,↓qv,↓ef,↓bslS,↓stS,↓mkS,↓rangeS,↓nextS,↓entryS,↓delS,↓mupS,↓appS,↓s2bS,↓resS,evB,Sx.look,slot,↓lkL,putS,putO,argsL,↓reduceIte,ofV,of1,lookH,putH,List.replicate,List.append,convS,fldA,nthT,idxA,idxS,fldS,oslN,bnd,slS,unS,valI,lenS,lookS,takeC,psB,asRow,csB,rdF,Ent.row,ldS,sz,szL,wrF,bldF,plT,bldS,srcS,nilS,nilEq,mapC,binH,binS2,structS,eqL,eqF,binS,arrS,isI,tupS,stor,storL,Value.oneCell',minS,maxS,capS,Nat.reduceAdd,Nat.reduceSub,Nat.reduceMul,Nat.reduceLT,Nat.reduceLeDiff,Nat.reduceEqDiff,Nat.reduceBEq,Int.reduceToNat,Int.reduceNeg,if_true,if_false,reduceIte,stays,inL,same1,qn,ldN,convN,lenN,cond_true,cond_false,implies_true,Int.reduceEq,Int.reduceNe,Int.reduceLE,Int.reduceLT,forall_eq_or_imp,forall_eq,ne_eq,reduceCtorEq,notInt,numB,tabB,Array.reduceGetElem?,upG,up,nth,lay,rcB,rnm,rnmL,wrB,pcB,res57,Option.isNone,lhB,liB]
  repeat (refine ⟨by omega, ?_⟩)
  refine into_refl ?_
  refine codeP_seq (pl := np) tabOk follows_mixed (by kernel_rfl) (fun st => ∃ (j : Nat → Value), NC ∧ p.length ≤ 64 ∧ st = ⟨⟨38, [(0, .bool is), (1, .int .i64 kind), (2, .osl kp 0 0 73 p.length), (6, .int .i64 0)], j⟩, h, []⟩) ?_ ?_
  · by_cases c1 : is = false ∧ 0 < p.length
    · have z1 : decide (((p.length : Nat) : Int) > 0) = true := decide_eq_true (by omega)
      have hd := drop h [] 1 dh (by unfold mayW; rw [if_pos c1])
      obtain ⟨rfl, _⟩ := c1
      simp -implicitDefEqProofs (maxSteps := 1000000) (disch := omega) only [↓vcB,↓gd,↓opP,↓qv,↓ef,↓bslS,↓stS,↓mkS,↓rangeS,↓nextS,↓entryS,↓delS,↓mupS,↓appS,↓s2bS,↓resS,evB,Sx.look,slot,↓lkL,putS,putO,argsL,↓reduceIte,ofV,of1,lookH,putH,List.replicate,List.append,convS,fldA,nthT,idxA,idxS,fldS,oslN,bnd,slS,unS,valI,lenS,lookS,takeC,psB,asRow,csB,rdF,Ent.row,ldS,sz,szL,wrF,bldF,plT,bldS,srcS,nilS,nilEq,mapC,binH,binS2,structS,eqL,eqF,binS,arrS,isI,tupS,stor,storL,Value.oneCell',minS,maxS,capS,Nat.reduceAdd,Nat.reduceSub,Nat.reduceMul,Nat.reduceLT,Nat.reduceLeDiff,Nat.reduceEqDiff,Nat.reduceBEq,Int.reduceToNat,Int.reduceNeg,if_true,if_false,reduceIte,stays,inL,same1,qn,ldN,convN,lenN,cond_true,cond_false,implies_true,Int.reduceEq,Int.reduceNe,Int.reduceLE,Int.reduceLT,forall_eq_or_imp,forall_eq,ne_eq,reduceCtorEq,notInt,numB,tabB,Array.reduceGetElem?,upG,up,nth,lay,rcB,rnm,rnmL,wrB,pcB,res57,Option.isNone,lhB,z1,liB]
      repeat (refine ⟨by omega, ?_⟩)
      exact hd
    · have hc : ∀ {P : Prop}, (is = true → P) → (is = false → decide (((p.length : Nat) : Int) > 0) = false → P) → P := fun a c => by
        cases z : is with
        | true => exact a z
        | false => exact c z (decide_eq_false (fun h => c1 ⟨z, by omega⟩))
      have nc := hNC.2 c1
      by_cases c3 : p.length > 64
      · have z6 : decide (((p.length : Nat) : Int) > 64) = true := decide_eq_true (by omega)
        have hd := drop h [] 18 dh (by unfold mayW; rw [if_neg c1, if_pos c3])
        refine hc (fun z1 => ?_) fun z1 z3 => ?_
        · simp -implicitDefEqProofs (maxSteps := 1000000) (disch := omega) only [↓vcB,↓gd,↓opP,↓qv,↓ef,↓bslS,↓stS,↓mkS,↓rangeS,↓nextS,↓entryS,↓delS,↓mupS,↓appS,↓s2bS,↓resS,evB,Sx.look,slot,↓lkL,putS,putO,argsL,↓reduceIte,ofV,of1,lookH,putH,List.replicate,List.append,convS,fldA,nthT,idxA,idxS,fldS,oslN,bnd,slS,unS,valI,lenS,lookS,takeC,psB,asRow,csB,rdF,Ent.row,ldS,sz,szL,wrF,bldF,plT,bldS,srcS,nilS,nilEq,mapC,binH,binS2,structS,eqL,eqF,binS,arrS,isI,tupS,stor,storL,Value.oneCell',minS,maxS,capS,Nat.reduceAdd,Nat.reduceSub,Nat.reduceMul,Nat.reduceLT,Nat.reduceLeDiff,Nat.reduceEqDiff,Nat.reduceBEq,Int.reduceToNat,Int.reduceNeg,if_true,if_false,reduceIte,stays,inL,same1,qn,ldN,convN,lenN,cond_true,cond_false,implies_true,Int.reduceEq,Int.reduceNe,Int.reduceLE,Int.reduceLT,forall_eq_or_imp,forall_eq,ne_eq,reduceCtorEq,notInt,numB,tabB,Array.reduceGetElem?,upG,up,nth,lay,rcB,rnm,rnmL,wrB,pcB,res57,Option.isNone,lhB,z1,z6,liB]
          repeat (refine ⟨by omega, ?_⟩)
          exact hd
        · simp -implicitDefEqProofs (maxSteps := 1000000) (disch := omega) only [↓vcB,↓gd,↓opP,↓qv,↓ef,↓bslS,↓stS,↓mkS,↓rangeS,↓nextS,↓entryS,↓delS,↓mupS,↓appS,↓s2bS,↓resS,evB,Sx.look,slot,↓lkL,putS,putO,argsL,↓reduceIte,ofV,of1,lookH,putH,List.replicate,List.append,convS,fldA,nthT,idxA,idxS,fldS,oslN,bnd,slS,unS,valI,lenS,lookS,takeC,psB,asRow,csB,rdF,Ent.row,ldS,sz,szL,wrF,bldF,plT,bldS,srcS,nilS,nilEq,mapC,binH,binS2,structS,eqL,eqF,binS,arrS,isI,tupS,stor,storL,Value.oneCell',minS,maxS,capS,Nat.reduceAdd,Nat.reduceSub,Nat.reduceMul,Nat.reduceLT,Nat.reduceLeDiff,Nat.reduceEqDiff,Nat.reduceBEq,Int.reduceToNat,Int.reduceNeg,if_true,if_false,reduceIte,stays,inL,same1,qn,ldN,convN,lenN,cond_true,cond_false,implies_true,Int.reduceEq,Int.reduceNe,Int.reduceLE,Int.reduceLT,forall_eq_or_imp,forall_eq,ne_eq,reduceCtorEq,notInt,numB,tabB,Array.reduceGetElem?,upG,up,nth,lay,rcB,rnm,rnmL,wrB,pcB,res57,Option.isNone,lhB,z1,z3,z6,liB]
          repeat (refine ⟨by omega, ?_⟩)
          exact hd
      · have z6 : decide (((p.length : Nat) : Int) > 64) = false := decide_eq_false (by omega)
        refine hc (fun z1 => ?_) fun z1 z3 => ?_
        · simp -implicitDefEqProofs (maxSteps := 1000000) (disch := omega) only [↓vcB,↓gd,↓opP,↓qv,↓ef,↓bslS,↓stS,↓mkS,↓rangeS,↓nextS,↓entryS,↓delS,↓mupS,↓appS,↓s2bS,↓resS,evB,Sx.look,slot,↓lkL,putS,putO,argsL,↓reduceIte,ofV,of1,lookH,putH,List.replicate,List.append,convS,fldA,nthT,idxA,idxS,fldS,oslN,bnd,slS,unS,valI,lenS,lookS,takeC,psB,asRow,csB,rdF,Ent.row,ldS,sz,szL,wrF,bldF,plT,bldS,srcS,nilS,nilEq,mapC,binH,binS2,structS,eqL,eqF,binS,arrS,isI,tupS,stor,storL,Value.oneCell',minS,maxS,capS,Nat.reduceAdd,Nat.reduceSub,Nat.reduceMul,Nat.reduceLT,Nat.reduceLeDiff,Nat.reduceEqDiff,Nat.reduceBEq,Int.reduceToNat,Int.reduceNeg,if_true,if_false,reduceIte,stays,inL,same1,qn,ldN,convN,lenN,cond_true,cond_false,implies_true,Int.reduceEq,Int.reduceNe,Int.reduceLE,Int.reduceLT,forall_eq_or_imp,forall_eq,ne_eq,reduceCtorEq,notInt,numB,tabB,Array.reduceGetElem?,upG,up,nth,lay,rcB,rnm,rnmL,wrB,pcB,res57,Option.isNone,lhB,z1,z6,liB]
          repeat (refine ⟨by omega, ?_⟩)
          exact into_keep [(0, .bool true), (1, .int .i64 kind), (2, .osl kp 0 0 73 p.length), (6, .int .i64 0)] (by simp [sameT, slot, lkL]) fun j => ⟨j, nc, by omega, rfl⟩
        · simp -implicitDefEqProofs (maxSteps := 1000000) (disch := omega) only [↓vcB,↓gd,↓opP,↓qv,↓ef,↓bslS,↓stS,↓mkS,↓rangeS,↓nextS,↓entryS,↓delS,↓mupS,↓appS,↓s2bS,↓resS,evB,Sx.look,slot,↓lkL,putS,putO,argsL,↓reduceIte,ofV,of1,lookH,putH,List.replicate,List.append,convS,fldA,nthT,idxA,idxS,fldS,oslN,bnd,slS,unS,valI,lenS,lookS,takeC,psB,asRow,csB,rdF,Ent.row,ldS,sz,szL,wrF,bldF,plT,bldS,srcS,nilS,nilEq,mapC,binH,binS2,structS,eqL,eqF,binS,arrS,isI,tupS,stor,storL,Value.oneCell',minS,maxS,capS,Nat.reduceAdd,Nat.reduceSub,Nat.reduceMul,Nat.reduceLT,Nat.reduceLeDiff,Nat.reduceEqDiff,Nat.reduceBEq,Int.reduceToNat,Int.reduceNeg,if_true,if_false,reduceIte,stays,inL,same1,qn,ldN,convN,lenN,cond_true,cond_false,implies_true,Int.reduceEq,Int.reduceNe,Int.reduceLE,Int.reduceLT,forall_eq_or_imp,forall_eq,ne_eq,reduceCtorEq,notInt,numB,tabB,Array.reduceGetElem?,upG,up,nth,lay,rcB,rnm,rnmL,wrB,pcB,res57,Option.isNone,lhB,z1,z3,z6,liB]
          repeat (refine ⟨by omega, ?_⟩)
          exact into_keep [(0, .bool false), (1, .int .i64 kind), (2, .osl kp 0 0 73 p.length), (6, .int .i64 0)] (by simp [sameT, slot, lkL]) fun j => ⟨j, nc, by omega, rfl⟩
  · rintro _ ⟨j2, hnc, hl, rfl⟩
    have hmay : mayW is kind p = mayL kind p := by unfold mayW; rw [if_neg (hNC.1 hnc), if_neg (by omega)]
    refine codeP_of_vc (pl := np) tabOk follows_mixed (by kernel_rfl) ?_
    simp -implicitDefEqProofs (maxSteps := 1000000) (disch := omega) only [↓vcB,↓gd,↓opP,↓qv,↓ef,↓bslS,↓stS,↓mkS,↓rangeS,↓nextS,↓entryS,↓delS,↓mupS,↓appS,↓s2bS,↓resS,evB,Sx.look,slot,↓lkL,putS,putO,argsL,↓reduceIte,ofV,of1,lookH,putH,List.replicate,List.append,convS,fldA,nthT,idxA,idxS,fldS,oslN,bnd,slS,unS,valI,lenS,lookS,takeC,psB,asRow,csB,rdF,Ent.row,ldS,sz,szL,wrF,bldF,plT,bldS,srcS,nilS,nilEq,mapC,binH,binS2,structS,eqL,eqF,binS,arrS,isI,tupS,stor,storL,Value.oneCell',minS,maxS,capS,Nat.reduceAdd,Nat.reduceSub,Nat.reduceMul,Nat.reduceLT,Nat.reduceLeDiff,Nat.reduceEqDiff,Nat.reduceBEq,Int.reduceToNat,Int.reduceNeg,if_true,if_false,reduceIte,stays,inL,same1,qn,ldN,convN,lenN,cond_true,cond_false,implies_true,Int.reduceEq,Int.reduceNe,Int.reduceLE,Int.reduceLT,forall_eq_or_imp,forall_eq,ne_eq,reduceCtorEq,notInt,numB,tabB,Array.reduceGetElem?,upG,up,nth,lay,rcB,rnm,rnmL,wrB,pcB,res57,Option.isNone,lhB,liB]
    repeat (refine ⟨by omega, ?_⟩)
    refine codeP_loop (pl := np) tabOk follows_mixed (by kernel_rfl) (fun z st => ∃ (i : Nat) (H1 x : List Chunk) (j : Nat → Value), i + z = p.length ∧ H1 = h ++ x ∧ mayL kind p = mayL kind (p.drop i) ∧ st = ⟨⟨38, [(0, .bool is), (1, .int .i64 kind), (2, .osl kp 0 0 73 p.length), (6, .int .i64 0), (22, .osl kp 0 0 73 p.length), (23, .int .i64 (p.length : Nat)), (24, .int .i64 (i : Nat))], j⟩, H1, []⟩) ?_ ?_
    · refine into_keep [(0, .bool is), (1, .int .i64 kind), (2, .osl kp 0 0 73 p.length), (6, .int .i64 0), (22, .osl kp 0 0 73 p.length), (23, .int .i64 (p.length : Nat)), (24, .int .i64 (0 : Nat))] (by simp [sameT, slot, lkL]) fun j => ⟨p.length, 0, h, [], j, by omega, dh, rfl, rfl⟩
    · rintro z st ⟨i, H1, x, j, hiz, hH1, hmi, rfl⟩
      have hE : Ext (fun _ => False) h H1 := by rw [hH1]; exact (Ext.refl _ _).app _
      have hrow1 := hE.look hrow (by simp) fun h => h
      by_cases hi : i < p.length
      · have g1 : decide ((i : Int) < (p.length : Nat)) = true := decide_eq_true (by omega)
        have a1 : IntKind.i64.wrap ((i : Int) + 1) = ((i + 1 : Nat) : Int) := by rw [wrap64 (by omega) (by omega)]; omega
        have hd := mayL_drop kind p hi
        have hM := hp.get hi
        have hIH := IH p[i] (List.getElem_mem hi)
        obtain ⟨mi, hmi2⟩ : ∃ mi, p[i] = mi := ⟨_, rfl⟩
        rw [hmi2] at hd hM hIH
        have hM0 := hM
        obtain ⟨k', f', v', s', d', b', bs', p', q', key', of'⟩ := mi
        rw [MsgH] at hM
        obtain ⟨sb, sbs, kp', wp', fp', kq', wq', fq', hfi, h1, h2, h3, h4, h5, h6⟩ := hM
        obtain ⟨kb, wb, rfl, _⟩ := h1
        obtain ⟨kbs, wbs, fb, rfl, _, _⟩ := h2
        unfold dig32 at hfi
        rw [hfi] at hM0
        replace hd : mayL kind (p.drop i) = if k' ≠ kind then 1 else if may (.mk k' f' v' s' d' b' bs' p' q' key' of') ≠ 0 then may (.mk k' f' v' s' d' b' bs' p' q' key' of') else mayL kind (p.drop (i + 1)) := hd
        by_cases e : k' = kind
        · have z2 : (k' != kind) = false := by rw [e]; exact bne_self_eq_false _
          rw [if_neg (fun h => h e)] at hd
          simp -implicitDefEqProofs (maxSteps := 1000000) (disch := omega) only [↓vcB,↓gd,↓opP,↓qv,↓ef,↓bslS,↓stS,↓mkS,↓rangeS,↓nextS,↓entryS,↓delS,↓mupS,↓appS,↓s2bS,↓resS,evB,Sx.look,slot,↓lkL,putS,putO,argsL,↓reduceIte,ofV,of1,lookH,putH,List.replicate,List.append,convS,fldA,nthT,idxA,idxS,fldS,oslN,bnd,slS,unS,valI,lenS,lookS,takeC,psB,asRow,csB,rdF,Ent.row,ldS,sz,szL,wrF,bldF,plT,bldS,srcS,nilS,nilEq,mapC,binH,binS2,structS,eqL,eqF,binS,arrS,isI,tupS,stor,storL,Value.oneCell',minS,maxS,capS,Nat.reduceAdd,Nat.reduceSub,Nat.reduceMul,Nat.reduceLT,Nat.reduceLeDiff,Nat.reduceEqDiff,Nat.reduceBEq,Int.reduceToNat,Int.reduceNeg,if_true,if_false,reduceIte,stays,inL,same1,qn,ldN,convN,lenN,cond_true,cond_false,implies_true,Int.reduceEq,Int.reduceNe,Int.reduceLE,Int.reduceLT,forall_eq_or_imp,forall_eq,ne_eq,reduceCtorEq,notInt,numB,tabB,Array.reduceGetElem?,upG,up,nth,lay,rcB,rnm,rnmL,wrB,pcB,res57,Option.isNone,lhB,g1,hrow1,hfi,z2,liB]
          repeat (refine ⟨by omega, ?_⟩)
          refine hIH _ _ ((hM0.ext hE).ext ((Ext.refl _ _).app _)) _ ?_
          by_cases e2 : may (.mk k' f' v' s' d' b' bs' p' q' key' of') = 0
          · have z3 : (may (.mk k' f' v' s' d' b' bs' p' q' key' of') != 0) = false := by rw [e2]; rfl
            rw [if_neg (fun h => h e2)] at hd
            simp -implicitDefEqProofs (maxSteps := 1000000) (disch := omega) only [↓vcB,↓gd,↓opP,↓qv,↓ef,↓bslS,↓stS,↓mkS,↓rangeS,↓nextS,↓entryS,↓delS,↓mupS,↓appS,↓s2bS,↓resS,evB,Sx.look,slot,↓lkL,putS,putO,argsL,↓reduceIte,ofV,of1,lookH,putH,List.replicate,List.append,convS,fldA,nthT,idxA,idxS,fldS,oslN,bnd,slS,unS,valI,lenS,lookS,takeC,psB,asRow,csB,rdF,Ent.row,ldS,sz,szL,wrF,bldF,plT,bldS,srcS,nilS,nilEq,mapC,binH,binS2,structS,eqL,eqF,binS,arrS,isI,tupS,stor,storL,Value.oneCell',minS,maxS,capS,Nat.reduceAdd,Nat.reduceSub,Nat.reduceMul,Nat.reduceLT,Nat.reduceLeDiff,Nat.reduceEqDiff,Nat.reduceBEq,Int.reduceToNat,Int.reduceNeg,if_true,if_false,reduceIte,stays,inL,same1,qn,ldN,convN,lenN,cond_true,cond_false,implies_true,Int.reduceEq,Int.reduceNe,Int.reduceLE,Int.reduceLT,forall_eq_or_imp,forall_eq,ne_eq,reduceCtorEq,notInt,numB,tabB,Array.reduceGetElem?,upG,up,nth,lay,rcB,rnm,rnmL,wrB,pcB,res57,Option.isNone,lhB,z3,a1,liB]
            repeat (refine ⟨by omega, ?_⟩)
            exact into_keep [(0, .bool is), (1, .int .i64 kind), (2, .osl kp 0 0 73 p.length), (6, .int .i64 0), (22, .osl kp 0 0 73 p.length), (23, .int .i64 (p.length : Nat)), (24, .int .i64 (i + 1 : Nat))] (by simp [sameT, slot, lkL]) fun j => ⟨z - 1, by omega, i + 1, _, _, j, by omega, by rw [hH1, List.append_assoc], hmi.trans hd, rfl⟩
          · have z3 : (may (.mk k' f' v' s' d' b' bs' p' q' key' of') != 0) = true := bne_iff_ne.2 e2
            rw [if_pos e2] at hd
            simp -implicitDefEqProofs (maxSteps := 1000000) (disch := omega) only [↓vcB,↓gd,↓opP,↓qv,↓ef,↓bslS,↓stS,↓mkS,↓rangeS,↓nextS,↓entryS,↓delS,↓mupS,↓appS,↓s2bS,↓resS,evB,Sx.look,slot,↓lkL,putS,putO,argsL,↓reduceIte,ofV,of1,lookH,putH,List.replicate,List.append,convS,fldA,nthT,idxA,idxS,fldS,oslN,bnd,slS,unS,valI,lenS,lookS,takeC,psB,asRow,csB,rdF,Ent.row,ldS,sz,szL,wrF,bldF,plT,bldS,srcS,nilS,nilEq,mapC,binH,binS2,structS,eqL,eqF,binS,arrS,isI,tupS,stor,storL,Value.oneCell',minS,maxS,capS,Nat.reduceAdd,Nat.reduceSub,Nat.reduceMul,Nat.reduceLT,Nat.reduceLeDiff,Nat.reduceEqDiff,Nat.reduceBEq,Int.reduceToNat,Int.reduceNeg,if_true,if_false,reduceIte,stays,inL,same1,qn,ldN,convN,lenN,cond_true,cond_false,implies_true,Int.reduceEq,Int.reduceNe,Int.reduceLE,Int.reduceLT,forall_eq_or_imp,forall_eq,ne_eq,reduceCtorEq,notInt,numB,tabB,Array.reduceGetElem?,upG,up,nth,lay,rcB,rnm,rnmL,wrB,pcB,res57,Option.isNone,lhB,z3,liB]
            repeat (refine ⟨by omega, ?_⟩)
            exact drop _ _ _ (by rw [hH1, List.append_assoc]) (hmay.trans (hmi.trans hd))
        · have z2 : (k' != kind) = true := bne_iff_ne.2 e
          rw [if_pos e] at hd
          simp -implicitDefEqProofs (maxSteps := 1000000) (disch := omega) only [↓vcB,↓gd,↓opP,↓qv,↓ef,↓bslS,↓stS,↓mkS,↓rangeS,↓nextS,↓entryS,↓delS,↓mupS,↓appS,↓s2bS,↓resS,evB,Sx.look,slot,↓lkL,putS,putO,argsL,↓reduceIte,ofV,of1,lookH,putH,List.replicate,List.append,convS,fldA,nthT,idxA,idxS,fldS,oslN,bnd,slS,unS,valI,lenS,lookS,takeC,psB,asRow,csB,rdF,Ent.row,ldS,sz,szL,wrF,bldF,plT,bldS,srcS,nilS,nilEq,mapC,binH,binS2,structS,eqL,eqF,binS,arrS,isI,tupS,stor,storL,Value.oneCell',minS,maxS,capS,Nat.reduceAdd,Nat.reduceSub,Nat.reduceMul,Nat.reduceLT,Nat.reduceLeDiff,Nat.reduceEqDiff,Nat.reduceBEq,Int.reduceToNat,Int.reduceNeg,if_true,if_false,reduceIte,stays,inL,same1,qn,ldN,convN,lenN,cond_true,cond_false,implies_true,Int.reduceEq,Int.reduceNe,Int.reduceLE,Int.reduceLT,forall_eq_or_imp,forall_eq,ne_eq,reduceCtorEq,notInt,numB,tabB,Array.reduceGetElem?,upG,up,nth,lay,rcB,rnm,rnmL,wrB,pcB,res57,Option.isNone,lhB,g1,hrow1,hfi,z2,liB]
          repeat (refine ⟨by omega, ?_⟩)
          exact drop _ _ _ (by rw [hH1, List.append_assoc]) (hmay.trans (hmi.trans hd))
      · have g1 : decide ((i : Int) < (p.length : Nat)) = false := decide_eq_false (by omega)
        have hd : p.drop i = [] := List.drop_of_length_le (by omega)
        rw [hd] at hmi
        simp -implicitDefEqProofs (maxSteps := 1000000) (disch := omega) only [↓vcB,↓gd,↓opP,↓qv,↓ef,↓bslS,↓stS,↓mkS,↓rangeS,↓nextS,↓entryS,↓delS,↓mupS,↓appS,↓s2bS,↓resS,evB,Sx.look,slot,↓lkL,putS,putO,argsL,↓reduceIte,ofV,of1,lookH,putH,List.replicate,List.append,convS,fldA,nthT,idxA,idxS,fldS,oslN,bnd,slS,unS,valI,lenS,lookS,takeC,psB,asRow,csB,rdF,Ent.row,ldS,sz,szL,wrF,bldF,plT,bldS,srcS,nilS,nilEq,mapC,binH,binS2,structS,eqL,eqF,binS,arrS,isI,tupS,stor,storL,Value.oneCell',minS,maxS,capS,Nat.reduceAdd,Nat.reduceSub,Nat.reduceMul,Nat.reduceLT,Nat.reduceLeDiff,Nat.reduceEqDiff,Nat.reduceBEq,Int.reduceToNat,Int.reduceNeg,if_true,if_false,reduceIte,stays,inL,same1,qn,ldN,convN,lenN,cond_true,cond_false,implies_true,Int.reduceEq,Int.reduceNe,Int.reduceLE,Int.reduceLT,forall_eq_or_imp,forall_eq,ne_eq,reduceCtorEq,notInt,numB,tabB,Array.reduceGetElem?,upG,up,nth,lay,rcB,rnm,rnmL,wrB,pcB,res57,Option.isNone,lhB,g1,liB]
        repeat (refine ⟨by omega, ?_⟩)
        exact drop _ _ _ hH1 (hmay.trans (hmi.trans (by rw [mayL])))
end Go.Proofs.Ytgocfglmideobaa

set_option linter.all false
set_option maxRecDepth 40000
namespace Go.Proofs.Ytgocfglmideobaa
open Go Go.Sx
theorem res58 : Try.f58.results.toList = [.tmp 4] := rfl
theorem sim_last {A : List Chunk} {c c' : Chunk} (hc : chSim c c') : Sim (A ++ [c]) (A ++ [c']) := ⟨by simp, fun k => by
  by_cases h1 : k < A.length
  · rw [lookH_at _ h1, lookH_at _ h1]; exact chSim.refl _
  · obtain ⟨i, rfl⟩ : ∃ i, k = A.length + i := ⟨k - A.length, by omega⟩
    rw [lookH_app, lookH_app]
    cases i with
    | zero => exact hc
    | succ i => exact chSim.refl _⟩
theorem chSim_row {wr : Bool} {n n' s : Nat} {f f' : Nat → SV} (hn : n = n') (hf : ∀ i, i < n → f i = f' i) : chSim (.row wr n s f) (.row wr n' s f') := by
  subst hn
  exact ⟨f', rfl, hf⟩
theorem sim_two {A : List Chunk} {c1 c c' : Chunk} (hc : chSim c c') : Sim (A ++ [c1, c]) (A ++ [c1, c']) := by
  have := sim_last (A := A ++ [c1]) hc
  simpa using this
theorem callP_simL {P : Pr} {f : FuncId} {args : List SV} {h h' : List Chunk} {K : Tok → SV → List Chunk → Prop} (hs : Sim h h') (hc : callP P f args h' K) : callP P f args h K := by
  intro C ρ w hkn hM hok
  have := hc C ρ w hkn (hM.sim hs) (by rw [← hs.1]; exact hok)
  rcases this with ⟨w', ρ', sv, h2, q1, q2, q3, q4, q5, q6⟩ | ⟨h1, h2⟩
  · exact .inl ⟨w', ρ', sv, h2, q1, q2, q3, by rw [hs.1]; exact q4, q5, by rw [hs.1]; exact q6⟩
  · refine .inr ⟨h1, fun F n hF hro => CallsIn.mono (h2 F n hF hro) ?_⟩
    rintro e w' ⟨ρ', sv, h3, rfl, q2, q3, q4, q5, q6⟩
    exact ⟨ρ', sv, h3, rfl, q2, q3, by rw [hs.1]; exact q4, q5, by rw [hs.1]; exact q6⟩
def mayP (k : Int) (q : List (Msg × List Msg)) : Int := if hPrep k = false ∧ 0 < q.length then 1 else if q.length > 64 then 18 else mayQ (hPreps k) q
theorem mayQ_drop (is : Bool) (q : List (Msg × List Msg)) {i : Nat} (hi : i < q.length) : mayQ is (q.drop i) = if mayW true 2 [q[i].1] ≠ 0 then mayW true 2 [q[i].1] else if mayW is 3 q[i].2 ≠ 0 then mayW is 3 q[i].2 else mayQ is (q.drop (i + 1)) := by
  rw [List.drop_eq_getElem_cons hi]
  obtain ⟨⟨m, l⟩, hm⟩ : ∃ x, q[i] = x := ⟨_, rfl⟩
  rw [hm, mayQ]
  have e : mayW true 2 [m] = if m.kind ≠ 2 then 1 else may m := by
    unfold mayW
    rw [if_neg (by simp), if_neg (by simp), mayL, mayL]
    by_cases h1 : m.kind ≠ 2
    · rw [if_pos h1, if_pos h1]
    · rw [if_neg h1, if_neg h1]
      by_cases h2 : may m ≠ 0
      · rw [if_pos h2]
      · rw [if_neg h2]
        have : may m = 0 := Classical.not_not.1 h2
        exact this.symm
  show _ = if mayW true 2 [m] ≠ 0 then mayW true 2 [m] else if mayW is 3 l ≠ 0 then mayW is 3 l else _
  rw [e]
  rfl
set_option maxHeartbeats 4000000 in
theorem c58R (k : Int) (q : List (Msg × List Msg)) (IH : ∀ x ∈ q, MayAt x.1 ∧ ∀ m ∈ x.2, MayAt m) (kq : Nat) (wq : Bool) (fq : Nat → List SV) (h : List Chunk) (hrow : lookH h kq = .row wq q.length 74 fun i => .agg (fq i)) (hq : PrepsH h q fq) (K : Tok → SV → List Chunk → Prop) (hK : K .mk (.int .i64 (mayP k q)) h) :
    callP Try.prog 58 [.osl kq 0 0 74 q.length, hasS k] h K := by
  refine callP_good fun hgood => ?_
  have drop : ∀ (H1 x : List Chunk) e, H1 = h ++ x → mayP k q = e → IntoR h.length (.int .i64 e) H1 K := fun H1 x e hH he => by
    rw [he] at hK
    rw [hH]
    exact intoR_drop hgood trivial hK
  obtain ⟨NC, hNC⟩ : ∃ NC : Prop, NC ↔ ¬ (hPrep k = false ∧ 0 < q.length) := ⟨_, Iff.rfl⟩
  refine callP_of_code tabOk Try.func58 (by kernel_rfl) rfl (Nat.le_of_ble_eq_true rfl) ?_
  rw [Try.ntmps58]
  unfold hasS
  refine codeP_seq (pl := np) tabOk follows_mixed (by kernel_rfl) (fun st => ∃ (H0 x : List Chunk) (j : Nat → Value), H0 = h ++ x ∧ lookH H0 h.length = (.cells true [.bool (hView k), .bool (hSeq k), .bool (hDig k), .bool (hBun k), .bool (hBuns k), .bool (hProof k), .bool (hPrep k), .bool (hPreps k), .int .i64 (if k = 7 then 6 else if k = 6 ∨ k = 9 then 5 else 0)]) ∧ st = ⟨⟨44, [(0, .osl kq 0 0 74 q.length), (3, .ptr h.length 0), (4, .int .i64 0)], j⟩, H0, []⟩) ?_ ?_
  · simp -implicitDefEqProofs (maxSteps := 1000000) (disch := omega) only [↓vcB,↓gd,↓opP,↓qv,↓ef,↓bslS,↓stS,↓mkS,↓rangeS,↓nextS,↓entryS,↓delS,↓mupS,↓appS,↓s2bS,↓resS,evB,Sx.look,slot,↓lkL,putS,putO,argsL,↓reduceIte,ofV,of1,lookH,putH,List.replicate,List.append,convS,fldA,nthT,idxA,idxS,fldS,oslN,bnd,slS,unS,valI,lenS,lookS,takeC,psB,asRow,csB,rdF,Ent.row,ldS,sz,szL,wrF,bldF,plT,bldS,srcS,nilS,nilEq,mapC,binH,binS2,structS,eqL,eqF,binS,arrS,isI,tupS,stor,storL,Value.oneCell',minS,maxS,capS,Nat.reduceAdd,Nat.reduceSub,Nat.reduceMul,Nat.reduceLT,Nat.reduceLeDiff,Nat.reduceEqDiff,Nat.reduceBEq,Int.reduceToNat,Int.reduceNeg,if_true,if_false,reduceIte,stays,inL,same1,qn,ldN,convN,lenN,cond_true,cond_false,implies_true,Int.reduceEq,Int.reduceNe,Int.reduceLE,Int.reduceLT,forall_eq_or_imp,forall_eq,ne_eq,reduceCtorEq,notInt,numB,tabB,Array.reduceGetElem?,upG,up,nth,lay,rcB,rnm,rnmL,wrB,pcB,res58,Option.isNone,lhB,liB]
    repeat (refine ⟨by omega, ?_⟩)
    refine into_keep [(0, .osl kq 0 0 74 q.length), (3, .ptr h.length 0), (4, .int .i64 0)] (by simp [sameT, slot, lkL]) fun j => ⟨_, _, j, rfl, lookH_end _ _, rfl⟩
  rintro _ ⟨H0, x0, j0, hH0, hx0, rfl⟩
  refine codeP_seq (pl := np) tabOk follows_mixed (by kernel_rfl) (fun st => ∃ (j : Nat → Value), NC ∧ q.length ≤ 64 ∧ st = ⟨⟨44, [(0, .osl kq 0 0 74 q.length), (3, .ptr h.length 0), (4, .int .i64 0)], j⟩, H0, []⟩) ?_ ?_
  · by_cases c1 : hPrep k = false ∧ 0 < q.length
    · have z1 : decide (((q.length : Nat) : Int) > 0) = true := decide_eq_true (by omega)
      have hd := drop H0 _ 1 hH0 (by unfold mayP; rw [if_pos c1])
      have z2 := c1.1
      simp -implicitDefEqProofs (maxSteps := 1000000) (disch := omega) only [↓vcB,↓gd,↓opP,↓qv,↓ef,↓bslS,↓stS,↓mkS,↓rangeS,↓nextS,↓entryS,↓delS,↓mupS,↓appS,↓s2bS,↓resS,evB,Sx.look,slot,↓lkL,putS,putO,argsL,↓reduceIte,ofV,of1,lookH,putH,List.replicate,List.append,convS,fldA,nthT,idxA,idxS,fldS,oslN,bnd,slS,unS,valI,lenS,lookS,takeC,psB,asRow,csB,rdF,Ent.row,ldS,sz,szL,wrF,bldF,plT,bldS,srcS,nilS,nilEq,mapC,binH,binS2,structS,eqL,eqF,binS,arrS,isI,tupS,stor,storL,Value.oneCell',minS,maxS,capS,Nat.reduceAdd,Nat.reduceSub,Nat.reduceMul,Nat.reduceLT,Nat.reduceLeDiff,Nat.reduceEqDiff,Nat.reduceBEq,Int.reduceToNat,Int.reduceNeg,if_true,if_false,reduceIte,stays,inL,same1,qn,ldN,convN,lenN,cond_true,cond_false,implies_true,Int.reduceEq,Int.reduceNe,Int.reduceLE,Int.reduceLT,forall_eq_or_imp,forall_eq,ne_eq,reduceCtorEq,notInt,numB,tabB,Array.reduceGetElem?,upG,up,nth,lay,rcB,rnm,rnmL,wrB,pcB,res58,Option.isNone,lhB,z1,z2,hx0,liB]
      repeat (refine ⟨by omega, ?_⟩)
      exact hd
    · have hc : ∀ {P : Prop}, (hPrep k = true → P) → (hPrep k = false → decide (((q.length : Nat) : Int) > 0) = false → P) → P := fun a c => by
        cases z : hPrep k with
        | true => exact a z
        | false => exact c z (decide_eq_false (fun h => c1 ⟨z, by omega⟩))
      have nc := hNC.2 c1
      by_cases c3 : q.length > 64
      · have z6 : decide (((q.length : Nat) : Int) > 64) = true := decide_eq_true (by omega)
        have hd := drop H0 _ 18 hH0 (by unfold mayP; rw [if_neg c1, if_pos c3])
        refine hc (fun z1 => ?_) fun z1 z3 => ?_
        · simp -implicitDefEqProofs (maxSteps := 1000000) (disch := omega) only [↓vcB,↓gd,↓opP,↓qv,↓ef,↓bslS,↓stS,↓mkS,↓rangeS,↓nextS,↓entryS,↓delS,↓mupS,↓appS,↓s2bS,↓resS,evB,Sx.look,slot,↓lkL,putS,putO,argsL,↓reduceIte,ofV,of1,lookH,putH,List.replicate,List.append,convS,fldA,nthT,idxA,idxS,fldS,oslN,bnd,slS,unS,valI,lenS,lookS,takeC,psB,asRow,csB,rdF,Ent.row,ldS,sz,szL,wrF,bldF,plT,bldS,srcS,nilS,nilEq,mapC,binH,binS2,structS,eqL,eqF,binS,arrS,isI,tupS,stor,storL,Value.oneCell',minS,maxS,capS,Nat.reduceAdd,Nat.reduceSub,Nat.reduceMul,Nat.reduceLT,Nat.reduceLeDiff,Nat.reduceEqDiff,Nat.reduceBEq,Int.reduceToNat,Int.reduceNeg,if_true,if_false,reduceIte,stays,inL,same1,qn,ldN,convN,lenN,cond_true,cond_false,implies_true,Int.reduceEq,Int.reduceNe,Int.reduceLE,Int.reduceLT,forall_eq_or_imp,forall_eq,ne_eq,reduceCtorEq,notInt,numB,tabB,Array.reduceGetElem?,upG,up,nth,lay,rcB,rnm,rnmL,wrB,pcB,res58,Option.isNone,lhB,z1,z6,hx0,liB]
          repeat (refine ⟨by omega, ?_⟩)
          exact hd
        · simp -implicitDefEqProofs (maxSteps := 1000000) (disch := omega) only [↓vcB,↓gd,↓opP,↓qv,↓ef,↓bslS,↓stS,↓mkS,↓rangeS,↓nextS,↓entryS,↓delS,↓mupS,↓appS,↓s2bS,↓resS,evB,Sx.look,slot,↓lkL,putS,putO,argsL,↓reduceIte,ofV,of1,lookH,putH,List.replicate,List.append,convS,fldA,nthT,idxA,idxS,fldS,oslN,bnd,slS,unS,valI,lenS,lookS,takeC,psB,asRow,csB,rdF,Ent.row,ldS,sz,szL,wrF,bldF,plT,bldS,srcS,nilS,nilEq,mapC,binH,binS2,structS,eqL,eqF,binS,arrS,isI,tupS,stor,storL,Value.oneCell',minS,maxS,capS,Nat.reduceAdd,Nat.reduceSub,Nat.reduceMul,Nat.reduceLT,Nat.reduceLeDiff,Nat.reduceEqDiff,Nat.reduceBEq,Int.reduceToNat,Int.reduceNeg,if_true,if_false,reduceIte,stays,inL,same1,qn,ldN,convN,lenN,cond_true,cond_false,implies_true,Int.reduceEq,Int.reduceNe,Int.reduceLE,Int.reduceLT,forall_eq_or_imp,forall_eq,ne_eq,reduceCtorEq,notInt,numB,tabB,Array.reduceGetElem?,upG,up,nth,lay,rcB,rnm,rnmL,wrB,pcB,res58,Option.isNone,lhB,z1,z3,z6,hx0,liB]
          repeat (refine ⟨by omega, ?_⟩)
          exact hd
      · have z6 : decide (((q.length : Nat) : Int) > 64) = false := decide_eq_false (by omega)
        refine hc (fun z1 => ?_) fun z1 z3 => ?_
        · simp -implicitDefEqProofs (maxSteps := 1000000) (disch := omega) only [↓vcB,↓gd,↓opP,↓qv,↓ef,↓bslS,↓stS,↓mkS,↓rangeS,↓nextS,↓entryS,↓delS,↓mupS,↓appS,↓s2bS,↓resS,evB,Sx.look,slot,↓lkL,putS,putO,argsL,↓reduceIte,ofV,of1,lookH,putH,List.replicate,List.append,convS,fldA,nthT,idxA,idxS,fldS,oslN,bnd,slS,unS,valI,lenS,lookS,takeC,psB,asRow,csB,rdF,Ent.row,ldS,sz,szL,wrF,bldF,plT,bldS,srcS,nilS,nilEq,mapC,binH,binS2,structS,eqL,eqF,binS,arrS,isI,tupS,stor,storL,Value.oneCell',minS,maxS,capS,Nat.reduceAdd,Nat.reduceSub,Nat.reduceMul,Nat.reduceLT,Nat.reduceLeDiff,Nat.reduceEqDiff,Nat.reduceBEq,Int.reduceToNat,Int.reduceNeg,if_true,if_false,reduceIte,stays,inL,same1,qn,ldN,convN,lenN,cond_true,cond_false,implies_true,Int.reduceEq,Int.reduceNe,Int.reduceLE,Int.reduceLT,forall_eq_or_imp,forall_eq,ne_eq,reduceCtorEq,notInt,numB,tabB,Array.reduceGetElem?,upG,up,nth,lay,rcB,rnm,rnmL,wrB,pcB,res58,Option.isNone,lhB,z1,z6,hx0,liB]
          repeat (refine ⟨by omega, ?_⟩)
          exact into_keep [(0, .osl kq 0 0 74 q.length), (3, .ptr h.length 0), (4, .int .i64 0)] (by simp [sameT, slot, lkL]) fun j => ⟨j, nc, by omega, rfl⟩
        · simp -implicitDefEqProofs (maxSteps := 1000000) (disch := omega) only [↓vcB,↓gd,↓opP,↓qv,↓ef,↓bslS,↓stS,↓mkS,↓rangeS,↓nextS,↓entryS,↓delS,↓mupS,↓appS,↓s2bS,↓resS,evB,Sx.look,slot,↓lkL,putS,putO,argsL,↓reduceIte,ofV,of1,lookH,putH,List.replicate,List.append,convS,fldA,nthT,idxA,idxS,fldS,oslN,bnd,slS,unS,valI,lenS,lookS,takeC,psB,asRow,csB,rdF,Ent.row,ldS,sz,szL,wrF,bldF,plT,bldS,srcS,nilS,nilEq,mapC,binH,binS2,structS,eqL,eqF,binS,arrS,isI,tupS,stor,storL,Value.oneCell',minS,maxS,capS,Nat.reduceAdd,Nat.reduceSub,Nat.reduceMul,Nat.reduceLT,Nat.reduceLeDiff,Nat.reduceEqDiff,Nat.reduceBEq,Int.reduceToNat,Int.reduceNeg,if_true,if_false,reduceIte,stays,inL,same1,qn,ldN,convN,lenN,cond_true,cond_false,implies_true,Int.reduceEq,Int.reduceNe,Int.reduceLE,Int.reduceLT,forall_eq_or_imp,forall_eq,ne_eq,reduceCtorEq,notInt,numB,tabB,Array.reduceGetElem?,upG,up,nth,lay,rcB,rnm,rnmL,wrB,pcB,res58,Option.isNone,lhB,z1,z3,z6,hx0,liB]
          repeat (refine ⟨by omega, ?_⟩)
          exact into_keep [(0, .osl kq 0 0 74 q.length), (3, .ptr h.length 0), (4, .int .i64 0)] (by simp [sameT, slot, lkL]) fun j => ⟨j, nc, by omega, rfl⟩
  · rintro _ ⟨j2, hnc, hl, rfl⟩
    have hmay : mayP k q = mayQ (hPreps k) q := by unfold mayP; rw [if_neg (hNC.1 hnc), if_neg (by omega)]
    refine codeP_of_vc (pl := np) tabOk follows_mixed (by kernel_rfl) ?_
    simp -implicitDefEqProofs (maxSteps := 1000000) (disch := omega) only [↓vcB,↓gd,↓opP,↓qv,↓ef,↓bslS,↓stS,↓mkS,↓rangeS,↓nextS,↓entryS,↓delS,↓mupS,↓appS,↓s2bS,↓resS,evB,Sx.look,slot,↓lkL,putS,putO,argsL,↓reduceIte,ofV,of1,lookH,putH,List.replicate,List.append,convS,fldA,nthT,idxA,idxS,fldS,oslN,bnd,slS,unS,valI,lenS,lookS,takeC,psB,asRow,csB,rdF,Ent.row,ldS,sz,szL,wrF,bldF,plT,bldS,srcS,nilS,nilEq,mapC,binH,binS2,structS,eqL,eqF,binS,arrS,isI,tupS,stor,storL,Value.oneCell',minS,maxS,capS,Nat.reduceAdd,Nat.reduceSub,Nat.reduceMul,Nat.reduceLT,Nat.reduceLeDiff,Nat.reduceEqDiff,Nat.reduceBEq,Int.reduceToNat,Int.reduceNeg,if_true,if_false,reduceIte,stays,inL,same1,qn,ldN,convN,lenN,cond_true,cond_false,implies_true,Int.reduceEq,Int.reduceNe,Int.reduceLE,Int.reduceLT,forall_eq_or_imp,forall_eq,ne_eq,reduceCtorEq,notInt,numB,tabB,Array.reduceGetElem?,upG,up,nth,lay,rcB,rnm,rnmL,wrB,pcB,res58,Option.isNone,lhB,liB]
    repeat (refine ⟨by omega, ?_⟩)
    refine codeP_loop (pl := np) tabOk follows_mixed (by kernel_rfl) (fun z st => ∃ (i : Nat) (H1 x : List Chunk) (j : Nat → Value), i + z = q.length ∧ H1 = h ++ x ∧ lookH H1 h.length = (.cells true [.bool (hView k), .bool (hSeq k), .bool (hDig k), .bool (hBun k), .bool (hBuns k), .bool (hProof k), .bool (hPrep k), .bool (hPreps k), .int .i64 (if k = 7 then 6 else if k = 6 ∨ k = 9 then 5 else 0)]) ∧ mayQ (hPreps k) q = mayQ (hPreps k) (q.drop i) ∧ st = ⟨⟨44, [(0, .osl kq 0 0 74 q.length), (3, .ptr h.length 0), (4, .int .i64 0), (22, .osl kq 0 0 74 q.length), (23, .int .i64 (q.length : Nat)), (24, .int .i64 (i : Nat))], j⟩, H1, []⟩) ?_ ?_
    · refine into_keep [(0, .osl kq 0 0 74 q.length), (3, .ptr h.length 0), (4, .int .i64 0), (22, .osl kq 0 0 74 q.length), (23, .int .i64 (q.length : Nat)), (24, .int .i64 (0 : Nat))] (by simp [sameT, slot, lkL]) fun j => ⟨q.length, 0, H0, x0, j, by omega, hH0, hx0, rfl, rfl⟩
    · rintro z st ⟨i, H1, x, j, hiz, hH1, hx1, hmi, rfl⟩
      have hE : Ext (fun _ => False) h H1 := by rw [hH1]; exact (Ext.refl _ _).app _
      have hrow1 := hE.look hrow (by simp) fun h => h
      have hl1 : h.length < H1.length := lookH_lt hx1 (by simp)
      by_cases hi : i < q.length
      · have g1 : decide ((i : Int) < (q.length : Nat)) = true := decide_eq_true (by omega)
        have a1 : IntKind.i64.wrap ((i : Int) + 1) = ((i + 1 : Nat) : Int) := by rw [wrap64 (by omega) (by omega)]; omega
        have hd := mayQ_drop (hPreps k) q hi
        have hM := hq.get hi
        have hIH := IH q[i] (List.getElem_mem hi)
        obtain ⟨mi, hmi2⟩ : ∃ mi, q[i] = mi := ⟨_, rfl⟩
        rw [hmi2] at hd hM hIH
        obtain ⟨m, l⟩ := mi
        obtain ⟨lm, kl, wl, fl, hfi, hM1, hrl, hls⟩ := hM
        have hM0 := hM1
        obtain ⟨k', f', v', s', d', b', bs', p', q', key', of'⟩ := m
        rw [MsgH] at hM1
        obtain ⟨sb, sbs, kp', wp', fp', kq', wq', fq', hlm, h1, h2, h3, h4, h5, h6⟩ := hM1
        obtain ⟨kb, wb, rfl, _⟩ := h1
        obtain ⟨kbs, wbs, fb, rfl, _, _⟩ := h2
        unfold dig32 at hlm
        rw [hlm] at hfi hM0
        simp only [List.cons_append, List.nil_append] at hfi
        simp only at hrl hls hd hIH hfi
        simp -implicitDefEqProofs (maxSteps := 1000000) (disch := omega) only [↓vcB,↓gd,↓opP,↓qv,↓ef,↓bslS,↓stS,↓mkS,↓rangeS,↓nextS,↓entryS,↓delS,↓mupS,↓appS,↓s2bS,↓resS,evB,Sx.look,slot,↓lkL,putS,putO,argsL,↓reduceIte,ofV,of1,lookH,putH,List.replicate,List.append,convS,fldA,nthT,idxA,idxS,fldS,oslN,bnd,slS,unS,valI,lenS,lookS,takeC,psB,asRow,csB,rdF,Ent.row,ldS,sz,szL,wrF,bldF,plT,bldS,srcS,nilS,nilEq,mapC,binH,binS2,structS,eqL,eqF,binS,arrS,isI,tupS,stor,storL,Value.oneCell',minS,maxS,capS,Nat.reduceAdd,Nat.reduceSub,Nat.reduceMul,Nat.reduceLT,Nat.reduceLeDiff,Nat.reduceEqDiff,Nat.reduceBEq,Int.reduceToNat,Int.reduceNeg,if_true,if_false,reduceIte,stays,inL,same1,qn,ldN,convN,lenN,cond_true,cond_false,implies_true,Int.reduceEq,Int.reduceNe,Int.reduceLE,Int.reduceLT,forall_eq_or_imp,forall_eq,ne_eq,reduceCtorEq,notInt,numB,tabB,Array.reduceGetElem?,upG,up,nth,lay,rcB,rnm,rnmL,wrB,pcB,res58,Option.isNone,lhB,g1,hrow1,hfi,liB]
        repeat (refine ⟨by omega, ?_⟩)
        obtain ⟨L, hL⟩ : ∃ L : List SV, L = [.int .i64 k', .int .i64 f', .int .i64 v', .int .i64 s', .fam 32 1 fun i => .int .u8 (nat (d' i)), .osl kb 0 0 1 b'.length, .osl kbs 0 0 1 bs'.length, .osl kp' 0 0 73 p'.length, .osl kq' 0 0 74 q'.length, .int .i64 key', .fam 32 1 fun i => .int .u8 (nat (of' i))] := ⟨_, rfl⟩
        refine callP_simL (h' := H1 ++ [Chunk.cells true [.int .i64 k', .int .i64 f', .int .i64 v', .int .i64 s', .fam 32 1 fun i => .int .u8 (nat (d' i)), .osl kb 0 0 1 b'.length, .osl kbs 0 0 1 bs'.length, .osl kp' 0 0 73 p'.length, .osl kq' 0 0 74 q'.length, .int .i64 key', .fam 32 1 fun i => .int .u8 (nat (of' i)), .osl kl 0 0 73 l.length], .row true 1 73 fun i => .agg L]) (sim_two (chSim_row rfl fun i hi => by obtain rfl : i = 0 := (by omega); rw [hL]; rfl)) ?_
        have hE2 : Ext (fun _ => False) H1 (H1 ++ [Chunk.cells true [.int .i64 k', .int .i64 f', .int .i64 v', .int .i64 s', .fam 32 1 fun i => .int .u8 (nat (d' i)), .osl kb 0 0 1 b'.length, .osl kbs 0 0 1 bs'.length, .osl kp' 0 0 73 p'.length, .osl kq' 0 0 74 q'.length, .int .i64 key', .fam 32 1 fun i => .int .u8 (nat (of' i)), .osl kl 0 0 73 l.length], .row true 1 73 fun i => .agg L]) := (Ext.refl _ _).app _
        have hr2 : lookH (H1 ++ [Chunk.cells true [.int .i64 k', .int .i64 f', .int .i64 v', .int .i64 s', .fam 32 1 fun i => .int .u8 (nat (d' i)), .osl kb 0 0 1 b'.length, .osl kbs 0 0 1 bs'.length, .osl kp' 0 0 73 p'.length, .osl kq' 0 0 74 q'.length, .int .i64 key', .fam 32 1 fun i => .int .u8 (nat (of' i)), .osl kl 0 0 73 l.length], .row true 1 73 fun i => .agg L]) (H1.length + 1) = .row true 1 73 fun i => .agg L := lookH_app _ 1 _
        have hp2 : lookH (H1 ++ [Chunk.cells true [.int .i64 k', .int .i64 f', .int .i64 v', .int .i64 s', .fam 32 1 fun i => .int .u8 (nat (d' i)), .osl kb 0 0 1 b'.length, .osl kbs 0 0 1 bs'.length, .osl kp' 0 0 73 p'.length, .osl kq' 0 0 74 q'.length, .int .i64 key', .fam 32 1 fun i => .int .u8 (nat (of' i)), .osl kl 0 0 73 l.length], .row true 1 73 fun i => .agg L]) H1.length = Chunk.cells true [.int .i64 k', .int .i64 f', .int .i64 v', .int .i64 s', .fam 32 1 fun i => .int .u8 (nat (d' i)), .osl kb 0 0 1 b'.length, .osl kbs 0 0 1 bs'.length, .osl kp' 0 0 73 p'.length, .osl kq' 0 0 74 q'.length, .int .i64 key', .fam 32 1 fun i => .int .u8 (nat (of' i)), .osl kl 0 0 73 l.length] := lookH_app0 _ _
        obtain ⟨H2, hH2⟩ : ∃ H2, H2 = H1 ++ [Chunk.cells true [.int .i64 k', .int .i64 f', .int .i64 v', .int .i64 s', .fam 32 1 fun i => .int .u8 (nat (d' i)), .osl kb 0 0 1 b'.length, .osl kbs 0 0 1 bs'.length, .osl kp' 0 0 73 p'.length, .osl kq' 0 0 74 q'.length, .int .i64 key', .fam 32 1 fun i => .int .u8 (nat (of' i)), .osl kl 0 0 73 l.length], .row true 1 73 fun i => .agg L] := ⟨_, rfl⟩
        rw [← hH2] at hE2 hr2 hp2 ⊢
        have hx2 := hE2.look hx1 (by simp) fun h => h
        have hH2' : H2 = h ++ (x ++ [Chunk.cells true [.int .i64 k', .int .i64 f', .int .i64 v', .int .i64 s', .fam 32 1 fun i => .int .u8 (nat (d' i)), .osl kb 0 0 1 b'.length, .osl kbs 0 0 1 bs'.length, .osl kp' 0 0 73 p'.length, .osl kq' 0 0 74 q'.length, .int .i64 key', .fam 32 1 fun i => .int .u8 (nat (of' i)), .osl kl 0 0 73 l.length], .row true 1 73 fun i => .agg L]) := by rw [hH2, hH1, List.append_assoc]
        obtain ⟨m, hm⟩ : ∃ m, m = Msg.mk k' f' v' s' d' b' bs' p' q' key' of' := ⟨_, rfl⟩
        rw [← hm] at hM0 hIH hd
        rw [← hL] at hM0
        refine c57R true 2 [m] (fun m' hm' => by rw [List.mem_singleton] at hm'; rw [hm']; exact hIH.1) (H1.length + 1) true (fun _ => L) H2 hr2 (by rw [MsgsH, MsgsH]; exact ⟨(hM0.ext hE).ext hE2, trivial⟩) _ ?_
        by_cases e1 : mayW true 2 [m] = 0
        · have z2 : (mayW true 2 [m] != 0) = false := by rw [e1]; rfl
          rw [if_neg (fun h => h e1)] at hd
          simp -implicitDefEqProofs (maxSteps := 1000000) (disch := omega) only [↓vcB,↓gd,↓opP,↓qv,↓ef,↓bslS,↓stS,↓mkS,↓rangeS,↓nextS,↓entryS,↓delS,↓mupS,↓appS,↓s2bS,↓resS,evB,Sx.look,slot,↓lkL,putS,putO,argsL,↓reduceIte,ofV,of1,lookH,putH,List.replicate,List.append,convS,fldA,nthT,idxA,idxS,fldS,oslN,bnd,slS,unS,valI,lenS,lookS,takeC,psB,asRow,csB,rdF,Ent.row,ldS,sz,szL,wrF,bldF,plT,bldS,srcS,nilS,nilEq,mapC,binH,binS2,structS,eqL,eqF,binS,arrS,isI,tupS,stor,storL,Value.oneCell',minS,maxS,capS,Nat.reduceAdd,Nat.reduceSub,Nat.reduceMul,Nat.reduceLT,Nat.reduceLeDiff,Nat.reduceEqDiff,Nat.reduceBEq,Int.reduceToNat,Int.reduceNeg,if_true,if_false,reduceIte,stays,inL,same1,qn,ldN,convN,lenN,cond_true,cond_false,implies_true,Int.reduceEq,Int.reduceNe,Int.reduceLE,Int.reduceLT,forall_eq_or_imp,forall_eq,ne_eq,reduceCtorEq,notInt,numB,tabB,Array.reduceGetElem?,upG,up,nth,lay,rcB,rnm,rnmL,wrB,pcB,res58,Option.isNone,lhB,z2,hx2,hp2,liB]
          repeat (refine ⟨by omega, ?_⟩)
          refine c57R (hPreps k) 3 l hIH.2 kl wl fl H2 ((hE.trans hE2).look hrl (by simp) fun h => h) (hls.ext (hE.trans hE2)) _ ?_
          by_cases e2 : mayW (hPreps k) 3 l = 0
          · have z3 : (mayW (hPreps k) 3 l != 0) = false := by rw [e2]; rfl
            rw [if_neg (fun h => h e2)] at hd
            simp -implicitDefEqProofs (maxSteps := 1000000) (disch := omega) only [↓vcB,↓gd,↓opP,↓qv,↓ef,↓bslS,↓stS,↓mkS,↓rangeS,↓nextS,↓entryS,↓delS,↓mupS,↓appS,↓s2bS,↓resS,evB,Sx.look,slot,↓lkL,putS,putO,argsL,↓reduceIte,ofV,of1,lookH,putH,List.replicate,List.append,convS,fldA,nthT,idxA,idxS,fldS,oslN,bnd,slS,unS,valI,lenS,lookS,takeC,psB,asRow,csB,rdF,Ent.row,ldS,sz,szL,wrF,bldF,plT,bldS,srcS,nilS,nilEq,mapC,binH,binS2,structS,eqL,eqF,binS,arrS,isI,tupS,stor,storL,Value.oneCell',minS,maxS,capS,Nat.reduceAdd,Nat.reduceSub,Nat.reduceMul,Nat.reduceLT,Nat.reduceLeDiff,Nat.reduceEqDiff,Nat.reduceBEq,Int.reduceToNat,Int.reduceNeg,if_true,if_false,reduceIte,stays,inL,same1,qn,ldN,convN,lenN,cond_true,cond_false,implies_true,Int.reduceEq,Int.reduceNe,Int.reduceLE,Int.reduceLT,forall_eq_or_imp,forall_eq,ne_eq,reduceCtorEq,notInt,numB,tabB,Array.reduceGetElem?,upG,up,nth,lay,rcB,rnm,rnmL,wrB,pcB,res58,Option.isNone,lhB,z3,a1,liB]
            repeat (refine ⟨by omega, ?_⟩)
            exact into_keep [(0, .osl kq 0 0 74 q.length), (3, .ptr h.length 0), (4, .int .i64 0), (22, .osl kq 0 0 74 q.length), (23, .int .i64 (q.length : Nat)), (24, .int .i64 (i + 1 : Nat))] (by simp [sameT, slot, lkL]) fun j => ⟨z - 1, by omega, i + 1, H2, _, j, by omega, hH2', hx2, hmi.trans hd, rfl⟩
          · have z3 : (mayW (hPreps k) 3 l != 0) = true := bne_iff_ne.2 e2
            rw [if_pos e2] at hd
            simp -implicitDefEqProofs (maxSteps := 1000000) (disch := omega) only [↓vcB,↓gd,↓opP,↓qv,↓ef,↓bslS,↓stS,↓mkS,↓rangeS,↓nextS,↓entryS,↓delS,↓mupS,↓appS,↓s2bS,↓resS,evB,Sx.look,slot,↓lkL,putS,putO,argsL,↓reduceIte,ofV,of1,lookH,putH,List.replicate,List.append,convS,fldA,nthT,idxA,idxS,fldS,oslN,bnd,slS,unS,valI,lenS,lookS,takeC,psB,asRow,csB,rdF,Ent.row,ldS,sz,szL,wrF,bldF,plT,bldS,srcS,nilS,nilEq,mapC,binH,binS2,structS,eqL,eqF,binS,arrS,isI,tupS,stor,storL,Value.oneCell',minS,maxS,capS,Nat.reduceAdd,Nat.reduceSub,Nat.reduceMul,Nat.reduceLT,Nat.reduceLeDiff,Nat.reduceEqDiff,Nat.reduceBEq,Int.reduceToNat,Int.reduceNeg,if_true,if_false,reduceIte,stays,inL,same1,qn,ldN,convN,lenN,cond_true,cond_false,implies_true,Int.reduceEq,Int.reduceNe,Int.reduceLE,Int.reduceLT,forall_eq_or_imp,forall_eq,ne_eq,reduceCtorEq,notInt,numB,tabB,Array.reduceGetElem?,upG,up,nth,lay,rcB,rnm,rnmL,wrB,pcB,res58,Option.isNone,lhB,z3,liB]
            repeat (refine ⟨by omega, ?_⟩)
            exact drop _ _ _ hH2' (hmay.trans (hmi.trans hd))
        · have z2 : (mayW true 2 [m] != 0) = true := bne_iff_ne.2 e1
          rw [if_pos e1] at hd
          simp -implicitDefEqProofs (maxSteps := 1000000) (disch := omega) only [↓vcB,↓gd,↓opP,↓qv,↓ef,↓bslS,↓stS,↓mkS,↓rangeS,↓nextS,↓entryS,↓delS,↓mupS,↓appS,↓s2bS,↓resS,evB,Sx.look,slot,↓lkL,putS,putO,argsL,↓reduceIte,ofV,of1,lookH,putH,List.replicate,List.append,convS,fldA,nthT,idxA,idxS,fldS,oslN,bnd,slS,unS,valI,lenS,lookS,takeC,psB,asRow,csB,rdF,Ent.row,ldS,sz,szL,wrF,bldF,plT,bldS,srcS,nilS,nilEq,mapC,binH,binS2,structS,eqL,eqF,binS,arrS,isI,tupS,stor,storL,Value.oneCell',minS,maxS,capS,Nat.reduceAdd,Nat.reduceSub,Nat.reduceMul,Nat.reduceLT,Nat.reduceLeDiff,Nat.reduceEqDiff,Nat.reduceBEq,Int.reduceToNat,Int.reduceNeg,if_true,if_false,reduceIte,stays,inL,same1,qn,ldN,convN,lenN,cond_true,cond_false,implies_true,Int.reduceEq,Int.reduceNe,Int.reduceLE,Int.reduceLT,forall_eq_or_imp,forall_eq,ne_eq,reduceCtorEq,notInt,numB,tabB,Array.reduceGetElem?,upG,up,nth,lay,rcB,rnm,rnmL,wrB,pcB,res58,Option.isNone,lhB,z2,liB]
          repeat (refine ⟨by omega, ?_⟩)
          exact drop _ _ _ hH2' (hmay.trans (hmi.trans hd))
      · have g1 : decide ((i : Int) < (q.length : Nat)) = false := decide_eq_false (by omega)
        have hd : q.drop i = [] := List.drop_of_length_le (by omega)
        rw [hd] at hmi
        simp -implicitDefEqProofs (maxSteps := 1000000) (disch := omega) only [↓vcB,↓gd,↓opP,↓qv,↓ef,↓bslS,↓stS,↓mkS,↓rangeS,↓nextS,↓entryS,↓delS,↓mupS,↓appS,↓s2bS,↓resS,evB,Sx.look,slot,↓lkL,putS,putO,argsL,↓reduceIte,ofV,of1,lookH,putH,List.replicate,List.append,convS,fldA,nthT,idxA,idxS,fldS,oslN,bnd,slS,unS,valI,lenS,lookS,takeC,psB,asRow,csB,rdF,Ent.row,ldS,sz,szL,wrF,bldF,plT,bldS,srcS,nilS,nilEq,mapC,binH,binS2,structS,eqL,eqF,binS,arrS,isI,tupS,stor,storL,Value.oneCell',minS,maxS,capS,Nat.reduceAdd,Nat.reduceSub,Nat.reduceMul,Nat.reduceLT,Nat.reduceLeDiff,Nat.reduceEqDiff,Nat.reduceBEq,Int.reduceToNat,Int.reduceNeg,if_true,if_false,reduceIte,stays,inL,same1,qn,ldN,convN,lenN,cond_true,cond_false,implies_true,Int.reduceEq,Int.reduceNe,Int.reduceLE,Int.reduceLT,forall_eq_or_imp,forall_eq,ne_eq,reduceCtorEq,notInt,numB,tabB,Array.reduceGetElem?,upG,up,nth,lay,rcB,rnm,rnmL,wrB,pcB,res58,Option.isNone,lhB,g1,liB]
        repeat (refine ⟨by omega, ?_⟩)
        exact drop _ _ _ hH1 (hmay.trans (hmi.trans (by rw [mayQ])))
end Go.Proofs.Ytgocfglmideobaa

set_option linter.all false
set_option maxRecDepth 40000
namespace Go.Proofs.Ytgocfglmideobaa
open Go Go.Sx

abbrev bt (B : List By) : Nat → SV := fun i => .int .u8 (nat (B.getD i 0))
/-- What a function that answers bytes leaves: what the heap held stays, but for F. -/
abbrev Out (F : Nat → Prop) (H : List Chunk) (B : List By) (K : Tok → SV → List Chunk → Prop) : Prop :=
  ∀ H' k', Ext F H H' → H.length ≤ k' → lookH H' k' = .row true B.length 1 (fun i => .int .u8 (nat (B.getD i 0))) → K .mk (.osl k' 0 0 1 B.length) H'
theorem row_sim {A : List Chunk} {n : Nat} {F : Nat → SV} {D : List By} (hn : n = D.length) (hF : ∀ i, i < n → F i = .int .u8 (nat (D.getD i 0))) :
    Sim (A ++ [.row true n 1 F]) (A ++ [.row true D.length 1 fun i => .int .u8 (nat (D.getD i 0))]) := sim_last (chSim_row hn hF)
theorem intoR_sim {nf : Nat} {v : SV} {h h' : List Chunk} {K : Tok → SV → List Chunk → Prop} (hs : Sim h h') (hk : IntoR nf v h' K) : IntoR nf v h K := fun C ρ w hC hM hok => by
  obtain ⟨ρ', v', h2, h3, h4⟩ := hk C ρ w hC (hM.sim hs) (by rw [← hs.1]; exact hok)
  exact ⟨ρ', v', h2, h3, h4⟩
theorem app_byte {B C : List By} {i : Nat} : (if i < B.length then SV.int .u8 (nat (B.getD i 0)) else .int .u8 (nat (C.getD (i - B.length) 0))) = .int .u8 (nat ((B ++ C).getD i 0)) := by
  by_cases h : i < B.length
  · rw [if_pos h]
    simp [List.getElem?_append_left h]
  · rw [if_neg h]
    simp [List.getElem?_append_right (Nat.le_of_not_lt h)]
theorem app_one {B : List By} {x : By} {i : Nat} {g : Nat → SV} (hi : i < B.length + 1) (hg : g 0 = .int .u8 (nat x)) : (if i < B.length then SV.int .u8 (nat (B.getD i 0)) else g (i - B.length)) = .int .u8 (nat ((B ++ [x]).getD i 0)) := by
  rw [← app_byte]
  by_cases h : i < B.length
  · rw [if_pos h, if_pos h]
  · rw [if_neg h, if_neg h]
    obtain e : i - B.length = 0 := by omega
    rw [e, hg]
    rfl
theorem ext_put {h H : List Chunk} {k m : Nat} (hE : Ext (fun j => j = k) h H) (hm : m = k ∨ h.length ≤ m) (x y : List Chunk) : Ext (fun j => j = k) h (putH (H ++ x) m .none ++ y) := ((hE.app x).put _ hm).app _
theorem lookH_last {A : List Chunk} {c : Chunk} {n : Nat} (hn : n = A.length) : lookH (A ++ [c]) n = c := by rw [hn]; exact lookH_end _ _
theorem bytes_conv (u : BitVec 64) : bits .or .u8 (nat (u.setWidth 8)) 128 = nat (BitVec.ofNat 8 (u.toNat % 128 + 128)) := by
  have h : (128 : Int) = nat (128#8) := rfl
  rw [h, or8]
  congr 1
  apply BitVec.eq_of_toNat_eq
  rw [BitVec.toNat_or, BitVec.toNat_ofNat, BitVec.toNat_setWidth, BitVec.toNat_ofNat]
  have hf : ∀ x : Fin 256, x.val ||| (128 % 2 ^ 8) = x.val % 128 + 128 := by decide
  have := hf ⟨u.toNat % 2 ^ 8, Nat.mod_lt _ (by decide)⟩
  simp only at this
  rw [this]
  omega
theorem bytes_conv2 (u : BitVec 64) : bits .or .u8 (nat ((u &&& 127#64).setWidth 8)) 128 = nat (BitVec.ofNat 8 (u.toNat % 128 + 128)) := by
  rw [bytes_conv]
  congr 2
  rw [BitVec.toNat_and]
  rw [show (127#64).toNat = 2 ^ 7 - 1 from rfl, Nat.and_two_pow_sub_one_eq_mod]
  omega
theorem and127 (u : BitVec 64) : bits .and .u64 (nat u) 127 = nat (u &&& 127#64) := and64 u 127#64
theorem byte_one (u : BitVec 64) : u.setWidth 8 = BitVec.ofNat 8 u.toNat := by
  apply BitVec.eq_of_toNat_eq
  rw [BitVec.toNat_setWidth, BitVec.toNat_ofNat]
theorem shr7 (u : BitVec 64) : (u >>> 7).toNat = u.toNat / 128 := by
  rw [BitVec.toNat_ushiftRight, Nat.shiftRight_eq_div_pow]
theorem wrap_ofInt (n : Int) : IntKind.u64.wrap n = nat (BitVec.ofInt 64 n) := by
  rw [wrapU rfl]
  simp only [nat, BitVec.toNat_ofInt]
  have : (0 : Int) ≤ n % 2 ^ 64 := Int.emod_nonneg _ (by decide)
  rw [show ((2 ^ 64 : Nat) : Int) = 2 ^ 64 from rfl, Int.toNat_of_nonneg this]
  rfl
theorem zig_lt {n : Int} (h : rng n) : zig n < 18446744073709551616 := by
  unfold rng at h
  unfold zig
  split <;> omega
theorem zig_toNat {n : Int} (h : rng n) : (BitVec.ofNat 64 (zig n)).toNat = zig n := by
  rw [BitVec.toNat_ofNat]
  exact Nat.mod_eq_of_lt (zig_lt h)
theorem dbl (n : Int) (h : rng n) : (BitVec.ofInt 64 n <<< 1).toNat = if 0 ≤ n then (2 * n).toNat else (2 * n + 18446744073709551616).toNat := by
  unfold rng at h
  rw [BitVec.toNat_shiftLeft, BitVec.toNat_ofInt, Nat.shiftLeft_eq]
  rw [show ((2 ^ 64 : Nat) : Int) = 18446744073709551616 from rfl, show (2 : Nat) ^ 64 = 18446744073709551616 from rfl]
  split <;> omega
theorem zf2 {n : Int} (h : rng n) (c : 0 ≤ n) : shlS .u64 (IntKind.u64.wrap n) 1 = nat (BitVec.ofNat 64 (zig n)) := by
  rw [wrap_ofInt]
  have := shl64 (BitVec.ofInt 64 n) 1 (by decide)
  rw [show ((1 : Nat) : Int) = 1 from rfl] at this
  rw [this, nat_inj]
  apply BitVec.eq_of_toNat_eq
  rw [dbl n h, zig_toNat h, if_pos c]
  unfold zig
  rw [if_pos c]
theorem zf3 {n : Int} (h : rng n) (c : ¬ 0 ≤ n) : bits .or .u64 (shlS .u64 (IntKind.u64.wrap (IntKind.i64.wrap (0 - IntKind.i64.wrap (n + 1)))) 1) 1 = nat (BitVec.ofNat 64 (zig n)) := by
  have hr := h
  unfold rng at h
  rw [wrap64 (n := n + 1) (by omega) (by omega), wrap64 (by omega) (by omega)]
  have hm : rng (0 - (n + 1)) := by unfold rng; omega
  have ho := or64 (BitVec.ofNat 64 (zig (0 - (n + 1)))) 1#64
  rw [show nat 1#64 = (1 : Int) from rfl] at ho
  rw [zf2 hm (by omega), ho, nat_inj]
  apply BitVec.eq_of_toNat_eq
  rw [BitVec.toNat_or, zig_toNat hm, zig_toNat hr]
  unfold zig
  rw [if_pos (show (0 : Int) ≤ 0 - (n + 1) by omega), if_neg c]
  obtain ⟨m, hm⟩ : ∃ m : Nat, 0 - (n + 1) = m := ⟨(0 - (n + 1)).toNat, by omega⟩
  rw [hm, show -(n + 1) = (m : Int) by omega]
  have e : (2 * (m : Int)).toNat = m <<< 1 := by rw [Nat.shiftLeft_eq]; omega
  rw [e, show (1#64).toNat = 1 from rfl, ← Nat.shiftLeft_add_eq_or_of_lt (by decide), Nat.shiftLeft_eq]
  omega
theorem xor64 (u v : BitVec 64) : bits .xor .u64 (nat u) (nat v) = nat (u ^^^ v) := by
  simp only [bits, ofInt_nat, BitVec.setWidth_eq]
  exact wrap_nat (k := .u64) rfl (u ^^^ v)
theorem zf1 {n : Int} (h : rng n) : bits .xor .u64 (shlS .u64 (IntKind.u64.wrap n) 1) (IntKind.u64.wrap (shrS .i64 n 63)) = nat (BitVec.ofNat 64 (zig n)) := by
  have hr := h
  unfold rng at h
  have hs : shrS .i64 n 63 = if 0 ≤ n then 0 else -1 := by
    unfold shrS
    show n.fdiv (2 ^ 63) = _
    rw [Int.fdiv_eq_ediv_of_nonneg _ (by decide)]
    split <;> omega
  rw [hs]
  by_cases c : 0 ≤ n
  · rw [if_pos c, zf2 hr c]
    have ho := xor64 (BitVec.ofNat 64 (zig n)) 0#64
    rw [BitVec.xor_zero] at ho
    exact ho
  · rw [if_neg c, wrap_ofInt]
    have := shl64 (BitVec.ofInt 64 n) 1 (by decide)
    rw [show ((1 : Nat) : Int) = 1 from rfl] at this
    rw [this]
    have e : IntKind.u64.wrap (-1) = nat (BitVec.allOnes 64) := rfl
    rw [e, xor64, BitVec.xor_allOnes, nat_inj]
    apply BitVec.eq_of_toNat_eq
    rw [BitVec.toNat_not, dbl n hr, zig_toNat hr, if_neg c]
    unfold zig
    rw [if_neg c, show (2 : Nat) ^ 64 = 18446744073709551616 from rfl]
    omega
theorem len_u64 {n : Nat} (h : n < 18446744073709551616) : IntKind.u64.wrap (n : Int) = nat (BitVec.ofNat 64 n) ∧ (BitVec.ofNat 64 n).toNat = n := by
  have e : (BitVec.ofNat 64 n).toNat = n := by rw [BitVec.toNat_ofNat]; exact Nat.mod_eq_of_lt h
  refine ⟨?_, e⟩
  rw [Go.Sx.wrap_small rfl (by omega) (by rw [show IntKind.u64.bits = 64 from rfl]; omega)]
  unfold nat
  rw [e]
end Go.Proofs.Ytgocfglmideobaa

set_option linter.all false
set_option maxRecDepth 40000
namespace Go.Proofs.Ytgocfglmideobaa
open Go Go.Sx
theorem res15 : Try.f15.results.toList = [.tmp 2] := rfl
theorem mayW_eq (k : Int) (p : List Msg) : mayW (hProof k) (if k = 7 then 6 else if k = 6 ∨ k = 9 then 5 else 0) p = if hProof k = false ∧ 0 < p.length then 1 else if p.length > 64 then 18 else mayL (kProof k) p := by
  unfold mayW
  by_cases c : hProof k = false ∧ 0 < p.length
  · rw [if_pos c, if_pos c]
  · rw [if_neg c, if_neg c]
    by_cases hp : 0 < p.length
    · have h1 : hProof k = true := by
        cases h : hProof k with
        | true => rfl
        | false => exact absurd ⟨h, hp⟩ c
      have h2 : k = 6 ∨ k = 7 ∨ k = 9 := by simpa [hProof, or_assoc] using h1
      have h3 : (if k = 7 then (6 : Int) else if k = 6 ∨ k = 9 then 5 else 0) = kProof k := by
        unfold kProof
        rcases h2 with rfl | rfl | rfl <;> rfl
      rw [h3]
    · have : p = [] := List.eq_nil_of_length_eq_zero (by omega)
      subst this
      simp [mayL]
theorem famEq_zero (d : Nat → By) : famEq 32 (fun i => .int .u8 (nat (d i))) (fun _ => .int .u8 0) = zero32 d := by
  unfold zero32 famEq
  rw [Bool.eq_iff_iff, decide_eq_true_iff, List.all_eq_true]
  constructor
  · intro h i hi
    have := h i (List.mem_range.1 hi)
    simp only [valI] at this
    rw [beq_iff_eq]
    apply BitVec.eq_of_toNat_eq
    simp only [nat] at this
    simpa using this
  · intro h i hi
    have := eq_of_beq (h i (List.mem_range.2 hi))
    show nat (d i) = 0
    rw [this]
    rfl
theorem may_mk (k f v s : Int) (d : Nat → By) (b : List By) (bs : List (List By)) (p : List Msg) (q : List (Msg × List Msg)) (key : Int) (of : Nat → By) : may (.mk k f v s d b bs p q key of) =
    if mayHead k f v s d = false then 1 else if mayBuns k b bs ≠ 0 then mayBuns k b bs else
    if mayW (hProof k) (if k = 7 then 6 else if k = 6 ∨ k = 9 then 5 else 0) p ≠ 0 then mayW (hProof k) (if k = 7 then 6 else if k = 6 ∨ k = 9 then 5 else 0) p else
    if mayP k q ≠ 0 then mayP k q else if k = 1 ∧ (key ≠ 0 ∨ zero32 of = false) then 1 else 0 := by
  rw [may, mayW_eq]
  rfl
set_option maxHeartbeats 4000000 in
theorem c15S (k f v s : Int) (d : Nat → By) (b : List By) (bs : List (List By)) (p : List Msg) (q : List (Msg × List Msg)) (key : Int) (of : Nat → By) (IP : ∀ m ∈ p, MayAt m) (IQ : ∀ x ∈ q, MayAt x.1 ∧ ∀ m ∈ x.2, MayAt m) : MayAt (.mk k f v s d b bs p q key of) := by
  intro l h hm K hK
  rw [may_mk] at hK
  have hm0 := hm
  rw [MsgH] at hm
  obtain ⟨sb, sbs, kp, wp, fp, kq, wq, fq, hl, h1, h2, h3, h4, h5, h6⟩ := hm
  obtain ⟨kb, wb, rfl, hkb⟩ := h1
  obtain ⟨kbs, wbs, fb, rfl, hkbs, hfb⟩ := h2
  unfold dig32 at hl
  subst hl
  refine callP_good fun hgood => ?_
  have drop : ∀ (H1 x : List Chunk) e, H1 = h ++ x → (if mayHead k f v s d = false then 1 else if mayBuns k b bs ≠ 0 then mayBuns k b bs else
    if mayW (hProof k) (if k = 7 then 6 else if k = 6 ∨ k = 9 then 5 else 0) p ≠ 0 then mayW (hProof k) (if k = 7 then 6 else if k = 6 ∨ k = 9 then 5 else 0) p else
    if mayP k q ≠ 0 then mayP k q else if k = 1 ∧ (key ≠ 0 ∨ zero32 of = false) then 1 else 0) = e → IntoR h.length (.int .i64 e) H1 K := fun H1 x e hH he => by
    rw [he] at hK
    rw [hH]
    exact intoR_drop hgood trivial hK
  obtain ⟨HD, hHD⟩ : ∃ HD : Prop, HD ↔ mayHead k f v s d = true := ⟨_, Iff.rfl⟩
  refine callP_of_code tabOk Try.func15 (by kernel_rfl) rfl (Nat.le_of_ble_eq_true rfl) ?_
  rw [Try.ntmps15]
  refine codeP_seq (pl := np) tabOk follows_mixed (by kernel_rfl) _ ?_ (fun s h => h)
  simp -implicitDefEqProofs (maxSteps := 1000000) (disch := omega) only [↓vcB,↓gd,↓opP,↓qv,↓ef,↓bslS,↓stS,↓mkS,↓rangeS,↓nextS,↓entryS,↓delS,↓mupS,↓appS,↓s2bS,↓resS,evB,Sx.look,slot,↓lkL,putS,putO,argsL,↓reduceIte,ofV,of1,lookH,putH,List.replicate,List.append,convS,fldA,nthT,idxA,idxS,fldS,oslN,bnd,slS,unS,valI,lenS,lookS,takeC,psB,asRow,csB,rdF,Ent.row,ldS,sz,szL,wrF,bldF,plT,bldS,srcS,nilS,nilEq,mapC,binH,binS2,structS,eqL,eqF,binS,arrS,isI,tupS,stor,storL,Value.oneCell',minS,maxS,capS,Nat.reduceAdd,Nat.reduceSub,Nat.reduceMul,Nat.reduceLT,Nat.reduceLeDiff,Nat.reduceEqDiff,Nat.reduceBEq,Int.reduceToNat,Int.reduceNeg,if_true,if_false,reduceIte,stays,inL,same1,qn,ldN,convN,lenN,cond_true,cond_false,implies_true,Int.reduceEq,Int.reduceNe,Int.reduceLE,Int.reduceLT,forall_eq_or_imp,forall_eq,ne_eq,reduceCtorEq,notInt,numB,tabB,Array.reduceGetElem?,upG,up,nth,lay,rcB,rnm,rnmL,wrB,pcB,res15,Option.isNone,lhB,liB]
  repeat (refine ⟨by omega, ?_⟩)
  refine into_refl ?_
  refine codeP_seq (pl := np) tabOk follows_mixed (by kernel_rfl) (fun st => ∃ (H1 x : List Chunk) (j : Nat → Value), H1 = h ++ x ∧ lookH H1 h.length = (Chunk.cells true [.int .i64 k, .int .i64 f, .int .i64 v, .int .i64 s, .fam 32 1 fun i => .int .u8 (nat (d i)), .osl kb 0 0 1 b.length, .osl kbs 0 0 1 bs.length, .osl kp 0 0 73 p.length, .osl kq 0 0 74 q.length, .int .i64 key, .fam 32 1 fun i => .int .u8 (nat (of i))]) ∧ lookH H1 (h.length + 1) = (Chunk.cells true [.bool (hView k), .bool (hSeq k), .bool (hDig k), .bool (hBun k), .bool (hBuns k), .bool (hProof k), .bool (hPrep k), .bool (hPreps k), .int .i64 (if k = 7 then 6 else if k = 6 ∨ k = 9 then 5 else 0)]) ∧ st = ⟨⟨89, [(1, .ptr h.length 0), (2, .int .i64 0), (3, .ptr (h.length + 1) 0)], j⟩, H1, []⟩) ?_ ?_
  · simp -implicitDefEqProofs (maxSteps := 1000000) (disch := omega) only [↓vcB,↓gd,↓opP,↓qv,↓ef,↓bslS,↓stS,↓mkS,↓rangeS,↓nextS,↓entryS,↓delS,↓mupS,↓appS,↓s2bS,↓resS,evB,Sx.look,slot,↓lkL,putS,putO,argsL,↓reduceIte,ofV,of1,lookH,putH,List.replicate,List.append,convS,fldA,nthT,idxA,idxS,fldS,oslN,bnd,slS,unS,valI,lenS,lookS,takeC,psB,asRow,csB,rdF,Ent.row,ldS,sz,szL,wrF,bldF,plT,bldS,srcS,nilS,nilEq,mapC,binH,binS2,structS,eqL,eqF,binS,arrS,isI,tupS,stor,storL,Value.oneCell',minS,maxS,capS,Nat.reduceAdd,Nat.reduceSub,Nat.reduceMul,Nat.reduceLT,Nat.reduceLeDiff,Nat.reduceEqDiff,Nat.reduceBEq,Int.reduceToNat,Int.reduceNeg,if_true,if_false,reduceIte,stays,inL,same1,qn,ldN,convN,lenN,cond_true,cond_false,implies_true,Int.reduceEq,Int.reduceNe,Int.reduceLE,Int.reduceLT,forall_eq_or_imp,forall_eq,ne_eq,reduceCtorEq,notInt,numB,tabB,Array.reduceGetElem?,upG,up,nth,lay,rcB,rnm,rnmL,wrB,pcB,res15,Option.isNone,lhB,liB]
    repeat (refine ⟨by omega, ?_⟩)
    refine c53 k _ _ ?_
    unfold hasS
    simp -implicitDefEqProofs (maxSteps := 1000000) (disch := omega) only [↓vcB,↓gd,↓opP,↓qv,↓ef,↓bslS,↓stS,↓mkS,↓rangeS,↓nextS,↓entryS,↓delS,↓mupS,↓appS,↓s2bS,↓resS,evB,Sx.look,slot,↓lkL,putS,putO,argsL,↓reduceIte,ofV,of1,lookH,putH,List.replicate,List.append,convS,fldA,nthT,idxA,idxS,fldS,oslN,bnd,slS,unS,valI,lenS,lookS,takeC,psB,asRow,csB,rdF,Ent.row,ldS,sz,szL,wrF,bldF,plT,bldS,srcS,nilS,nilEq,mapC,binH,binS2,structS,eqL,eqF,binS,arrS,isI,tupS,stor,storL,Value.oneCell',minS,maxS,capS,Nat.reduceAdd,Nat.reduceSub,Nat.reduceMul,Nat.reduceLT,Nat.reduceLeDiff,Nat.reduceEqDiff,Nat.reduceBEq,Int.reduceToNat,Int.reduceNeg,if_true,if_false,reduceIte,stays,inL,same1,qn,ldN,convN,lenN,cond_true,cond_false,implies_true,Int.reduceEq,Int.reduceNe,Int.reduceLE,Int.reduceLT,forall_eq_or_imp,forall_eq,ne_eq,reduceCtorEq,notInt,numB,tabB,Array.reduceGetElem?,upG,up,nth,lay,rcB,rnm,rnmL,wrB,pcB,res15,Option.isNone,lhB,liB]
    repeat (refine ⟨by omega, ?_⟩)
    refine into_keep [(1, .ptr h.length 0), (2, .int .i64 0), (3, .ptr (h.length + 1) 0)] (by simp [sameT, slot, lkL]) fun j => ⟨_, _, j, rfl, lookH_app _ 0 _, lookH_app _ 1 _, rfl⟩
  rintro _ ⟨H1, x, j0, hH1, hx, hy, rfl⟩
  have hE : Ext (fun _ => False) h H1 := by rw [hH1]; exact (Ext.refl _ _).app _
  have hM := hm0.ext hE
  refine codeP_seq (pl := np) tabOk follows_mixed (by kernel_rfl) (fun st => ∃ (j : Nat → Value), HD ∧ st = ⟨⟨89, [(1, .ptr h.length 0), (2, .int .i64 0), (3, .ptr (h.length + 1) 0)], j⟩, H1, []⟩) ?_ ?_
  · have hd1 : mayHead k f v s d = false → IntoR h.length (.int .i64 1) H1 K := fun e => drop H1 x 1 hH1 (by rw [if_pos e])
    by_cases c1 : k < 1
    · have z1 : decide (k < 1) = true := decide_eq_true c1
      simp -implicitDefEqProofs (maxSteps := 1000000) (disch := omega) only [↓vcB,↓gd,↓opP,↓qv,↓ef,↓bslS,↓stS,↓mkS,↓rangeS,↓nextS,↓entryS,↓delS,↓mupS,↓appS,↓s2bS,↓resS,evB,Sx.look,slot,↓lkL,putS,putO,argsL,↓reduceIte,ofV,of1,lookH,putH,List.replicate,List.append,convS,fldA,nthT,idxA,idxS,fldS,oslN,bnd,slS,unS,valI,lenS,lookS,takeC,psB,asRow,csB,rdF,Ent.row,ldS,sz,szL,wrF,bldF,plT,bldS,srcS,nilS,nilEq,mapC,binH,binS2,structS,eqL,eqF,binS,arrS,isI,tupS,stor,storL,Value.oneCell',minS,maxS,capS,Nat.reduceAdd,Nat.reduceSub,Nat.reduceMul,Nat.reduceLT,Nat.reduceLeDiff,Nat.reduceEqDiff,Nat.reduceBEq,Int.reduceToNat,Int.reduceNeg,if_true,if_false,reduceIte,stays,inL,same1,qn,ldN,convN,lenN,cond_true,cond_false,implies_true,Int.reduceEq,Int.reduceNe,Int.reduceLE,Int.reduceLT,forall_eq_or_imp,forall_eq,ne_eq,reduceCtorEq,notInt,numB,tabB,Array.reduceGetElem?,upG,up,nth,lay,rcB,rnm,rnmL,wrB,pcB,res15,Option.isNone,lhB,hx,hy,z1,liB]
      repeat (refine ⟨by omega, ?_⟩)
      exact hd1 (by unfold mayHead; rw [decide_eq_false (show ¬ 1 ≤ k by omega)]; rfl)
    · have z1 : decide (k < 1) = false := decide_eq_false c1
      have y1 : decide (1 ≤ k) = true := decide_eq_true (by omega)
      by_cases c2 : k > 9
      · have z2 : decide (k > 9) = true := decide_eq_true c2
        simp -implicitDefEqProofs (maxSteps := 1000000) (disch := omega) only [↓vcB,↓gd,↓opP,↓qv,↓ef,↓bslS,↓stS,↓mkS,↓rangeS,↓nextS,↓entryS,↓delS,↓mupS,↓appS,↓s2bS,↓resS,evB,Sx.look,slot,↓lkL,putS,putO,argsL,↓reduceIte,ofV,of1,lookH,putH,List.replicate,List.append,convS,fldA,nthT,idxA,idxS,fldS,oslN,bnd,slS,unS,valI,lenS,lookS,takeC,psB,asRow,csB,rdF,Ent.row,ldS,sz,szL,wrF,bldF,plT,bldS,srcS,nilS,nilEq,mapC,binH,binS2,structS,eqL,eqF,binS,arrS,isI,tupS,stor,storL,Value.oneCell',minS,maxS,capS,Nat.reduceAdd,Nat.reduceSub,Nat.reduceMul,Nat.reduceLT,Nat.reduceLeDiff,Nat.reduceEqDiff,Nat.reduceBEq,Int.reduceToNat,Int.reduceNeg,if_true,if_false,reduceIte,stays,inL,same1,qn,ldN,convN,lenN,cond_true,cond_false,implies_true,Int.reduceEq,Int.reduceNe,Int.reduceLE,Int.reduceLT,forall_eq_or_imp,forall_eq,ne_eq,reduceCtorEq,notInt,numB,tabB,Array.reduceGetElem?,upG,up,nth,lay,rcB,rnm,rnmL,wrB,pcB,res15,Option.isNone,lhB,hx,hy,z1,z2,liB]
        repeat (refine ⟨by omega, ?_⟩)
        exact hd1 (by unfold mayHead; rw [decide_eq_false (show ¬ k ≤ 9 by omega), y1]; rfl)
      · have z2 : decide (k > 9) = false := decide_eq_false c2
        have y2 : decide (k ≤ 9) = true := decide_eq_true (by omega)
        simp -implicitDefEqProofs (maxSteps := 1000000) (disch := omega) only [↓vcB,↓gd,↓opP,↓qv,↓ef,↓bslS,↓stS,↓mkS,↓rangeS,↓nextS,↓entryS,↓delS,↓mupS,↓appS,↓s2bS,↓resS,evB,Sx.look,slot,↓lkL,putS,putO,argsL,↓reduceIte,ofV,of1,lookH,putH,List.replicate,List.append,convS,fldA,nthT,idxA,idxS,fldS,oslN,bnd,slS,unS,valI,lenS,lookS,takeC,psB,asRow,csB,rdF,Ent.row,ldS,sz,szL,wrF,bldF,plT,bldS,srcS,nilS,nilEq,mapC,binH,binS2,structS,eqL,eqF,binS,arrS,isI,tupS,stor,storL,Value.oneCell',minS,maxS,capS,Nat.reduceAdd,Nat.reduceSub,Nat.reduceMul,Nat.reduceLT,Nat.reduceLeDiff,Nat.reduceEqDiff,Nat.reduceBEq,Int.reduceToNat,Int.reduceNeg,if_true,if_false,reduceIte,stays,inL,same1,qn,ldN,convN,lenN,cond_true,cond_false,implies_true,Int.reduceEq,Int.reduceNe,Int.reduceLE,Int.reduceLT,forall_eq_or_imp,forall_eq,ne_eq,reduceCtorEq,notInt,numB,tabB,Array.reduceGetElem?,upG,up,nth,lay,rcB,rnm,rnmL,wrB,pcB,res15,Option.isNone,lhB,hx,hy,z1,z2,liB]
        repeat (refine ⟨by omega, ?_⟩)
        refine c54 (.mk k f v s d b bs p q key of) _ H1 hM _ ?_
        show _
        cases z3 : okFrom k f with
        | false =>
          simp -implicitDefEqProofs (maxSteps := 1000000) (disch := omega) only [↓vcB,↓gd,↓opP,↓qv,↓ef,↓bslS,↓stS,↓mkS,↓rangeS,↓nextS,↓entryS,↓delS,↓mupS,↓appS,↓s2bS,↓resS,evB,Sx.look,slot,↓lkL,putS,putO,argsL,↓reduceIte,ofV,of1,lookH,putH,List.replicate,List.append,convS,fldA,nthT,idxA,idxS,fldS,oslN,bnd,slS,unS,valI,lenS,lookS,takeC,psB,asRow,csB,rdF,Ent.row,ldS,sz,szL,wrF,bldF,plT,bldS,srcS,nilS,nilEq,mapC,binH,binS2,structS,eqL,eqF,binS,arrS,isI,tupS,stor,storL,Value.oneCell',minS,maxS,capS,Nat.reduceAdd,Nat.reduceSub,Nat.reduceMul,Nat.reduceLT,Nat.reduceLeDiff,Nat.reduceEqDiff,Nat.reduceBEq,Int.reduceToNat,Int.reduceNeg,if_true,if_false,reduceIte,stays,inL,same1,qn,ldN,convN,lenN,cond_true,cond_false,implies_true,Int.reduceEq,Int.reduceNe,Int.reduceLE,Int.reduceLT,forall_eq_or_imp,forall_eq,ne_eq,reduceCtorEq,notInt,numB,tabB,Array.reduceGetElem?,upG,up,nth,lay,rcB,rnm,rnmL,wrB,pcB,res15,Option.isNone,lhB,hx,hy,z1,z2,z3,Msg.kind,Msg.frm,liB]
          repeat (refine ⟨by omega, ?_⟩)
          exact hd1 (by unfold mayHead; rw [y1, y2, z3]; rfl)
        | true =>
          simp -implicitDefEqProofs (maxSteps := 1000000) (disch := omega) only [↓vcB,↓gd,↓opP,↓qv,↓ef,↓bslS,↓stS,↓mkS,↓rangeS,↓nextS,↓entryS,↓delS,↓mupS,↓appS,↓s2bS,↓resS,evB,Sx.look,slot,↓lkL,putS,putO,argsL,↓reduceIte,ofV,of1,lookH,putH,List.replicate,List.append,convS,fldA,nthT,idxA,idxS,fldS,oslN,bnd,slS,unS,valI,lenS,lookS,takeC,psB,asRow,csB,rdF,Ent.row,ldS,sz,szL,wrF,bldF,plT,bldS,srcS,nilS,nilEq,mapC,binH,binS2,structS,eqL,eqF,binS,arrS,isI,tupS,stor,storL,Value.oneCell',minS,maxS,capS,Nat.reduceAdd,Nat.reduceSub,Nat.reduceMul,Nat.reduceLT,Nat.reduceLeDiff,Nat.reduceEqDiff,Nat.reduceBEq,Int.reduceToNat,Int.reduceNeg,if_true,if_false,reduceIte,stays,inL,same1,qn,ldN,convN,lenN,cond_true,cond_false,implies_true,Int.reduceEq,Int.reduceNe,Int.reduceLE,Int.reduceLT,forall_eq_or_imp,forall_eq,ne_eq,reduceCtorEq,notInt,numB,tabB,Array.reduceGetElem?,upG,up,nth,lay,rcB,rnm,rnmL,wrB,pcB,res15,Option.isNone,lhB,hx,hy,z1,z2,z3,Msg.kind,Msg.frm,liB]
          repeat (refine ⟨by omega, ?_⟩)
          refine c55 (hView k) v _ _ ?_
          cases z4 : okNum (hView k) v with
          | false =>
            simp -implicitDefEqProofs (maxSteps := 1000000) (disch := omega) only [↓vcB,↓gd,↓opP,↓qv,↓ef,↓bslS,↓stS,↓mkS,↓rangeS,↓nextS,↓entryS,↓delS,↓mupS,↓appS,↓s2bS,↓resS,evB,Sx.look,slot,↓lkL,putS,putO,argsL,↓reduceIte,ofV,of1,lookH,putH,List.replicate,List.append,convS,fldA,nthT,idxA,idxS,fldS,oslN,bnd,slS,unS,valI,lenS,lookS,takeC,psB,asRow,csB,rdF,Ent.row,ldS,sz,szL,wrF,bldF,plT,bldS,srcS,nilS,nilEq,mapC,binH,binS2,structS,eqL,eqF,binS,arrS,isI,tupS,stor,storL,Value.oneCell',minS,maxS,capS,Nat.reduceAdd,Nat.reduceSub,Nat.reduceMul,Nat.reduceLT,Nat.reduceLeDiff,Nat.reduceEqDiff,Nat.reduceBEq,Int.reduceToNat,Int.reduceNeg,if_true,if_false,reduceIte,stays,inL,same1,qn,ldN,convN,lenN,cond_true,cond_false,implies_true,Int.reduceEq,Int.reduceNe,Int.reduceLE,Int.reduceLT,forall_eq_or_imp,forall_eq,ne_eq,reduceCtorEq,notInt,numB,tabB,Array.reduceGetElem?,upG,up,nth,lay,rcB,rnm,rnmL,wrB,pcB,res15,Option.isNone,lhB,hx,hy,z1,z2,z3,z4,liB]
            repeat (refine ⟨by omega, ?_⟩)
            exact hd1 (by unfold mayHead; rw [y1, y2, z3, z4]; rfl)
          | true =>
            simp -implicitDefEqProofs (maxSteps := 1000000) (disch := omega) only [↓vcB,↓gd,↓opP,↓qv,↓ef,↓bslS,↓stS,↓mkS,↓rangeS,↓nextS,↓entryS,↓delS,↓mupS,↓appS,↓s2bS,↓resS,evB,Sx.look,slot,↓lkL,putS,putO,argsL,↓reduceIte,ofV,of1,lookH,putH,List.replicate,List.append,convS,fldA,nthT,idxA,idxS,fldS,oslN,bnd,slS,unS,valI,lenS,lookS,takeC,psB,asRow,csB,rdF,Ent.row,ldS,sz,szL,wrF,bldF,plT,bldS,srcS,nilS,nilEq,mapC,binH,binS2,structS,eqL,eqF,binS,arrS,isI,tupS,stor,storL,Value.oneCell',minS,maxS,capS,Nat.reduceAdd,Nat.reduceSub,Nat.reduceMul,Nat.reduceLT,Nat.reduceLeDiff,Nat.reduceEqDiff,Nat.reduceBEq,Int.reduceToNat,Int.reduceNeg,if_true,if_false,reduceIte,stays,inL,same1,qn,ldN,convN,lenN,cond_true,cond_false,implies_true,Int.reduceEq,Int.reduceNe,Int.reduceLE,Int.reduceLT,forall_eq_or_imp,forall_eq,ne_eq,reduceCtorEq,notInt,numB,tabB,Array.reduceGetElem?,upG,up,nth,lay,rcB,rnm,rnmL,wrB,pcB,res15,Option.isNone,lhB,hx,hy,z1,z2,z3,z4,liB]
            repeat (refine ⟨by omega, ?_⟩)
            refine c55 (hSeq k) s _ _ ?_
            cases z5 : okNum (hSeq k) s with
            | false =>
              simp -implicitDefEqProofs (maxSteps := 1000000) (disch := omega) only [↓vcB,↓gd,↓opP,↓qv,↓ef,↓bslS,↓stS,↓mkS,↓rangeS,↓nextS,↓entryS,↓delS,↓mupS,↓appS,↓s2bS,↓resS,evB,Sx.look,slot,↓lkL,putS,putO,argsL,↓reduceIte,ofV,of1,lookH,putH,List.replicate,List.append,convS,fldA,nthT,idxA,idxS,fldS,oslN,bnd,slS,unS,valI,lenS,lookS,takeC,psB,asRow,csB,rdF,Ent.row,ldS,sz,szL,wrF,bldF,plT,bldS,srcS,nilS,nilEq,mapC,binH,binS2,structS,eqL,eqF,binS,arrS,isI,tupS,stor,storL,Value.oneCell',minS,maxS,capS,Nat.reduceAdd,Nat.reduceSub,Nat.reduceMul,Nat.reduceLT,Nat.reduceLeDiff,Nat.reduceEqDiff,Nat.reduceBEq,Int.reduceToNat,Int.reduceNeg,if_true,if_false,reduceIte,stays,inL,same1,qn,ldN,convN,lenN,cond_true,cond_false,implies_true,Int.reduceEq,Int.reduceNe,Int.reduceLE,Int.reduceLT,forall_eq_or_imp,forall_eq,ne_eq,reduceCtorEq,notInt,numB,tabB,Array.reduceGetElem?,upG,up,nth,lay,rcB,rnm,rnmL,wrB,pcB,res15,Option.isNone,lhB,hx,hy,z1,z2,z3,z4,z5,liB]
              repeat (refine ⟨by omega, ?_⟩)
              exact hd1 (by unfold mayHead; rw [y1, y2, z3, z4, z5]; rfl)
            | true =>
              cases z6 : hDig k with
              | true =>
                simp -implicitDefEqProofs (maxSteps := 1000000) (disch := omega) only [↓vcB,↓gd,↓opP,↓qv,↓ef,↓bslS,↓stS,↓mkS,↓rangeS,↓nextS,↓entryS,↓delS,↓mupS,↓appS,↓s2bS,↓resS,evB,Sx.look,slot,↓lkL,putS,putO,argsL,↓reduceIte,ofV,of1,lookH,putH,List.replicate,List.append,convS,fldA,nthT,idxA,idxS,fldS,oslN,bnd,slS,unS,valI,lenS,lookS,takeC,psB,asRow,csB,rdF,Ent.row,ldS,sz,szL,wrF,bldF,plT,bldS,srcS,nilS,nilEq,mapC,binH,binS2,structS,eqL,eqF,binS,arrS,isI,tupS,stor,storL,Value.oneCell',minS,maxS,capS,Nat.reduceAdd,Nat.reduceSub,Nat.reduceMul,Nat.reduceLT,Nat.reduceLeDiff,Nat.reduceEqDiff,Nat.reduceBEq,Int.reduceToNat,Int.reduceNeg,if_true,if_false,reduceIte,stays,inL,same1,qn,ldN,convN,lenN,cond_true,cond_false,implies_true,Int.reduceEq,Int.reduceNe,Int.reduceLE,Int.reduceLT,forall_eq_or_imp,forall_eq,ne_eq,reduceCtorEq,notInt,numB,tabB,Array.reduceGetElem?,upG,up,nth,lay,rcB,rnm,rnmL,wrB,pcB,res15,Option.isNone,lhB,hx,hy,z1,z2,z3,z4,z5,z6,liB]
                repeat (refine ⟨by omega, ?_⟩)
                exact into_keep [(1, .ptr h.length 0), (2, .int .i64 0), (3, .ptr (h.length + 1) 0)] (by simp [sameT, slot, lkL]) fun j => ⟨j, hHD.2 (by unfold mayHead; rw [y1, y2, z3, z4, z5, z6]; rfl), rfl⟩
              | false =>
                have z8 := famEq_zero d
                cases z7 : zero32 d with
                | true =>
                  rw [z7] at z8
                  simp -implicitDefEqProofs (maxSteps := 1000000) (disch := omega) only [↓vcB,↓gd,↓opP,↓qv,↓ef,↓bslS,↓stS,↓mkS,↓rangeS,↓nextS,↓entryS,↓delS,↓mupS,↓appS,↓s2bS,↓resS,evB,Sx.look,slot,↓lkL,putS,putO,argsL,↓reduceIte,ofV,of1,lookH,putH,List.replicate,List.append,convS,fldA,nthT,idxA,idxS,fldS,oslN,bnd,slS,unS,valI,lenS,lookS,takeC,psB,asRow,csB,rdF,Ent.row,ldS,sz,szL,wrF,bldF,plT,bldS,srcS,nilS,nilEq,mapC,binH,binS2,structS,eqL,eqF,binS,arrS,isI,tupS,stor,storL,Value.oneCell',minS,maxS,capS,Nat.reduceAdd,Nat.reduceSub,Nat.reduceMul,Nat.reduceLT,Nat.reduceLeDiff,Nat.reduceEqDiff,Nat.reduceBEq,Int.reduceToNat,Int.reduceNeg,if_true,if_false,reduceIte,stays,inL,same1,qn,ldN,convN,lenN,cond_true,cond_false,implies_true,Int.reduceEq,Int.reduceNe,Int.reduceLE,Int.reduceLT,forall_eq_or_imp,forall_eq,ne_eq,reduceCtorEq,notInt,numB,tabB,Array.reduceGetElem?,upG,up,nth,lay,rcB,rnm,rnmL,wrB,pcB,res15,Option.isNone,lhB,hx,hy,z1,z2,z3,z4,z5,z6,z8,liB]
                  repeat (refine ⟨by omega, ?_⟩)
                  exact into_keep [(1, .ptr h.length 0), (2, .int .i64 0), (3, .ptr (h.length + 1) 0)] (by simp [sameT, slot, lkL]) fun j => ⟨j, hHD.2 (by unfold mayHead; rw [y1, y2, z3, z4, z5, z6, z7]; rfl), rfl⟩
                | false =>
                  rw [z7] at z8
                  simp -implicitDefEqProofs (maxSteps := 1000000) (disch := omega) only [↓vcB,↓gd,↓opP,↓qv,↓ef,↓bslS,↓stS,↓mkS,↓rangeS,↓nextS,↓entryS,↓delS,↓mupS,↓appS,↓s2bS,↓resS,evB,Sx.look,slot,↓lkL,putS,putO,argsL,↓reduceIte,ofV,of1,lookH,putH,List.replicate,List.append,convS,fldA,nthT,idxA,idxS,fldS,oslN,bnd,slS,unS,valI,lenS,lookS,takeC,psB,asRow,csB,rdF,Ent.row,ldS,sz,szL,wrF,bldF,plT,bldS,srcS,nilS,nilEq,mapC,binH,binS2,structS,eqL,eqF,binS,arrS,isI,tupS,stor,storL,Value.oneCell',minS,maxS,capS,Nat.reduceAdd,Nat.reduceSub,Nat.reduceMul,Nat.reduceLT,Nat.reduceLeDiff,Nat.reduceEqDiff,Nat.reduceBEq,Int.reduceToNat,Int.reduceNeg,if_true,if_false,reduceIte,stays,inL,same1,qn,ldN,convN,lenN,cond_true,cond_false,implies_true,Int.reduceEq,Int.reduceNe,Int.reduceLE,Int.reduceLT,forall_eq_or_imp,forall_eq,ne_eq,reduceCtorEq,notInt,numB,tabB,Array.reduceGetElem?,upG,up,nth,lay,rcB,rnm,rnmL,wrB,pcB,res15,Option.isNone,lhB,hx,hy,z1,z2,z3,z4,z5,z6,z8,liB]
                  repeat (refine ⟨by omega, ?_⟩)
                  exact hd1 (by unfold mayHead; rw [y1, y2, z3, z4, z5, z6, z7]; rfl)
  · rintro _ ⟨j1, hhd, rfl⟩
    have hhead : ¬ mayHead k f v s d = false := by rw [hHD.1 hhd]; simp
    obtain ⟨N1, hN1⟩ : ∃ N1 : Prop, N1 ↔ mayBuns k b bs = 0 := ⟨_, Iff.rfl⟩
    refine codeP_seq (pl := np) tabOk follows_mixed (by kernel_rfl) (fun st => ∃ (j : Nat → Value), N1 ∧ st = ⟨⟨89, [(1, .ptr h.length 0), (2, .int .i64 0), (3, .ptr (h.length + 1) 0)], j⟩, H1, []⟩) ?_ ?_
    · simp -implicitDefEqProofs (maxSteps := 1000000) (disch := omega) only [↓vcB,↓gd,↓opP,↓qv,↓ef,↓bslS,↓stS,↓mkS,↓rangeS,↓nextS,↓entryS,↓delS,↓mupS,↓appS,↓s2bS,↓resS,evB,Sx.look,slot,↓lkL,putS,putO,argsL,↓reduceIte,ofV,of1,lookH,putH,List.replicate,List.append,convS,fldA,nthT,idxA,idxS,fldS,oslN,bnd,slS,unS,valI,lenS,lookS,takeC,psB,asRow,csB,rdF,Ent.row,ldS,sz,szL,wrF,bldF,plT,bldS,srcS,nilS,nilEq,mapC,binH,binS2,structS,eqL,eqF,binS,arrS,isI,tupS,stor,storL,Value.oneCell',minS,maxS,capS,Nat.reduceAdd,Nat.reduceSub,Nat.reduceMul,Nat.reduceLT,Nat.reduceLeDiff,Nat.reduceEqDiff,Nat.reduceBEq,Int.reduceToNat,Int.reduceNeg,if_true,if_false,reduceIte,stays,inL,same1,qn,ldN,convN,lenN,cond_true,cond_false,implies_true,Int.reduceEq,Int.reduceNe,Int.reduceLE,Int.reduceLT,forall_eq_or_imp,forall_eq,ne_eq,reduceCtorEq,notInt,numB,tabB,Array.reduceGetElem?,upG,up,nth,lay,rcB,rnm,rnmL,wrB,pcB,res15,Option.isNone,lhB,hx,hy,liB]
      repeat (refine ⟨by omega, ?_⟩)
      refine c56 k f v s d b bs p q key of _ H1 hM _ ?_
      by_cases e : mayBuns k b bs = 0
      · have z1 : (mayBuns k b bs != 0) = false := by rw [e]; rfl
        simp -implicitDefEqProofs (maxSteps := 1000000) (disch := omega) only [↓vcB,↓gd,↓opP,↓qv,↓ef,↓bslS,↓stS,↓mkS,↓rangeS,↓nextS,↓entryS,↓delS,↓mupS,↓appS,↓s2bS,↓resS,evB,Sx.look,slot,↓lkL,putS,putO,argsL,↓reduceIte,ofV,of1,lookH,putH,List.replicate,List.append,convS,fldA,nthT,idxA,idxS,fldS,oslN,bnd,slS,unS,valI,lenS,lookS,takeC,psB,asRow,csB,rdF,Ent.row,ldS,sz,szL,wrF,bldF,plT,bldS,srcS,nilS,nilEq,mapC,binH,binS2,structS,eqL,eqF,binS,arrS,isI,tupS,stor,storL,Value.oneCell',minS,maxS,capS,Nat.reduceAdd,Nat.reduceSub,Nat.reduceMul,Nat.reduceLT,Nat.reduceLeDiff,Nat.reduceEqDiff,Nat.reduceBEq,Int.reduceToNat,Int.reduceNeg,if_true,if_false,reduceIte,stays,inL,same1,qn,ldN,convN,lenN,cond_true,cond_false,implies_true,Int.reduceEq,Int.reduceNe,Int.reduceLE,Int.reduceLT,forall_eq_or_imp,forall_eq,ne_eq,reduceCtorEq,notInt,numB,tabB,Array.reduceGetElem?,upG,up,nth,lay,rcB,rnm,rnmL,wrB,pcB,res15,Option.isNone,lhB,hx,hy,z1,liB]
        repeat (refine ⟨by omega, ?_⟩)
        exact into_keep [(1, .ptr h.length 0), (2, .int .i64 0), (3, .ptr (h.length + 1) 0)] (by simp [sameT, slot, lkL]) fun j => ⟨j, hN1.2 e, rfl⟩
      · have z1 : (mayBuns k b bs != 0) = true := bne_iff_ne.2 e
        simp -implicitDefEqProofs (maxSteps := 1000000) (disch := omega) only [↓vcB,↓gd,↓opP,↓qv,↓ef,↓bslS,↓stS,↓mkS,↓rangeS,↓nextS,↓entryS,↓delS,↓mupS,↓appS,↓s2bS,↓resS,evB,Sx.look,slot,↓lkL,putS,putO,argsL,↓reduceIte,ofV,of1,lookH,putH,List.replicate,List.append,convS,fldA,nthT,idxA,idxS,fldS,oslN,bnd,slS,unS,valI,lenS,lookS,takeC,psB,asRow,csB,rdF,Ent.row,ldS,sz,szL,wrF,bldF,plT,bldS,srcS,nilS,nilEq,mapC,binH,binS2,structS,eqL,eqF,binS,arrS,isI,tupS,stor,storL,Value.oneCell',minS,maxS,capS,Nat.reduceAdd,Nat.reduceSub,Nat.reduceMul,Nat.reduceLT,Nat.reduceLeDiff,Nat.reduceEqDiff,Nat.reduceBEq,Int.reduceToNat,Int.reduceNeg,if_true,if_false,reduceIte,stays,inL,same1,qn,ldN,convN,lenN,cond_true,cond_false,implies_true,Int.reduceEq,Int.reduceNe,Int.reduceLE,Int.reduceLT,forall_eq_or_imp,forall_eq,ne_eq,reduceCtorEq,notInt,numB,tabB,Array.reduceGetElem?,upG,up,nth,lay,rcB,rnm,rnmL,wrB,pcB,res15,Option.isNone,lhB,hx,hy,z1,liB]
        repeat (refine ⟨by omega, ?_⟩)
        exact drop H1 x _ hH1 (by rw [if_neg hhead, if_pos e])
    rintro _ ⟨j2, hn1, rfl⟩
    have e1 : ¬ mayBuns k b bs ≠ 0 := fun h => h (hN1.1 hn1)
    obtain ⟨W, hW⟩ : ∃ W, W = mayW (hProof k) (if k = 7 then 6 else if k = 6 ∨ k = 9 then 5 else 0) p := ⟨_, rfl⟩
    rw [← hW] at drop
    obtain ⟨N2, hN2⟩ : ∃ N2 : Prop, N2 ↔ W = 0 := ⟨_, Iff.rfl⟩
    refine codeP_seq (pl := np) tabOk follows_mixed (by kernel_rfl) (fun st => ∃ (j : Nat → Value), N2 ∧ st = ⟨⟨89, [(1, .ptr h.length 0), (2, .int .i64 0), (3, .ptr (h.length + 1) 0)], j⟩, H1, []⟩) ?_ ?_
    · simp -implicitDefEqProofs (maxSteps := 1000000) (disch := omega) only [↓vcB,↓gd,↓opP,↓qv,↓ef,↓bslS,↓stS,↓mkS,↓rangeS,↓nextS,↓entryS,↓delS,↓mupS,↓appS,↓s2bS,↓resS,evB,Sx.look,slot,↓lkL,putS,putO,argsL,↓reduceIte,ofV,of1,lookH,putH,List.replicate,List.append,convS,fldA,nthT,idxA,idxS,fldS,oslN,bnd,slS,unS,valI,lenS,lookS,takeC,psB,asRow,csB,rdF,Ent.row,ldS,sz,szL,wrF,bldF,plT,bldS,srcS,nilS,nilEq,mapC,binH,binS2,structS,eqL,eqF,binS,arrS,isI,tupS,stor,storL,Value.oneCell',minS,maxS,capS,Nat.reduceAdd,Nat.reduceSub,Nat.reduceMul,Nat.reduceLT,Nat.reduceLeDiff,Nat.reduceEqDiff,Nat.reduceBEq,Int.reduceToNat,Int.reduceNeg,if_true,if_false,reduceIte,stays,inL,same1,qn,ldN,convN,lenN,cond_true,cond_false,implies_true,Int.reduceEq,Int.reduceNe,Int.reduceLE,Int.reduceLT,forall_eq_or_imp,forall_eq,ne_eq,reduceCtorEq,notInt,numB,tabB,Array.reduceGetElem?,upG,up,nth,lay,rcB,rnm,rnmL,wrB,pcB,res15,Option.isNone,lhB,hx,hy,liB]
      repeat (refine ⟨by omega, ?_⟩)
      refine c57R (hProof k) _ p IP kp wp fp H1 (hE.look h3 (by simp) fun h => h) (h4.ext hE) _ ?_
      rw [← hW]
      by_cases e : W = 0
      · have z1 : (W != 0) = false := by rw [e]; rfl
        simp -implicitDefEqProofs (maxSteps := 1000000) (disch := omega) only [↓vcB,↓gd,↓opP,↓qv,↓ef,↓bslS,↓stS,↓mkS,↓rangeS,↓nextS,↓entryS,↓delS,↓mupS,↓appS,↓s2bS,↓resS,evB,Sx.look,slot,↓lkL,putS,putO,argsL,↓reduceIte,ofV,of1,lookH,putH,List.replicate,List.append,convS,fldA,nthT,idxA,idxS,fldS,oslN,bnd,slS,unS,valI,lenS,lookS,takeC,psB,asRow,csB,rdF,Ent.row,ldS,sz,szL,wrF,bldF,plT,bldS,srcS,nilS,nilEq,mapC,binH,binS2,structS,eqL,eqF,binS,arrS,isI,tupS,stor,storL,Value.oneCell',minS,maxS,capS,Nat.reduceAdd,Nat.reduceSub,Nat.reduceMul,Nat.reduceLT,Nat.reduceLeDiff,Nat.reduceEqDiff,Nat.reduceBEq,Int.reduceToNat,Int.reduceNeg,if_true,if_false,reduceIte,stays,inL,same1,qn,ldN,convN,lenN,cond_true,cond_false,implies_true,Int.reduceEq,Int.reduceNe,Int.reduceLE,Int.reduceLT,forall_eq_or_imp,forall_eq,ne_eq,reduceCtorEq,notInt,numB,tabB,Array.reduceGetElem?,upG,up,nth,lay,rcB,rnm,rnmL,wrB,pcB,res15,Option.isNone,lhB,hx,hy,z1,liB]
        repeat (refine ⟨by omega, ?_⟩)
        exact into_keep [(1, .ptr h.length 0), (2, .int .i64 0), (3, .ptr (h.length + 1) 0)] (by simp [sameT, slot, lkL]) fun j => ⟨j, hN2.2 e, rfl⟩
      · have z1 : (W != 0) = true := bne_iff_ne.2 e
        simp -implicitDefEqProofs (maxSteps := 1000000) (disch := omega) only [↓vcB,↓gd,↓opP,↓qv,↓ef,↓bslS,↓stS,↓mkS,↓rangeS,↓nextS,↓entryS,↓delS,↓mupS,↓appS,↓s2bS,↓resS,evB,Sx.look,slot,↓lkL,putS,putO,argsL,↓reduceIte,ofV,of1,lookH,putH,List.replicate,List.append,convS,fldA,nthT,idxA,idxS,fldS,oslN,bnd,slS,unS,valI,lenS,lookS,takeC,psB,asRow,csB,rdF,Ent.row,ldS,sz,szL,wrF,bldF,plT,bldS,srcS,nilS,nilEq,mapC,binH,binS2,structS,eqL,eqF,binS,arrS,isI,tupS,stor,storL,Value.oneCell',minS,maxS,capS,Nat.reduceAdd,Nat.reduceSub,Nat.reduceMul,Nat.reduceLT,Nat.reduceLeDiff,Nat.reduceEqDiff,Nat.reduceBEq,Int.reduceToNat,Int.reduceNeg,if_true,if_false,reduceIte,stays,inL,same1,qn,ldN,convN,lenN,cond_true,cond_false,implies_true,Int.reduceEq,Int.reduceNe,Int.reduceLE,Int.reduceLT,forall_eq_or_imp,forall_eq,ne_eq,reduceCtorEq,notInt,numB,tabB,Array.reduceGetElem?,upG,up,nth,lay,rcB,rnm,rnmL,wrB,pcB,res15,Option.isNone,lhB,hx,hy,z1,liB]
        repeat (refine ⟨by omega, ?_⟩)
        exact drop H1 x _ hH1 (by rw [if_neg hhead, if_neg e1, if_pos e])
    rintro _ ⟨j3, hn2, rfl⟩
    have e2 : ¬ W ≠ 0 := fun h => h (hN2.1 hn2)
    obtain ⟨N3, hN3⟩ : ∃ N3 : Prop, N3 ↔ mayP k q = 0 := ⟨_, Iff.rfl⟩
    refine codeP_seq (pl := np) tabOk follows_mixed (by kernel_rfl) (fun st => ∃ (j : Nat → Value), N3 ∧ st = ⟨⟨89, [(1, .ptr h.length 0), (2, .int .i64 0), (3, .ptr (h.length + 1) 0)], j⟩, H1, []⟩) ?_ ?_
    · simp -implicitDefEqProofs (maxSteps := 1000000) (disch := omega) only [↓vcB,↓gd,↓opP,↓qv,↓ef,↓bslS,↓stS,↓mkS,↓rangeS,↓nextS,↓entryS,↓delS,↓mupS,↓appS,↓s2bS,↓resS,evB,Sx.look,slot,↓lkL,putS,putO,argsL,↓reduceIte,ofV,of1,lookH,putH,List.replicate,List.append,convS,fldA,nthT,idxA,idxS,fldS,oslN,bnd,slS,unS,valI,lenS,lookS,takeC,psB,asRow,csB,rdF,Ent.row,ldS,sz,szL,wrF,bldF,plT,bldS,srcS,nilS,nilEq,mapC,binH,binS2,structS,eqL,eqF,binS,arrS,isI,tupS,stor,storL,Value.oneCell',minS,maxS,capS,Nat.reduceAdd,Nat.reduceSub,Nat.reduceMul,Nat.reduceLT,Nat.reduceLeDiff,Nat.reduceEqDiff,Nat.reduceBEq,Int.reduceToNat,Int.reduceNeg,if_true,if_false,reduceIte,stays,inL,same1,qn,ldN,convN,lenN,cond_true,cond_false,implies_true,Int.reduceEq,Int.reduceNe,Int.reduceLE,Int.reduceLT,forall_eq_or_imp,forall_eq,ne_eq,reduceCtorEq,notInt,numB,tabB,Array.reduceGetElem?,upG,up,nth,lay,rcB,rnm,rnmL,wrB,pcB,res15,Option.isNone,lhB,hx,hy,liB]
      repeat (refine ⟨by omega, ?_⟩)
      refine c58R k q IQ kq wq fq H1 (hE.look h5 (by simp) fun h => h) (h6.ext hE) _ ?_
      by_cases e : mayP k q = 0
      · have z1 : (mayP k q != 0) = false := by rw [e]; rfl
        simp -implicitDefEqProofs (maxSteps := 1000000) (disch := omega) only [↓vcB,↓gd,↓opP,↓qv,↓ef,↓bslS,↓stS,↓mkS,↓rangeS,↓nextS,↓entryS,↓delS,↓mupS,↓appS,↓s2bS,↓resS,evB,Sx.look,slot,↓lkL,putS,putO,argsL,↓reduceIte,ofV,of1,lookH,putH,List.replicate,List.append,convS,fldA,nthT,idxA,idxS,fldS,oslN,bnd,slS,unS,valI,lenS,lookS,takeC,psB,asRow,csB,rdF,Ent.row,ldS,sz,szL,wrF,bldF,plT,bldS,srcS,nilS,nilEq,mapC,binH,binS2,structS,eqL,eqF,binS,arrS,isI,tupS,stor,storL,Value.oneCell',minS,maxS,capS,Nat.reduceAdd,Nat.reduceSub,Nat.reduceMul,Nat.reduceLT,Nat.reduceLeDiff,Nat.reduceEqDiff,Nat.reduceBEq,Int.reduceToNat,Int.reduceNeg,if_true,if_false,reduceIte,stays,inL,same1,qn,ldN,convN,lenN,cond_true,cond_false,implies_true,Int.reduceEq,Int.reduceNe,Int.reduceLE,Int.reduceLT,forall_eq_or_imp,forall_eq,ne_eq,reduceCtorEq,notInt,numB,tabB,Array.reduceGetElem?,upG,up,nth,lay,rcB,rnm,rnmL,wrB,pcB,res15,Option.isNone,lhB,hx,hy,z1,liB]
        repeat (refine ⟨by omega, ?_⟩)
        exact into_keep [(1, .ptr h.length 0), (2, .int .i64 0), (3, .ptr (h.length + 1) 0)] (by simp [sameT, slot, lkL]) fun j => ⟨j, hN3.2 e, rfl⟩
      · have z1 : (mayP k q != 0) = true := bne_iff_ne.2 e
        simp -implicitDefEqProofs (maxSteps := 1000000) (disch := omega) only [↓vcB,↓gd,↓opP,↓qv,↓ef,↓bslS,↓stS,↓mkS,↓rangeS,↓nextS,↓entryS,↓delS,↓mupS,↓appS,↓s2bS,↓resS,evB,Sx.look,slot,↓lkL,putS,putO,argsL,↓reduceIte,ofV,of1,lookH,putH,List.replicate,List.append,convS,fldA,nthT,idxA,idxS,fldS,oslN,bnd,slS,unS,valI,lenS,lookS,takeC,psB,asRow,csB,rdF,Ent.row,ldS,sz,szL,wrF,bldF,plT,bldS,srcS,nilS,nilEq,mapC,binH,binS2,structS,eqL,eqF,binS,arrS,isI,tupS,stor,storL,Value.oneCell',minS,maxS,capS,Nat.reduceAdd,Nat.reduceSub,Nat.reduceMul,Nat.reduceLT,Nat.reduceLeDiff,Nat.reduceEqDiff,Nat.reduceBEq,Int.reduceToNat,Int.reduceNeg,if_true,if_false,reduceIte,stays,inL,same1,qn,ldN,convN,lenN,cond_true,cond_false,implies_true,Int.reduceEq,Int.reduceNe,Int.reduceLE,Int.reduceLT,forall_eq_or_imp,forall_eq,ne_eq,reduceCtorEq,notInt,numB,tabB,Array.reduceGetElem?,upG,up,nth,lay,rcB,rnm,rnmL,wrB,pcB,res15,Option.isNone,lhB,hx,hy,z1,liB]
        repeat (refine ⟨by omega, ?_⟩)
        exact drop H1 x _ hH1 (by rw [if_neg hhead, if_neg e1, if_neg e2, if_pos e])
    rintro _ ⟨j4, hn3, rfl⟩
    have e3 : ¬ mayP k q ≠ 0 := fun h => h (hN3.1 hn3)
    have fin : ∀ e, (if k = 1 ∧ (key ≠ 0 ∨ zero32 of = false) then 1 else 0) = e → IntoR h.length (.int .i64 e) H1 K := fun e he => drop H1 x e hH1 (by rw [if_neg hhead, if_neg e1, if_neg e2, if_neg e3]; exact he)
    refine codeP_of_vc (pl := np) tabOk follows_mixed (by kernel_rfl) ?_
    by_cases c1 : k = 1
    · have z1 : (k == 1) = true := beq_iff_eq.2 c1
      by_cases c2 : key = 0
      · have z2 : (key != 0) = false := by rw [c2]; rfl
        have z8 := famEq_zero of
        cases z7 : zero32 of with
        | true =>
          rw [z7] at z8
          simp -implicitDefEqProofs (maxSteps := 1000000) (disch := omega) only [↓vcB,↓gd,↓opP,↓qv,↓ef,↓bslS,↓stS,↓mkS,↓rangeS,↓nextS,↓entryS,↓delS,↓mupS,↓appS,↓s2bS,↓resS,evB,Sx.look,slot,↓lkL,putS,putO,argsL,↓reduceIte,ofV,of1,lookH,putH,List.replicate,List.append,convS,fldA,nthT,idxA,idxS,fldS,oslN,bnd,slS,unS,valI,lenS,lookS,takeC,psB,asRow,csB,rdF,Ent.row,ldS,sz,szL,wrF,bldF,plT,bldS,srcS,nilS,nilEq,mapC,binH,binS2,structS,eqL,eqF,binS,arrS,isI,tupS,stor,storL,Value.oneCell',minS,maxS,capS,Nat.reduceAdd,Nat.reduceSub,Nat.reduceMul,Nat.reduceLT,Nat.reduceLeDiff,Nat.reduceEqDiff,Nat.reduceBEq,Int.reduceToNat,Int.reduceNeg,if_true,if_false,reduceIte,stays,inL,same1,qn,ldN,convN,lenN,cond_true,cond_false,implies_true,Int.reduceEq,Int.reduceNe,Int.reduceLE,Int.reduceLT,forall_eq_or_imp,forall_eq,ne_eq,reduceCtorEq,notInt,numB,tabB,Array.reduceGetElem?,upG,up,nth,lay,rcB,rnm,rnmL,wrB,pcB,res15,Option.isNone,lhB,hx,hy,z1,z2,z8,liB]
          repeat (refine ⟨by omega, ?_⟩)
          exact fin 0 (by rw [if_neg]; rintro ⟨_, h | h⟩; exact h c2; rw [z7] at h; cases h)
        | false =>
          rw [z7] at z8
          simp -implicitDefEqProofs (maxSteps := 1000000) (disch := omega) only [↓vcB,↓gd,↓opP,↓qv,↓ef,↓bslS,↓stS,↓mkS,↓rangeS,↓nextS,↓entryS,↓delS,↓mupS,↓appS,↓s2bS,↓resS,evB,Sx.look,slot,↓lkL,putS,putO,argsL,↓reduceIte,ofV,of1,lookH,putH,List.replicate,List.append,convS,fldA,nthT,idxA,idxS,fldS,oslN,bnd,slS,unS,valI,lenS,lookS,takeC,psB,asRow,csB,rdF,Ent.row,ldS,sz,szL,wrF,bldF,plT,bldS,srcS,nilS,nilEq,mapC,binH,binS2,structS,eqL,eqF,binS,arrS,isI,tupS,stor,storL,Value.oneCell',minS,maxS,capS,Nat.reduceAdd,Nat.reduceSub,Nat.reduceMul,Nat.reduceLT,Nat.reduceLeDiff,Nat.reduceEqDiff,Nat.reduceBEq,Int.reduceToNat,Int.reduceNeg,if_true,if_false,reduceIte,stays,inL,same1,qn,ldN,convN,lenN,cond_true,cond_false,implies_true,Int.reduceEq,Int.reduceNe,Int.reduceLE,Int.reduceLT,forall_eq_or_imp,forall_eq,ne_eq,reduceCtorEq,notInt,numB,tabB,Array.reduceGetElem?,upG,up,nth,lay,rcB,rnm,rnmL,wrB,pcB,res15,Option.isNone,lhB,hx,hy,z1,z2,z8,liB]
          repeat (refine ⟨by omega, ?_⟩)
          exact fin 1 (by rw [if_pos ⟨c1, .inr z7⟩])
      · have z2 : (key != 0) = true := bne_iff_ne.2 c2
        simp -implicitDefEqProofs (maxSteps := 1000000) (disch := omega) only [↓vcB,↓gd,↓opP,↓qv,↓ef,↓bslS,↓stS,↓mkS,↓rangeS,↓nextS,↓entryS,↓delS,↓mupS,↓appS,↓s2bS,↓resS,evB,Sx.look,slot,↓lkL,putS,putO,argsL,↓reduceIte,ofV,of1,lookH,putH,List.replicate,List.append,convS,fldA,nthT,idxA,idxS,fldS,oslN,bnd,slS,unS,valI,lenS,lookS,takeC,psB,asRow,csB,rdF,Ent.row,ldS,sz,szL,wrF,bldF,plT,bldS,srcS,nilS,nilEq,mapC,binH,binS2,structS,eqL,eqF,binS,arrS,isI,tupS,stor,storL,Value.oneCell',minS,maxS,capS,Nat.reduceAdd,Nat.reduceSub,Nat.reduceMul,Nat.reduceLT,Nat.reduceLeDiff,Nat.reduceEqDiff,Nat.reduceBEq,Int.reduceToNat,Int.reduceNeg,if_true,if_false,reduceIte,stays,inL,same1,qn,ldN,convN,lenN,cond_true,cond_false,implies_true,Int.reduceEq,Int.reduceNe,Int.reduceLE,Int.reduceLT,forall_eq_or_imp,forall_eq,ne_eq,reduceCtorEq,notInt,numB,tabB,Array.reduceGetElem?,upG,up,nth,lay,rcB,rnm,rnmL,wrB,pcB,res15,Option.isNone,lhB,hx,hy,z1,z2,liB]
        repeat (refine ⟨by omega, ?_⟩)
        exact fin 1 (by rw [if_pos ⟨c1, .inl c2⟩])
    · have z1 : (k == 1) = false := beq_eq_false_iff_ne.2 c1
      simp -implicitDefEqProofs (maxSteps := 1000000) (disch := omega) only [↓vcB,↓gd,↓opP,↓qv,↓ef,↓bslS,↓stS,↓mkS,↓rangeS,↓nextS,↓entryS,↓delS,↓mupS,↓appS,↓s2bS,↓resS,evB,Sx.look,slot,↓lkL,putS,putO,argsL,↓reduceIte,ofV,of1,lookH,putH,List.replicate,List.append,convS,fldA,nthT,idxA,idxS,fldS,oslN,bnd,slS,unS,valI,lenS,lookS,takeC,psB,asRow,csB,rdF,Ent.row,ldS,sz,szL,wrF,bldF,plT,bldS,srcS,nilS,nilEq,mapC,binH,binS2,structS,eqL,eqF,binS,arrS,isI,tupS,stor,storL,Value.oneCell',minS,maxS,capS,Nat.reduceAdd,Nat.reduceSub,Nat.reduceMul,Nat.reduceLT,Nat.reduceLeDiff,Nat.reduceEqDiff,Nat.reduceBEq,Int.reduceToNat,Int.reduceNeg,if_true,if_false,reduceIte,stays,inL,same1,qn,ldN,convN,lenN,cond_true,cond_false,implies_true,Int.reduceEq,Int.reduceNe,Int.reduceLE,Int.reduceLT,forall_eq_or_imp,forall_eq,ne_eq,reduceCtorEq,notInt,numB,tabB,Array.reduceGetElem?,upG,up,nth,lay,rcB,rnm,rnmL,wrB,pcB,res15,Option.isNone,lhB,hx,hy,z1,liB]
      repeat (refine ⟨by omega, ?_⟩)
      exact fin 0 (by rw [if_neg (fun h => c1 h.1)])
mutual
theorem c15 : ∀ m : Msg, MayAt m
  | .mk k f v s d b bs p q key of => c15S k f v s d b bs p q key of (c15L p) (c15Q q)
theorem c15L : ∀ p : List Msg, ∀ m ∈ p, MayAt m
  | [], m, hm => by cases hm
  | a :: l, m, hm => (List.mem_cons.1 hm).elim (fun e => e ▸ c15 a) (c15L l m)
theorem c15Q : ∀ q : List (Msg × List Msg), ∀ x ∈ q, MayAt x.1 ∧ ∀ m ∈ x.2, MayAt m
  | [], x, hx => by cases hx
  | (a, l) :: r, x, hx => (List.mem_cons.1 hx).elim (fun e => e ▸ ⟨c15 a, c15L l⟩) (c15Q r x)
end
end Go.Proofs.Ytgocfglmideobaa

set_option linter.all false
set_option maxRecDepth 40000
namespace Go.Proofs.Ytgocfglmideobaa
open Go Go.Sx
theorem res59 : Try.f59.results.toList = [.cell 2 85] := rfl
theorem res105 : Try.f105.results.toList = [.tmp 2] := rfl
theorem res60 : Try.f60.results.toList = [.tmp 2] := rfl
theorem res104 : Try.f104.results.toList = [.tmp 4] := rfl

/-- Which fields a kind has, by the document. -/
def hasR (k : Int) : SV := .agg [.bool (hView k), .bool (hSeq k), .bool (hDig k), .bool (hBun k), .bool (hBuns k), .bool (hProof k), .bool (hPrep k)]
theorem c59 (k : Int) (hk : 1 ≤ k ∧ k ≤ 9) (h : List Chunk) (K : Tok → SV → List Chunk → Prop) (hK : K .mk (hasR k) h) : callP Try.prog 59 [.int .i64 k] h K := by
  refine callP_good fun hgood => ?_
  refine callP_of_code tabOk Try.func59 (by kernel_rfl) rfl (Nat.le_of_ble_eq_true rfl) (codeP_of_vc (pl := np) tabOk follows_mixed (by kernel_rfl) ?_)
  rw [Try.ntmps59]
  by_cases h1 : k = 1
  · subst h1
    have z1 : ((1 : Int) == 1) = true := rfl
    simp -implicitDefEqProofs (maxSteps := 1000000) (disch := omega) only [↓vcB,↓gd,↓opP,↓qv,↓ef,↓bslS,↓stS,↓mkS,↓rangeS,↓nextS,↓entryS,↓delS,↓mupS,↓appS,↓s2bS,↓resS,evB,Sx.look,slot,↓lkL,putS,putO,argsL,↓reduceIte,ofV,of1,lookH,putH,List.replicate,List.append,convS,fldA,nthT,idxA,idxS,fldS,oslN,bnd,slS,unS,valI,lenS,lookS,takeC,psB,asRow,csB,rdF,Ent.row,ldS,sz,szL,wrF,bldF,plT,bldS,srcS,nilS,nilEq,mapC,binH,binS2,structS,eqL,eqF,binS,arrS,isI,tupS,stor,storL,Value.oneCell',minS,maxS,capS,Nat.reduceAdd,Nat.reduceSub,Nat.reduceMul,Nat.reduceLT,Nat.reduceLeDiff,Nat.reduceEqDiff,Nat.reduceBEq,Int.reduceToNat,Int.reduceNeg,if_true,if_false,reduceIte,stays,inL,same1,qn,ldN,convN,lenN,cond_true,cond_false,implies_true,Int.reduceEq,Int.reduceNe,Int.reduceLE,Int.reduceLT,forall_eq_or_imp,forall_eq,ne_eq,reduceCtorEq,notInt,numB,tabB,Array.reduceGetElem?,upG,up,nth,lay,rcB,rnm,rnmL,wrB,pcB,res59,res105,res60,res104,Option.isNone,lhB,z1,liB]
    repeat (refine ⟨by omega, ?_⟩)
    exact intoR_drop hgood (by simp [hasR, ok, okL]) hK
  by_cases h2 : k = 2
  · subst h2
    have z1 : ((2 : Int) == 1) = false := rfl
    have z2 : ((2 : Int) == 2) = true := rfl
    simp -implicitDefEqProofs (maxSteps := 1000000) (disch := omega) only [↓vcB,↓gd,↓opP,↓qv,↓ef,↓bslS,↓stS,↓mkS,↓rangeS,↓nextS,↓entryS,↓delS,↓mupS,↓appS,↓s2bS,↓resS,evB,Sx.look,slot,↓lkL,putS,putO,argsL,↓reduceIte,ofV,of1,lookH,putH,List.replicate,List.append,convS,fldA,nthT,idxA,idxS,fldS,oslN,bnd,slS,unS,valI,lenS,lookS,takeC,psB,asRow,csB,rdF,Ent.row,ldS,sz,szL,wrF,bldF,plT,bldS,srcS,nilS,nilEq,mapC,binH,binS2,structS,eqL,eqF,binS,arrS,isI,tupS,stor,storL,Value.oneCell',minS,maxS,capS,Nat.reduceAdd,Nat.reduceSub,Nat.reduceMul,Nat.reduceLT,Nat.reduceLeDiff,Nat.reduceEqDiff,Nat.reduceBEq,Int.reduceToNat,Int.reduceNeg,if_true,if_false,reduceIte,stays,inL,same1,qn,ldN,convN,lenN,cond_true,cond_false,implies_true,Int.reduceEq,Int.reduceNe,Int.reduceLE,Int.reduceLT,forall_eq_or_imp,forall_eq,ne_eq,reduceCtorEq,notInt,numB,tabB,Array.reduceGetElem?,upG,up,nth,lay,rcB,rnm,rnmL,wrB,pcB,res59,res105,res60,res104,Option.isNone,lhB,z1,z2,liB]
    repeat (refine ⟨by omega, ?_⟩)
    exact intoR_drop hgood (by simp [hasR, ok, okL]) hK
  by_cases h3 : k = 3
  · subst h3
    have z1 : ((3 : Int) == 1) = false := rfl
    have z2 : ((3 : Int) == 2) = false := rfl
    have z3 : ((3 : Int) == 3) = true := rfl
    simp -implicitDefEqProofs (maxSteps := 1000000) (disch := omega) only [↓vcB,↓gd,↓opP,↓qv,↓ef,↓bslS,↓stS,↓mkS,↓rangeS,↓nextS,↓entryS,↓delS,↓mupS,↓appS,↓s2bS,↓resS,evB,Sx.look,slot,↓lkL,putS,putO,argsL,↓reduceIte,ofV,of1,lookH,putH,List.replicate,List.append,convS,fldA,nthT,idxA,idxS,fldS,oslN,bnd,slS,unS,valI,lenS,lookS,takeC,psB,asRow,csB,rdF,Ent.row,ldS,sz,szL,wrF,bldF,plT,bldS,srcS,nilS,nilEq,mapC,binH,binS2,structS,eqL,eqF,binS,arrS,isI,tupS,stor,storL,Value.oneCell',minS,maxS,capS,Nat.reduceAdd,Nat.reduceSub,Nat.reduceMul,Nat.reduceLT,Nat.reduceLeDiff,Nat.reduceEqDiff,Nat.reduceBEq,Int.reduceToNat,Int.reduceNeg,if_true,if_false,reduceIte,stays,inL,same1,qn,ldN,convN,lenN,cond_true,cond_false,implies_true,Int.reduceEq,Int.reduceNe,Int.reduceLE,Int.reduceLT,forall_eq_or_imp,forall_eq,ne_eq,reduceCtorEq,notInt,numB,tabB,Array.reduceGetElem?,upG,up,nth,lay,rcB,rnm,rnmL,wrB,pcB,res59,res105,res60,res104,Option.isNone,lhB,z1,z2,z3,liB]
    repeat (refine ⟨by omega, ?_⟩)
    exact intoR_drop hgood (by simp [hasR, ok, okL]) hK
  by_cases h4 : k = 4
  · subst h4
    have z1 : ((4 : Int) == 1) = false := rfl
    have z2 : ((4 : Int) == 2) = false := rfl
    have z3 : ((4 : Int) == 3) = false := rfl
    have z4 : ((4 : Int) == 4) = true := rfl
    simp -implicitDefEqProofs (maxSteps := 1000000) (disch := omega) only [↓vcB,↓gd,↓opP,↓qv,↓ef,↓bslS,↓stS,↓mkS,↓rangeS,↓nextS,↓entryS,↓delS,↓mupS,↓appS,↓s2bS,↓resS,evB,Sx.look,slot,↓lkL,putS,putO,argsL,↓reduceIte,ofV,of1,lookH,putH,List.replicate,List.append,convS,fldA,nthT,idxA,idxS,fldS,oslN,bnd,slS,unS,valI,lenS,lookS,takeC,psB,asRow,csB,rdF,Ent.row,ldS,sz,szL,wrF,bldF,plT,bldS,srcS,nilS,nilEq,mapC,binH,binS2,structS,eqL,eqF,binS,arrS,isI,tupS,stor,storL,Value.oneCell',minS,maxS,capS,Nat.reduceAdd,Nat.reduceSub,Nat.reduceMul,Nat.reduceLT,Nat.reduceLeDiff,Nat.reduceEqDiff,Nat.reduceBEq,Int.reduceToNat,Int.reduceNeg,if_true,if_false,reduceIte,stays,inL,same1,qn,ldN,convN,lenN,cond_true,cond_false,implies_true,Int.reduceEq,Int.reduceNe,Int.reduceLE,Int.reduceLT,forall_eq_or_imp,forall_eq,ne_eq,reduceCtorEq,notInt,numB,tabB,Array.reduceGetElem?,upG,up,nth,lay,rcB,rnm,rnmL,wrB,pcB,res59,res105,res60,res104,Option.isNone,lhB,z1,z2,z3,z4,liB]
    repeat (refine ⟨by omega, ?_⟩)
    exact intoR_drop hgood (by simp [hasR, ok, okL]) hK
  by_cases h5 : k = 5
  · subst h5
    have z1 : ((5 : Int) == 1) = false := rfl
    have z2 : ((5 : Int) == 2) = false := rfl
    have z3 : ((5 : Int) == 3) = false := rfl
    have z4 : ((5 : Int) == 4) = false := rfl
    have z5 : ((5 : Int) == 5) = true := rfl
    simp -implicitDefEqProofs (maxSteps := 1000000) (disch := omega) only [↓vcB,↓gd,↓opP,↓qv,↓ef,↓bslS,↓stS,↓mkS,↓rangeS,↓nextS,↓entryS,↓delS,↓mupS,↓appS,↓s2bS,↓resS,evB,Sx.look,slot,↓lkL,putS,putO,argsL,↓reduceIte,ofV,of1,lookH,putH,List.replicate,List.append,convS,fldA,nthT,idxA,idxS,fldS,oslN,bnd,slS,unS,valI,lenS,lookS,takeC,psB,asRow,csB,rdF,Ent.row,ldS,sz,szL,wrF,bldF,plT,bldS,srcS,nilS,nilEq,mapC,binH,binS2,structS,eqL,eqF,binS,arrS,isI,tupS,stor,storL,Value.oneCell',minS,maxS,capS,Nat.reduceAdd,Nat.reduceSub,Nat.reduceMul,Nat.reduceLT,Nat.reduceLeDiff,Nat.reduceEqDiff,Nat.reduceBEq,Int.reduceToNat,Int.reduceNeg,if_true,if_false,reduceIte,stays,inL,same1,qn,ldN,convN,lenN,cond_true,cond_false,implies_true,Int.reduceEq,Int.reduceNe,Int.reduceLE,Int.reduceLT,forall_eq_or_imp,forall_eq,ne_eq,reduceCtorEq,notInt,numB,tabB,Array.reduceGetElem?,upG,up,nth,lay,rcB,rnm,rnmL,wrB,pcB,res59,res105,res60,res104,Option.isNone,lhB,z1,z2,z3,z4,z5,liB]
    repeat (refine ⟨by omega, ?_⟩)
    exact intoR_drop hgood (by simp [hasR, ok, okL]) hK
  by_cases h6 : k = 6
  · subst h6
    have z1 : ((6 : Int) == 1) = false := rfl
    have z2 : ((6 : Int) == 2) = false := rfl
    have z3 : ((6 : Int) == 3) = false := rfl
    have z4 : ((6 : Int) == 4) = false := rfl
    have z5 : ((6 : Int) == 5) = false := rfl
    have z6 : ((6 : Int) == 6) = true := rfl
    simp -implicitDefEqProofs (maxSteps := 1000000) (disch := omega) only [↓vcB,↓gd,↓opP,↓qv,↓ef,↓bslS,↓stS,↓mkS,↓rangeS,↓nextS,↓entryS,↓delS,↓mupS,↓appS,↓s2bS,↓resS,evB,Sx.look,slot,↓lkL,putS,putO,argsL,↓reduceIte,ofV,of1,lookH,putH,List.replicate,List.append,convS,fldA,nthT,idxA,idxS,fldS,oslN,bnd,slS,unS,valI,lenS,lookS,takeC,psB,asRow,csB,rdF,Ent.row,ldS,sz,szL,wrF,bldF,plT,bldS,srcS,nilS,nilEq,mapC,binH,binS2,structS,eqL,eqF,binS,arrS,isI,tupS,stor,storL,Value.oneCell',minS,maxS,capS,Nat.reduceAdd,Nat.reduceSub,Nat.reduceMul,Nat.reduceLT,Nat.reduceLeDiff,Nat.reduceEqDiff,Nat.reduceBEq,Int.reduceToNat,Int.reduceNeg,if_true,if_false,reduceIte,stays,inL,same1,qn,ldN,convN,lenN,cond_true,cond_false,implies_true,Int.reduceEq,Int.reduceNe,Int.reduceLE,Int.reduceLT,forall_eq_or_imp,forall_eq,ne_eq,reduceCtorEq,notInt,numB,tabB,Array.reduceGetElem?,upG,up,nth,lay,rcB,rnm,rnmL,wrB,pcB,res59,res105,res60,res104,Option.isNone,lhB,z1,z2,z3,z4,z5,z6,liB]
    repeat (refine ⟨by omega, ?_⟩)
    exact intoR_drop hgood (by simp [hasR, ok, okL]) hK
  by_cases h7 : k = 7
  · subst h7
    have z1 : ((7 : Int) == 1) = false := rfl
    have z2 : ((7 : Int) == 2) = false := rfl
    have z3 : ((7 : Int) == 3) = false := rfl
    have z4 : ((7 : Int) == 4) = false := rfl
    have z5 : ((7 : Int) == 5) = false := rfl
    have z6 : ((7 : Int) == 6) = false := rfl
    have z7 : ((7 : Int) == 7) = true := rfl
    simp -implicitDefEqProofs (maxSteps := 1000000) (disch := omega) only [↓vcB,↓gd,↓opP,↓qv,↓ef,↓bslS,↓stS,↓mkS,↓rangeS,↓nextS,↓entryS,↓delS,↓mupS,↓appS,↓s2bS,↓resS,evB,Sx.look,slot,↓lkL,putS,putO,argsL,↓reduceIte,ofV,of1,lookH,putH,List.replicate,List.append,convS,fldA,nthT,idxA,idxS,fldS,oslN,bnd,slS,unS,valI,lenS,lookS,takeC,psB,asRow,csB,rdF,Ent.row,ldS,sz,szL,wrF,bldF,plT,bldS,srcS,nilS,nilEq,mapC,binH,binS2,structS,eqL,eqF,binS,arrS,isI,tupS,stor,storL,Value.oneCell',minS,maxS,capS,Nat.reduceAdd,Nat.reduceSub,Nat.reduceMul,Nat.reduceLT,Nat.reduceLeDiff,Nat.reduceEqDiff,Nat.reduceBEq,Int.reduceToNat,Int.reduceNeg,if_true,if_false,reduceIte,stays,inL,same1,qn,ldN,convN,lenN,cond_true,cond_false,implies_true,Int.reduceEq,Int.reduceNe,Int.reduceLE,Int.reduceLT,forall_eq_or_imp,forall_eq,ne_eq,reduceCtorEq,notInt,numB,tabB,Array.reduceGetElem?,upG,up,nth,lay,rcB,rnm,rnmL,wrB,pcB,res59,res105,res60,res104,Option.isNone,lhB,z1,z2,z3,z4,z5,z6,z7,liB]
    repeat (refine ⟨by omega, ?_⟩)
    exact intoR_drop hgood (by simp [hasR, ok, okL]) hK
  by_cases h8 : k = 8
  · subst h8
    have z1 : ((8 : Int) == 1) = false := rfl
    have z2 : ((8 : Int) == 2) = false := rfl
    have z3 : ((8 : Int) == 3) = false := rfl
    have z4 : ((8 : Int) == 4) = false := rfl
    have z5 : ((8 : Int) == 5) = false := rfl
    have z6 : ((8 : Int) == 6) = false := rfl
    have z7 : ((8 : Int) == 7) = false := rfl
    have z8 : ((8 : Int) == 8) = true := rfl
    simp -implicitDefEqProofs (maxSteps := 1000000) (disch := omega) only [↓vcB,↓gd,↓opP,↓qv,↓ef,↓bslS,↓stS,↓mkS,↓rangeS,↓nextS,↓entryS,↓delS,↓mupS,↓appS,↓s2bS,↓resS,evB,Sx.look,slot,↓lkL,putS,putO,argsL,↓reduceIte,ofV,of1,lookH,putH,List.replicate,List.append,convS,fldA,nthT,idxA,idxS,fldS,oslN,bnd,slS,unS,valI,lenS,lookS,takeC,psB,asRow,csB,rdF,Ent.row,ldS,sz,szL,wrF,bldF,plT,bldS,srcS,nilS,nilEq,mapC,binH,binS2,structS,eqL,eqF,binS,arrS,isI,tupS,stor,storL,Value.oneCell',minS,maxS,capS,Nat.reduceAdd,Nat.reduceSub,Nat.reduceMul,Nat.reduceLT,Nat.reduceLeDiff,Nat.reduceEqDiff,Nat.reduceBEq,Int.reduceToNat,Int.reduceNeg,if_true,if_false,reduceIte,stays,inL,same1,qn,ldN,convN,lenN,cond_true,cond_false,implies_true,Int.reduceEq,Int.reduceNe,Int.reduceLE,Int.reduceLT,forall_eq_or_imp,forall_eq,ne_eq,reduceCtorEq,notInt,numB,tabB,Array.reduceGetElem?,upG,up,nth,lay,rcB,rnm,rnmL,wrB,pcB,res59,res105,res60,res104,Option.isNone,lhB,z1,z2,z3,z4,z5,z6,z7,z8,liB]
    repeat (refine ⟨by omega, ?_⟩)
    exact intoR_drop hgood (by simp [hasR, ok, okL]) hK
  obtain rfl : k = 9 := by omega
  have z1 : ((9 : Int) == 1) = false := rfl
  have z2 : ((9 : Int) == 2) = false := rfl
  have z3 : ((9 : Int) == 3) = false := rfl
  have z4 : ((9 : Int) == 4) = false := rfl
  have z5 : ((9 : Int) == 5) = false := rfl
  have z6 : ((9 : Int) == 6) = false := rfl
  have z7 : ((9 : Int) == 7) = false := rfl
  have z8 : ((9 : Int) == 8) = false := rfl
  simp -implicitDefEqProofs (maxSteps := 1000000) (disch := omega) only [↓vcB,↓gd,↓opP,↓qv,↓ef,↓bslS,↓stS,↓mkS,↓rangeS,↓nextS,↓entryS,↓delS,↓mupS,↓appS,↓s2bS,↓resS,evB,Sx.look,slot,↓lkL,putS,putO,argsL,↓reduceIte,ofV,of1,lookH,putH,List.replicate,List.append,convS,fldA,nthT,idxA,idxS,fldS,oslN,bnd,slS,unS,valI,lenS,lookS,takeC,psB,asRow,csB,rdF,Ent.row,ldS,sz,szL,wrF,bldF,plT,bldS,srcS,nilS,nilEq,mapC,binH,binS2,structS,eqL,eqF,binS,arrS,isI,tupS,stor,storL,Value.oneCell',minS,maxS,capS,Nat.reduceAdd,Nat.reduceSub,Nat.reduceMul,Nat.reduceLT,Nat.reduceLeDiff,Nat.reduceEqDiff,Nat.reduceBEq,Int.reduceToNat,Int.reduceNeg,if_true,if_false,reduceIte,stays,inL,same1,qn,ldN,convN,lenN,cond_true,cond_false,implies_true,Int.reduceEq,Int.reduceNe,Int.reduceLE,Int.reduceLT,forall_eq_or_imp,forall_eq,ne_eq,reduceCtorEq,notInt,numB,tabB,Array.reduceGetElem?,upG,up,nth,lay,rcB,rnm,rnmL,wrB,pcB,res59,res105,res60,res104,Option.isNone,lhB,z1,z2,z3,z4,z5,z6,z7,z8,liB]
  repeat (refine ⟨by omega, ?_⟩)
  exact intoR_drop hgood (by simp [hasR, ok, okL]) hK
theorem c105 (k : Int) (h : List Chunk) (K : Tok → SV → List Chunk → Prop) (hK : K .mk (.int .i64 (kProof k)) h) : callP Try.prog 105 [.int .i64 k] h K := by
  unfold kProof at hK
  refine callP_of_code tabOk Try.func105 (by kernel_rfl) rfl (Nat.le_of_ble_eq_true rfl) (codeP_of_vc (pl := np) tabOk follows_mixed (by kernel_rfl) ?_)
  rw [Try.ntmps105]
  by_cases c : k = 7
  · have z : (k == 7) = true := beq_iff_eq.2 c
    rw [if_pos c] at hK
    simp -implicitDefEqProofs (maxSteps := 1000000) (disch := omega) only [↓vcB,↓gd,↓opP,↓qv,↓ef,↓bslS,↓stS,↓mkS,↓rangeS,↓nextS,↓entryS,↓delS,↓mupS,↓appS,↓s2bS,↓resS,evB,Sx.look,slot,↓lkL,putS,putO,argsL,↓reduceIte,ofV,of1,lookH,putH,List.replicate,List.append,convS,fldA,nthT,idxA,idxS,fldS,oslN,bnd,slS,unS,valI,lenS,lookS,takeC,psB,asRow,csB,rdF,Ent.row,ldS,sz,szL,wrF,bldF,plT,bldS,srcS,nilS,nilEq,mapC,binH,binS2,structS,eqL,eqF,binS,arrS,isI,tupS,stor,storL,Value.oneCell',minS,maxS,capS,Nat.reduceAdd,Nat.reduceSub,Nat.reduceMul,Nat.reduceLT,Nat.reduceLeDiff,Nat.reduceEqDiff,Nat.reduceBEq,Int.reduceToNat,Int.reduceNeg,if_true,if_false,reduceIte,stays,inL,same1,qn,ldN,convN,lenN,cond_true,cond_false,implies_true,Int.reduceEq,Int.reduceNe,Int.reduceLE,Int.reduceLT,forall_eq_or_imp,forall_eq,ne_eq,reduceCtorEq,notInt,numB,tabB,Array.reduceGetElem?,upG,up,nth,lay,rcB,rnm,rnmL,wrB,pcB,res59,res105,res60,res104,Option.isNone,lhB,z,liB]
    repeat (refine ⟨by omega, ?_⟩)
    exact intoR_refl (Nat.le_refl _) hK
  · have z : (k == 7) = false := beq_eq_false_iff_ne.2 c
    rw [if_neg c] at hK
    simp -implicitDefEqProofs (maxSteps := 1000000) (disch := omega) only [↓vcB,↓gd,↓opP,↓qv,↓ef,↓bslS,↓stS,↓mkS,↓rangeS,↓nextS,↓entryS,↓delS,↓mupS,↓appS,↓s2bS,↓resS,evB,Sx.look,slot,↓lkL,putS,putO,argsL,↓reduceIte,ofV,of1,lookH,putH,List.replicate,List.append,convS,fldA,nthT,idxA,idxS,fldS,oslN,bnd,slS,unS,valI,lenS,lookS,takeC,psB,asRow,csB,rdF,Ent.row,ldS,sz,szL,wrF,bldF,plT,bldS,srcS,nilS,nilEq,mapC,binH,binS2,structS,eqL,eqF,binS,arrS,isI,tupS,stor,storL,Value.oneCell',minS,maxS,capS,Nat.reduceAdd,Nat.reduceSub,Nat.reduceMul,Nat.reduceLT,Nat.reduceLeDiff,Nat.reduceEqDiff,Nat.reduceBEq,Int.reduceToNat,Int.reduceNeg,if_true,if_false,reduceIte,stays,inL,same1,qn,ldN,convN,lenN,cond_true,cond_false,implies_true,Int.reduceEq,Int.reduceNe,Int.reduceLE,Int.reduceLT,forall_eq_or_imp,forall_eq,ne_eq,reduceCtorEq,notInt,numB,tabB,Array.reduceGetElem?,upG,up,nth,lay,rcB,rnm,rnmL,wrB,pcB,res59,res105,res60,res104,Option.isNone,lhB,z,liB]
    repeat (refine ⟨by omega, ?_⟩)
    exact intoR_refl (Nat.le_refl _) hK
theorem c60 (b : List By) (sv : SV) (h : List Chunk) (hb : rowB h sv b) (K : Tok → SV → List Chunk → Prop) (hK : K .mk (.int .i64 (mayB b)) h) : callP Try.prog 60 [sv] h K := by
  obtain ⟨k, w, rfl, hk⟩ := hb
  unfold mayB at hK
  refine callP_of_code tabOk Try.func60 (by kernel_rfl) rfl (Nat.le_of_ble_eq_true rfl) (codeP_of_vc (pl := np) tabOk follows_mixed (by kernel_rfl) ?_)
  rw [Try.ntmps60]
  by_cases h0 : b.length = 0
  · have z1 : (((b.length : Nat) : Int) == 0) = true := by rw [h0]; rfl
    rw [if_pos h0] at hK
    simp -implicitDefEqProofs (maxSteps := 1000000) (disch := omega) only [↓vcB,↓gd,↓opP,↓qv,↓ef,↓bslS,↓stS,↓mkS,↓rangeS,↓nextS,↓entryS,↓delS,↓mupS,↓appS,↓s2bS,↓resS,evB,Sx.look,slot,↓lkL,putS,putO,argsL,↓reduceIte,ofV,of1,lookH,putH,List.replicate,List.append,convS,fldA,nthT,idxA,idxS,fldS,oslN,bnd,slS,unS,valI,lenS,lookS,takeC,psB,asRow,csB,rdF,Ent.row,ldS,sz,szL,wrF,bldF,plT,bldS,srcS,nilS,nilEq,mapC,binH,binS2,structS,eqL,eqF,binS,arrS,isI,tupS,stor,storL,Value.oneCell',minS,maxS,capS,Nat.reduceAdd,Nat.reduceSub,Nat.reduceMul,Nat.reduceLT,Nat.reduceLeDiff,Nat.reduceEqDiff,Nat.reduceBEq,Int.reduceToNat,Int.reduceNeg,if_true,if_false,reduceIte,stays,inL,same1,qn,ldN,convN,lenN,cond_true,cond_false,implies_true,Int.reduceEq,Int.reduceNe,Int.reduceLE,Int.reduceLT,forall_eq_or_imp,forall_eq,ne_eq,reduceCtorEq,notInt,numB,tabB,Array.reduceGetElem?,upG,up,nth,lay,rcB,rnm,rnmL,wrB,pcB,res59,res105,res60,res104,Option.isNone,lhB,z1,liB]
    repeat (refine ⟨by omega, ?_⟩)
    exact intoR_refl (Nat.le_refl _) hK
  · have z1 : (((b.length : Nat) : Int) == 0) = false := beq_eq_false_iff_ne.2 (by omega)
    rw [if_neg h0] at hK
    by_cases h2 : b.length > 8192
    · have z2 : decide (((b.length : Nat) : Int) > 8192) = true := decide_eq_true (by omega)
      rw [if_pos h2] at hK
      simp -implicitDefEqProofs (maxSteps := 1000000) (disch := omega) only [↓vcB,↓gd,↓opP,↓qv,↓ef,↓bslS,↓stS,↓mkS,↓rangeS,↓nextS,↓entryS,↓delS,↓mupS,↓appS,↓s2bS,↓resS,evB,Sx.look,slot,↓lkL,putS,putO,argsL,↓reduceIte,ofV,of1,lookH,putH,List.replicate,List.append,convS,fldA,nthT,idxA,idxS,fldS,oslN,bnd,slS,unS,valI,lenS,lookS,takeC,psB,asRow,csB,rdF,Ent.row,ldS,sz,szL,wrF,bldF,plT,bldS,srcS,nilS,nilEq,mapC,binH,binS2,structS,eqL,eqF,binS,arrS,isI,tupS,stor,storL,Value.oneCell',minS,maxS,capS,Nat.reduceAdd,Nat.reduceSub,Nat.reduceMul,Nat.reduceLT,Nat.reduceLeDiff,Nat.reduceEqDiff,Nat.reduceBEq,Int.reduceToNat,Int.reduceNeg,if_true,if_false,reduceIte,stays,inL,same1,qn,ldN,convN,lenN,cond_true,cond_false,implies_true,Int.reduceEq,Int.reduceNe,Int.reduceLE,Int.reduceLT,forall_eq_or_imp,forall_eq,ne_eq,reduceCtorEq,notInt,numB,tabB,Array.reduceGetElem?,upG,up,nth,lay,rcB,rnm,rnmL,wrB,pcB,res59,res105,res60,res104,Option.isNone,lhB,z1,z2,liB]
      repeat (refine ⟨by omega, ?_⟩)
      exact intoR_refl (Nat.le_refl _) hK
    · have z2 : decide (((b.length : Nat) : Int) > 8192) = false := decide_eq_false (by omega)
      rw [if_neg h2] at hK
      simp -implicitDefEqProofs (maxSteps := 1000000) (disch := omega) only [↓vcB,↓gd,↓opP,↓qv,↓ef,↓bslS,↓stS,↓mkS,↓rangeS,↓nextS,↓entryS,↓delS,↓mupS,↓appS,↓s2bS,↓resS,evB,Sx.look,slot,↓lkL,putS,putO,argsL,↓reduceIte,ofV,of1,lookH,putH,List.replicate,List.append,convS,fldA,nthT,idxA,idxS,fldS,oslN,bnd,slS,unS,valI,lenS,lookS,takeC,psB,asRow,csB,rdF,Ent.row,ldS,sz,szL,wrF,bldF,plT,bldS,srcS,nilS,nilEq,mapC,binH,binS2,structS,eqL,eqF,binS,arrS,isI,tupS,stor,storL,Value.oneCell',minS,maxS,capS,Nat.reduceAdd,Nat.reduceSub,Nat.reduceMul,Nat.reduceLT,Nat.reduceLeDiff,Nat.reduceEqDiff,Nat.reduceBEq,Int.reduceToNat,Int.reduceNeg,if_true,if_false,reduceIte,stays,inL,same1,qn,ldN,convN,lenN,cond_true,cond_false,implies_true,Int.reduceEq,Int.reduceNe,Int.reduceLE,Int.reduceLT,forall_eq_or_imp,forall_eq,ne_eq,reduceCtorEq,notInt,numB,tabB,Array.reduceGetElem?,upG,up,nth,lay,rcB,rnm,rnmL,wrB,pcB,res59,res105,res60,res104,Option.isNone,lhB,z1,z2,liB]
      repeat (refine ⟨by omega, ?_⟩)
      exact intoR_refl (Nat.le_refl _) hK
abbrev RAt (m : Msg) : Prop := ∀ (l : List SV) (h : List Chunk), MsgH h m l → ∀ (K : Tok → SV → List Chunk → Prop), K .mk (.int .i64 (may m)) h → callP Try.prog 16 [.agg l] h K
def mayK (kind : Int) (m : Msg) : Int := if m.kind ≠ kind then 1 else may m
theorem c104 (kind : Int) (m : Msg) (hR : RAt m) (l : List SV) (h : List Chunk) (hm : MsgH h m l) (K : Tok → SV → List Chunk → Prop) (hK : K .mk (.int .i64 (mayK kind m)) h) : callP Try.prog 104 [.agg l, .int .i64 kind] h K := by
  have hm0 := hm
  obtain ⟨k, f, v, s, d, b, bs, p, q, key, of⟩ := m
  rw [MsgH] at hm
  obtain ⟨sb, sbs, kp, wp, fp, kq, wq, fq, hl, h1, h2, h3, h4, h5, h6⟩ := hm
  obtain ⟨kb, wb, rfl, hkb⟩ := h1
  obtain ⟨kbs, wbs, fb, rfl, hkbs, hfb⟩ := h2
  unfold dig32 at hl
  subst hl
  replace hK : K .mk (.int .i64 (if k ≠ kind then 1 else may (.mk k f v s d b bs p q key of))) h := hK
  refine callP_good fun hgood => ?_
  refine callP_of_code tabOk Try.func104 (by kernel_rfl) rfl (Nat.le_of_ble_eq_true rfl) (codeP_of_vc (pl := np) tabOk follows_mixed (by kernel_rfl) ?_)
  rw [Try.ntmps104]
  by_cases e : k = kind
  · have z : (k != kind) = false := by rw [e]; exact bne_self_eq_false _
    rw [if_neg (fun h => h e)] at hK
    simp -implicitDefEqProofs (maxSteps := 1000000) (disch := omega) only [↓vcB,↓gd,↓opP,↓qv,↓ef,↓bslS,↓stS,↓mkS,↓rangeS,↓nextS,↓entryS,↓delS,↓mupS,↓appS,↓s2bS,↓resS,evB,Sx.look,slot,↓lkL,putS,putO,argsL,↓reduceIte,ofV,of1,lookH,putH,List.replicate,List.append,convS,fldA,nthT,idxA,idxS,fldS,oslN,bnd,slS,unS,valI,lenS,lookS,takeC,psB,asRow,csB,rdF,Ent.row,ldS,sz,szL,wrF,bldF,plT,bldS,srcS,nilS,nilEq,mapC,binH,binS2,structS,eqL,eqF,binS,arrS,isI,tupS,stor,storL,Value.oneCell',minS,maxS,capS,Nat.reduceAdd,Nat.reduceSub,Nat.reduceMul,Nat.reduceLT,Nat.reduceLeDiff,Nat.reduceEqDiff,Nat.reduceBEq,Int.reduceToNat,Int.reduceNeg,if_true,if_false,reduceIte,stays,inL,same1,qn,ldN,convN,lenN,cond_true,cond_false,implies_true,Int.reduceEq,Int.reduceNe,Int.reduceLE,Int.reduceLT,forall_eq_or_imp,forall_eq,ne_eq,reduceCtorEq,notInt,numB,tabB,Array.reduceGetElem?,upG,up,nth,lay,rcB,rnm,rnmL,wrB,pcB,res59,res105,res60,res104,Option.isNone,lhB,z,liB]
    repeat (refine ⟨by omega, ?_⟩)
    refine hR _ _ (hm0.ext ((Ext.refl _ _).app _)) _ ?_
    simp -implicitDefEqProofs (maxSteps := 1000000) (disch := omega) only [↓vcB,↓gd,↓opP,↓qv,↓ef,↓bslS,↓stS,↓mkS,↓rangeS,↓nextS,↓entryS,↓delS,↓mupS,↓appS,↓s2bS,↓resS,evB,Sx.look,slot,↓lkL,putS,putO,argsL,↓reduceIte,ofV,of1,lookH,putH,List.replicate,List.append,convS,fldA,nthT,idxA,idxS,fldS,oslN,bnd,slS,unS,valI,lenS,lookS,takeC,psB,asRow,csB,rdF,Ent.row,ldS,sz,szL,wrF,bldF,plT,bldS,srcS,nilS,nilEq,mapC,binH,binS2,structS,eqL,eqF,binS,arrS,isI,tupS,stor,storL,Value.oneCell',minS,maxS,capS,Nat.reduceAdd,Nat.reduceSub,Nat.reduceMul,Nat.reduceLT,Nat.reduceLeDiff,Nat.reduceEqDiff,Nat.reduceBEq,Int.reduceToNat,Int.reduceNeg,if_true,if_false,reduceIte,stays,inL,same1,qn,ldN,convN,lenN,cond_true,cond_false,implies_true,Int.reduceEq,Int.reduceNe,Int.reduceLE,Int.reduceLT,forall_eq_or_imp,forall_eq,ne_eq,reduceCtorEq,notInt,numB,tabB,Array.reduceGetElem?,upG,up,nth,lay,rcB,rnm,rnmL,wrB,pcB,res59,res105,res60,res104,Option.isNone,lhB,z,liB]
    repeat (refine ⟨by omega, ?_⟩)
    exact intoR_drop hgood trivial hK
  · have z : (k != kind) = true := bne_iff_ne.2 e
    rw [if_pos e] at hK
    simp -implicitDefEqProofs (maxSteps := 1000000) (disch := omega) only [↓vcB,↓gd,↓opP,↓qv,↓ef,↓bslS,↓stS,↓mkS,↓rangeS,↓nextS,↓entryS,↓delS,↓mupS,↓appS,↓s2bS,↓resS,evB,Sx.look,slot,↓lkL,putS,putO,argsL,↓reduceIte,ofV,of1,lookH,putH,List.replicate,List.append,convS,fldA,nthT,idxA,idxS,fldS,oslN,bnd,slS,unS,valI,lenS,lookS,takeC,psB,asRow,csB,rdF,Ent.row,ldS,sz,szL,wrF,bldF,plT,bldS,srcS,nilS,nilEq,mapC,binH,binS2,structS,eqL,eqF,binS,arrS,isI,tupS,stor,storL,Value.oneCell',minS,maxS,capS,Nat.reduceAdd,Nat.reduceSub,Nat.reduceMul,Nat.reduceLT,Nat.reduceLeDiff,Nat.reduceEqDiff,Nat.reduceBEq,Int.reduceToNat,Int.reduceNeg,if_true,if_false,reduceIte,stays,inL,same1,qn,ldN,convN,lenN,cond_true,cond_false,implies_true,Int.reduceEq,Int.reduceNe,Int.reduceLE,Int.reduceLT,forall_eq_or_imp,forall_eq,ne_eq,reduceCtorEq,notInt,numB,tabB,Array.reduceGetElem?,upG,up,nth,lay,rcB,rnm,rnmL,wrB,pcB,res59,res105,res60,res104,Option.isNone,lhB,z,liB]
    repeat (refine ⟨by omega, ?_⟩)
    exact intoR_drop hgood trivial hK
end Go.Proofs.Ytgocfglmideobaa
