/- Texts put together: Contracts of functions that the laws reach, by the symbolic executor. No condition. -/
import Derived.Test.YtgocfglmideobaaMd
set_option linter.all false
set_option maxRecDepth 40000
namespace Go.Proofs.Ytgocfglmideobaa
open Go Go.Sx
theorem res61 : Try.f61.results.toList = [.tmp 4] := rfl
def pl61 : Nat → Plan
  | 19 => (.q 0 (.q 1 (.q 2 (.e1 3 [2] (.e1 4 [0, 2, 3] (.q 5 .nil))))))
  | _ => .nil

theorem mayL_dropK (kind : Int) (p : List Msg) {i : Nat} (hi : i < p.length) : mayL kind (p.drop i) = if mayK kind p[i] ≠ 0 then mayK kind p[i] else mayL kind (p.drop (i + 1)) := by
  rw [mayL_drop kind p hi]
  unfold mayK
  by_cases h1 : p[i].kind ≠ kind
  · rw [if_pos h1, if_pos h1]; rfl
  · rw [if_neg h1, if_neg h1]
theorem mayW_one (m : Msg) : mayW true 2 [m] = mayK 2 m := by
  unfold mayW mayK
  rw [if_neg (by simp), if_neg (by simp), mayL, mayL]
  by_cases h1 : m.kind ≠ 2
  · rw [if_pos h1, if_pos h1]
  · rw [if_neg h1, if_neg h1]
    by_cases h2 : may m ≠ 0
    · rw [if_pos h2]
    · rw [if_neg h2]
      exact (Classical.not_not.1 h2).symm
def mayLs (k : Int) (bs : List (List By)) (p : List Msg) (q : List (Msg × List Msg)) : Int :=
  if hBuns k = false ∧ 0 < bs.length then 1 else if bs.length > 512 then 18 else if mayBs bs ≠ 0 then mayBs bs else
  if hProof k = false ∧ 0 < p.length then 1 else if p.length > 64 then 18 else if mayL (kProof k) p ≠ 0 then mayL (kProof k) p else
  if hPrep k = false ∧ 0 < q.length then 1 else if q.length > 64 then 18 else mayQ (hPreps k) q
set_option maxHeartbeats 8000000 in
theorem c61 (k f v s : Int) (d : Nat → By) (b : List By) (bs : List (List By)) (p : List Msg) (q : List (Msg × List Msg)) (key : Int) (of : Nat → By) (IP : ∀ m ∈ p, RAt m) (IQ : ∀ x ∈ q, RAt x.1 ∧ ∀ m ∈ x.2, RAt m) (l : List SV) (h : List Chunk) (hm : MsgH h (.mk k f v s d b bs p q key of) l) (K : Tok → SV → List Chunk → Prop) (hK : K .mk (.int .i64 (mayLs k bs p q)) h) : callP Try.prog 61 [.agg l, hasR k] h K := by
  rw [MsgH] at hm
  obtain ⟨sb, sbs, kp, wp, fp, kq, wq, fq, hl, h1, h2, h3, h4, h5, h6⟩ := hm
  obtain ⟨kb, wb, rfl, hkb⟩ := h1
  obtain ⟨kbs, wbs, fb, rfl, hkbs, hfb⟩ := h2
  unfold dig32 at hl
  subst hl
  refine callP_good fun hgood => ?_
  have drop : ∀ (H1 x : List Chunk) e, H1 = h ++ x → mayLs k bs p q = e → IntoR h.length (.int .i64 e) H1 K := fun H1 x e hH he => by
    rw [he] at hK
    rw [hH]
    exact intoR_drop hgood trivial hK
  refine callP_of_code tabOk Try.func61 (by kernel_rfl) rfl (Nat.le_of_ble_eq_true rfl) ?_
  rw [Try.ntmps61]
  unfold hasR
  obtain ⟨HH, hHH⟩ : ∃ HH : List Chunk → List Chunk → Prop, ∀ H1 x, HH H1 x ↔ (H1 = h ++ x ∧ lookH H1 h.length = (Chunk.cells true [.int .i64 k, .int .i64 f, .int .i64 v, .int .i64 s, .fam 32 1 fun i => .int .u8 (nat (d i)), .osl kb 0 0 1 b.length, .osl kbs 0 0 1 bs.length, .osl kp 0 0 73 p.length, .osl kq 0 0 74 q.length, .int .i64 key, .fam 32 1 fun i => .int .u8 (nat (of i))]) ∧ lookH H1 (h.length + 1) = (Chunk.cells true [.bool (hView k), .bool (hSeq k), .bool (hDig k), .bool (hBun k), .bool (hBuns k), .bool (hProof k), .bool (hPrep k)])) := ⟨_, fun _ _ => Iff.rfl⟩
  refine codeP_seq (pl := pl61) tabOk follows_mixed (by kernel_rfl) (fun st => ∃ (H1 x : List Chunk) (j : Nat → Value), HH H1 x ∧ True ∧ st = ⟨⟨125, [(2, .ptr h.length 0), (3, .ptr (h.length + 1) 0), (4, .int .i64 0)], j⟩, H1, []⟩) ?_ ?_
  · simp -implicitDefEqProofs (maxSteps := 1000000) (disch := omega) only [↓vcB,↓gd,↓opP,↓qv,↓ef,↓bslS,↓stS,↓mkS,↓rangeS,↓nextS,↓entryS,↓delS,↓mupS,↓appS,↓s2bS,↓resS,evB,Sx.look,slot,↓lkL,putS,putO,argsL,↓reduceIte,ofV,of1,lookH,putH,List.replicate,List.append,convS,fldA,nthT,idxA,idxS,fldS,oslN,bnd,slS,unS,valI,lenS,lookS,takeC,psB,asRow,csB,rdF,Ent.row,ldS,sz,szL,wrF,bldF,plT,bldS,srcS,nilS,nilEq,mapC,binH,binS2,structS,eqL,eqF,binS,arrS,isI,tupS,stor,storL,Value.oneCell',minS,maxS,capS,Nat.reduceAdd,Nat.reduceSub,Nat.reduceMul,Nat.reduceLT,Nat.reduceLeDiff,Nat.reduceEqDiff,Nat.reduceBEq,Int.reduceToNat,Int.reduceNeg,if_true,if_false,reduceIte,stays,inL,same1,qn,ldN,convN,lenN,cond_true,cond_false,implies_true,Int.reduceEq,Int.reduceNe,Int.reduceLE,Int.reduceLT,forall_eq_or_imp,forall_eq,ne_eq,reduceCtorEq,notInt,numB,tabB,Array.reduceGetElem?,upG,up,nth,lay,rcB,rnm,rnmL,wrB,pcB,res61,pl61,Option.isNone,lhB,liB]
    repeat (refine ⟨by omega, ?_⟩)
    have hb : HH (h ++ [Chunk.cells true [.int .i64 k, .int .i64 f, .int .i64 v, .int .i64 s, .fam 32 1 fun i => .int .u8 (nat (d i)), .osl kb 0 0 1 b.length, .osl kbs 0 0 1 bs.length, .osl kp 0 0 73 p.length, .osl kq 0 0 74 q.length, .int .i64 key, .fam 32 1 fun i => .int .u8 (nat (of i))], Chunk.cells true [.bool (hView k), .bool (hSeq k), .bool (hDig k), .bool (hBun k), .bool (hBuns k), .bool (hProof k), .bool (hPrep k)]]) [Chunk.cells true [.int .i64 k, .int .i64 f, .int .i64 v, .int .i64 s, .fam 32 1 fun i => .int .u8 (nat (d i)), .osl kb 0 0 1 b.length, .osl kbs 0 0 1 bs.length, .osl kp 0 0 73 p.length, .osl kq 0 0 74 q.length, .int .i64 key, .fam 32 1 fun i => .int .u8 (nat (of i))], Chunk.cells true [.bool (hView k), .bool (hSeq k), .bool (hDig k), .bool (hBun k), .bool (hBuns k), .bool (hProof k), .bool (hPrep k)]] := (hHH _ _).2 ⟨rfl, lookH_app _ 0 _, lookH_app _ 1 _⟩
    exact into_keep [(2, .ptr h.length 0), (3, .ptr (h.length + 1) 0), (4, .int .i64 0)] (by simp [sameT, slot, lkL]) fun j => ⟨_, _, j, hb, rfl⟩
  rintro _ ⟨H1, x, j0, hhh, _, rfl⟩
  obtain ⟨hH1, hx, hy⟩ := (hHH _ _).1 hhh
  obtain ⟨N1, hN1⟩ : ∃ N : Prop, N ↔ ¬ (hBuns k = false ∧ 0 < bs.length) := ⟨_, Iff.rfl⟩
  refine codeP_seq (pl := pl61) tabOk follows_mixed (by kernel_rfl) (fun st => ∃ (H1 x : List Chunk) (j : Nat → Value), HH H1 x ∧ N1 ∧ st = ⟨⟨125, [(2, .ptr h.length 0), (3, .ptr (h.length + 1) 0), (4, .int .i64 0)], j⟩, H1, []⟩) ?_ ?_
  · by_cases c1 : hBuns k = false ∧ 0 < bs.length
    · have z1 : decide (((bs.length : Nat) : Int) > 0) = true := decide_eq_true (by omega)
      have z2 := c1.1
      simp -implicitDefEqProofs (maxSteps := 1000000) (disch := omega) only [↓vcB,↓gd,↓opP,↓qv,↓ef,↓bslS,↓stS,↓mkS,↓rangeS,↓nextS,↓entryS,↓delS,↓mupS,↓appS,↓s2bS,↓resS,evB,Sx.look,slot,↓lkL,putS,putO,argsL,↓reduceIte,ofV,of1,lookH,putH,List.replicate,List.append,convS,fldA,nthT,idxA,idxS,fldS,oslN,bnd,slS,unS,valI,lenS,lookS,takeC,psB,asRow,csB,rdF,Ent.row,ldS,sz,szL,wrF,bldF,plT,bldS,srcS,nilS,nilEq,mapC,binH,binS2,structS,eqL,eqF,binS,arrS,isI,tupS,stor,storL,Value.oneCell',minS,maxS,capS,Nat.reduceAdd,Nat.reduceSub,Nat.reduceMul,Nat.reduceLT,Nat.reduceLeDiff,Nat.reduceEqDiff,Nat.reduceBEq,Int.reduceToNat,Int.reduceNeg,if_true,if_false,reduceIte,stays,inL,same1,qn,ldN,convN,lenN,cond_true,cond_false,implies_true,Int.reduceEq,Int.reduceNe,Int.reduceLE,Int.reduceLT,forall_eq_or_imp,forall_eq,ne_eq,reduceCtorEq,notInt,numB,tabB,Array.reduceGetElem?,upG,up,nth,lay,rcB,rnm,rnmL,wrB,pcB,res61,pl61,Option.isNone,lhB,z1,z2,hx,hy,liB]
      repeat (refine ⟨by omega, ?_⟩)
      exact drop H1 x _ hH1 (by unfold mayLs; rw [if_pos c1])
    · have hc : ∀ {P : Prop}, (hBuns k = true → P) → (hBuns k = false → decide (((bs.length : Nat) : Int) > 0) = false → P) → P := fun a c => by
        cases z : hBuns k with
        | true => exact a z
        | false => exact c z (decide_eq_false (fun h => c1 ⟨z, by omega⟩))
      refine hc (fun z1 => ?_) fun z1 z3 => ?_
      · simp -implicitDefEqProofs (maxSteps := 1000000) (disch := omega) only [↓vcB,↓gd,↓opP,↓qv,↓ef,↓bslS,↓stS,↓mkS,↓rangeS,↓nextS,↓entryS,↓delS,↓mupS,↓appS,↓s2bS,↓resS,evB,Sx.look,slot,↓lkL,putS,putO,argsL,↓reduceIte,ofV,of1,lookH,putH,List.replicate,List.append,convS,fldA,nthT,idxA,idxS,fldS,oslN,bnd,slS,unS,valI,lenS,lookS,takeC,psB,asRow,csB,rdF,Ent.row,ldS,sz,szL,wrF,bldF,plT,bldS,srcS,nilS,nilEq,mapC,binH,binS2,structS,eqL,eqF,binS,arrS,isI,tupS,stor,storL,Value.oneCell',minS,maxS,capS,Nat.reduceAdd,Nat.reduceSub,Nat.reduceMul,Nat.reduceLT,Nat.reduceLeDiff,Nat.reduceEqDiff,Nat.reduceBEq,Int.reduceToNat,Int.reduceNeg,if_true,if_false,reduceIte,stays,inL,same1,qn,ldN,convN,lenN,cond_true,cond_false,implies_true,Int.reduceEq,Int.reduceNe,Int.reduceLE,Int.reduceLT,forall_eq_or_imp,forall_eq,ne_eq,reduceCtorEq,notInt,numB,tabB,Array.reduceGetElem?,upG,up,nth,lay,rcB,rnm,rnmL,wrB,pcB,res61,pl61,Option.isNone,lhB,z1,hx,hy,liB]
        repeat (refine ⟨by omega, ?_⟩)
        exact into_keep [(2, .ptr h.length 0), (3, .ptr (h.length + 1) 0), (4, .int .i64 0)] (by simp [sameT, slot, lkL]) fun j => ⟨H1, x, j, (hHH _ _).2 ⟨hH1, hx, hy⟩, hN1.2 c1, rfl⟩
      · simp -implicitDefEqProofs (maxSteps := 1000000) (disch := omega) only [↓vcB,↓gd,↓opP,↓qv,↓ef,↓bslS,↓stS,↓mkS,↓rangeS,↓nextS,↓entryS,↓delS,↓mupS,↓appS,↓s2bS,↓resS,evB,Sx.look,slot,↓lkL,putS,putO,argsL,↓reduceIte,ofV,of1,lookH,putH,List.replicate,List.append,convS,fldA,nthT,idxA,idxS,fldS,oslN,bnd,slS,unS,valI,lenS,lookS,takeC,psB,asRow,csB,rdF,Ent.row,ldS,sz,szL,wrF,bldF,plT,bldS,srcS,nilS,nilEq,mapC,binH,binS2,structS,eqL,eqF,binS,arrS,isI,tupS,stor,storL,Value.oneCell',minS,maxS,capS,Nat.reduceAdd,Nat.reduceSub,Nat.reduceMul,Nat.reduceLT,Nat.reduceLeDiff,Nat.reduceEqDiff,Nat.reduceBEq,Int.reduceToNat,Int.reduceNeg,if_true,if_false,reduceIte,stays,inL,same1,qn,ldN,convN,lenN,cond_true,cond_false,implies_true,Int.reduceEq,Int.reduceNe,Int.reduceLE,Int.reduceLT,forall_eq_or_imp,forall_eq,ne_eq,reduceCtorEq,notInt,numB,tabB,Array.reduceGetElem?,upG,up,nth,lay,rcB,rnm,rnmL,wrB,pcB,res61,pl61,Option.isNone,lhB,z1,z3,hx,hy,liB]
        repeat (refine ⟨by omega, ?_⟩)
        exact into_keep [(2, .ptr h.length 0), (3, .ptr (h.length + 1) 0), (4, .int .i64 0)] (by simp [sameT, slot, lkL]) fun j => ⟨H1, x, j, (hHH _ _).2 ⟨hH1, hx, hy⟩, hN1.2 c1, rfl⟩
  rintro _ ⟨H1, x, j1, hhh, hn1, rfl⟩
  obtain ⟨hH1, hx, hy⟩ := (hHH _ _).1 hhh
  have hE : Ext (fun _ => False) h H1 := by rw [hH1]; exact (Ext.refl _ _).app _
  have n1 := hN1.1 hn1
  obtain ⟨N2, hN2⟩ : ∃ N : Prop, N ↔ ¬ bs.length > 512 := ⟨_, Iff.rfl⟩
  refine codeP_seq (pl := pl61) tabOk follows_mixed (by kernel_rfl) (fun st => ∃ (H1 x : List Chunk) (j : Nat → Value), HH H1 x ∧ N2 ∧ st = ⟨⟨125, [(2, .ptr h.length 0), (3, .ptr (h.length + 1) 0), (4, .int .i64 0)], j⟩, H1, []⟩) ?_ ?_
  · by_cases c1 : bs.length > 512
    · have z1 : decide (((bs.length : Nat) : Int) > 512) = true := decide_eq_true (by omega)
      simp -implicitDefEqProofs (maxSteps := 1000000) (disch := omega) only [↓vcB,↓gd,↓opP,↓qv,↓ef,↓bslS,↓stS,↓mkS,↓rangeS,↓nextS,↓entryS,↓delS,↓mupS,↓appS,↓s2bS,↓resS,evB,Sx.look,slot,↓lkL,putS,putO,argsL,↓reduceIte,ofV,of1,lookH,putH,List.replicate,List.append,convS,fldA,nthT,idxA,idxS,fldS,oslN,bnd,slS,unS,valI,lenS,lookS,takeC,psB,asRow,csB,rdF,Ent.row,ldS,sz,szL,wrF,bldF,plT,bldS,srcS,nilS,nilEq,mapC,binH,binS2,structS,eqL,eqF,binS,arrS,isI,tupS,stor,storL,Value.oneCell',minS,maxS,capS,Nat.reduceAdd,Nat.reduceSub,Nat.reduceMul,Nat.reduceLT,Nat.reduceLeDiff,Nat.reduceEqDiff,Nat.reduceBEq,Int.reduceToNat,Int.reduceNeg,if_true,if_false,reduceIte,stays,inL,same1,qn,ldN,convN,lenN,cond_true,cond_false,implies_true,Int.reduceEq,Int.reduceNe,Int.reduceLE,Int.reduceLT,forall_eq_or_imp,forall_eq,ne_eq,reduceCtorEq,notInt,numB,tabB,Array.reduceGetElem?,upG,up,nth,lay,rcB,rnm,rnmL,wrB,pcB,res61,pl61,Option.isNone,lhB,z1,hx,hy,liB]
      repeat (refine ⟨by omega, ?_⟩)
      exact drop H1 x _ hH1 (by unfold mayLs; rw [if_neg n1, if_pos c1])
    · have z1 : decide (((bs.length : Nat) : Int) > 512) = false := decide_eq_false (by omega)
      simp -implicitDefEqProofs (maxSteps := 1000000) (disch := omega) only [↓vcB,↓gd,↓opP,↓qv,↓ef,↓bslS,↓stS,↓mkS,↓rangeS,↓nextS,↓entryS,↓delS,↓mupS,↓appS,↓s2bS,↓resS,evB,Sx.look,slot,↓lkL,putS,putO,argsL,↓reduceIte,ofV,of1,lookH,putH,List.replicate,List.append,convS,fldA,nthT,idxA,idxS,fldS,oslN,bnd,slS,unS,valI,lenS,lookS,takeC,psB,asRow,csB,rdF,Ent.row,ldS,sz,szL,wrF,bldF,plT,bldS,srcS,nilS,nilEq,mapC,binH,binS2,structS,eqL,eqF,binS,arrS,isI,tupS,stor,storL,Value.oneCell',minS,maxS,capS,Nat.reduceAdd,Nat.reduceSub,Nat.reduceMul,Nat.reduceLT,Nat.reduceLeDiff,Nat.reduceEqDiff,Nat.reduceBEq,Int.reduceToNat,Int.reduceNeg,if_true,if_false,reduceIte,stays,inL,same1,qn,ldN,convN,lenN,cond_true,cond_false,implies_true,Int.reduceEq,Int.reduceNe,Int.reduceLE,Int.reduceLT,forall_eq_or_imp,forall_eq,ne_eq,reduceCtorEq,notInt,numB,tabB,Array.reduceGetElem?,upG,up,nth,lay,rcB,rnm,rnmL,wrB,pcB,res61,pl61,Option.isNone,lhB,z1,hx,hy,liB]
      repeat (refine ⟨by omega, ?_⟩)
      exact into_keep [(2, .ptr h.length 0), (3, .ptr (h.length + 1) 0), (4, .int .i64 0)] (by simp [sameT, slot, lkL]) fun j => ⟨H1, x, j, (hHH _ _).2 ⟨hH1, hx, hy⟩, hN2.2 c1, rfl⟩
  rintro _ ⟨H1, x, j2, hhh, hn2, rfl⟩
  obtain ⟨hH1, hx, hy⟩ := (hHH _ _).1 hhh
  have hE : Ext (fun _ => False) h H1 := by rw [hH1]; exact (Ext.refl _ _).app _
  have n2 := hN2.1 hn2
  obtain ⟨N3, hN3⟩ : ∃ N : Prop, N ↔ ¬ mayBs bs ≠ 0 := ⟨_, Iff.rfl⟩
  refine codeP_seq (pl := pl61) tabOk follows_mixed (by kernel_rfl) (fun st => ∃ (H1 x : List Chunk) (j : Nat → Value), HH H1 x ∧ N3 ∧ st = ⟨⟨125, [(2, .ptr h.length 0), (3, .ptr (h.length + 1) 0), (4, .int .i64 0)], j⟩, H1, []⟩) ?_ ?_
  · simp -implicitDefEqProofs (maxSteps := 1000000) (disch := omega) only [↓vcB,↓gd,↓opP,↓qv,↓ef,↓bslS,↓stS,↓mkS,↓rangeS,↓nextS,↓entryS,↓delS,↓mupS,↓appS,↓s2bS,↓resS,evB,Sx.look,slot,↓lkL,putS,putO,argsL,↓reduceIte,ofV,of1,lookH,putH,List.replicate,List.append,convS,fldA,nthT,idxA,idxS,fldS,oslN,bnd,slS,unS,valI,lenS,lookS,takeC,psB,asRow,csB,rdF,Ent.row,ldS,sz,szL,wrF,bldF,plT,bldS,srcS,nilS,nilEq,mapC,binH,binS2,structS,eqL,eqF,binS,arrS,isI,tupS,stor,storL,Value.oneCell',minS,maxS,capS,Nat.reduceAdd,Nat.reduceSub,Nat.reduceMul,Nat.reduceLT,Nat.reduceLeDiff,Nat.reduceEqDiff,Nat.reduceBEq,Int.reduceToNat,Int.reduceNeg,if_true,if_false,reduceIte,stays,inL,same1,qn,ldN,convN,lenN,cond_true,cond_false,implies_true,Int.reduceEq,Int.reduceNe,Int.reduceLE,Int.reduceLT,forall_eq_or_imp,forall_eq,ne_eq,reduceCtorEq,notInt,numB,tabB,Array.reduceGetElem?,upG,up,nth,lay,rcB,rnm,rnmL,wrB,pcB,res61,pl61,Option.isNone,lhB,hx,hy,liB]
    repeat (refine ⟨by omega, ?_⟩)
    refine codeP_loop (pl := pl61) tabOk follows_mixed (by kernel_rfl) (fun z st => ∃ (i : Nat) (j : Nat → Value), i + z = bs.length ∧ mayBs bs = mayBs (bs.drop i) ∧ st = ⟨⟨125, [(2, .ptr h.length 0), (3, .ptr (h.length + 1) 0), (4, .int .i64 0), (31, .osl kbs 0 0 1 bs.length), (32, .int .i64 (bs.length : Nat)), (33, .int .i64 (i : Nat))], j⟩, H1, []⟩) ?_ ?_
    · refine into_keep [(2, .ptr h.length 0), (3, .ptr (h.length + 1) 0), (4, .int .i64 0), (31, .osl kbs 0 0 1 bs.length), (32, .int .i64 (bs.length : Nat)), (33, .int .i64 (0 : Nat))] (by simp [sameT, slot, lkL]) fun j => ⟨bs.length, 0, j, by omega, rfl, rfl⟩
    · rintro z st ⟨i, j, hiz, hmi, rfl⟩
      have hkbs1 := hE.look hkbs (by simp) fun h => h
      by_cases hi : i < bs.length
      · have g1 : decide ((i : Int) < (bs.length : Nat)) = true := decide_eq_true (by omega)
        have a1 : IntKind.i64.wrap ((i : Int) + 1) = ((i + 1 : Nat) : Int) := by rw [wrap64 (by omega) (by omega)]; omega
        obtain ⟨ki, wi, hfi, hki⟩ := hfb i hi
        have hd := mayBs_drop bs hi
        simp -implicitDefEqProofs (maxSteps := 1000000) (disch := omega) only [↓vcB,↓gd,↓opP,↓qv,↓ef,↓bslS,↓stS,↓mkS,↓rangeS,↓nextS,↓entryS,↓delS,↓mupS,↓appS,↓s2bS,↓resS,evB,Sx.look,slot,↓lkL,putS,putO,argsL,↓reduceIte,ofV,of1,lookH,putH,List.replicate,List.append,convS,fldA,nthT,idxA,idxS,fldS,oslN,bnd,slS,unS,valI,lenS,lookS,takeC,psB,asRow,csB,rdF,Ent.row,ldS,sz,szL,wrF,bldF,plT,bldS,srcS,nilS,nilEq,mapC,binH,binS2,structS,eqL,eqF,binS,arrS,isI,tupS,stor,storL,Value.oneCell',minS,maxS,capS,Nat.reduceAdd,Nat.reduceSub,Nat.reduceMul,Nat.reduceLT,Nat.reduceLeDiff,Nat.reduceEqDiff,Nat.reduceBEq,Int.reduceToNat,Int.reduceNeg,if_true,if_false,reduceIte,stays,inL,same1,qn,ldN,convN,lenN,cond_true,cond_false,implies_true,Int.reduceEq,Int.reduceNe,Int.reduceLE,Int.reduceLT,forall_eq_or_imp,forall_eq,ne_eq,reduceCtorEq,notInt,numB,tabB,Array.reduceGetElem?,upG,up,nth,lay,rcB,rnm,rnmL,wrB,pcB,res61,pl61,Option.isNone,lhB,g1,hkbs1,hfi,liB]
        repeat (refine ⟨by omega, ?_⟩)
        refine c60 (bs.getD i []) _ H1 ⟨ki, wi, rfl, hE.look hki (by simp) fun h => h⟩ _ ?_
        by_cases e : mayB (bs.getD i []) = 0
        · have z2 : (mayB (bs.getD i []) != 0) = false := by rw [e]; rfl
          rw [if_pos e] at hd
          simp -implicitDefEqProofs (maxSteps := 1000000) (disch := omega) only [↓vcB,↓gd,↓opP,↓qv,↓ef,↓bslS,↓stS,↓mkS,↓rangeS,↓nextS,↓entryS,↓delS,↓mupS,↓appS,↓s2bS,↓resS,evB,Sx.look,slot,↓lkL,putS,putO,argsL,↓reduceIte,ofV,of1,lookH,putH,List.replicate,List.append,convS,fldA,nthT,idxA,idxS,fldS,oslN,bnd,slS,unS,valI,lenS,lookS,takeC,psB,asRow,csB,rdF,Ent.row,ldS,sz,szL,wrF,bldF,plT,bldS,srcS,nilS,nilEq,mapC,binH,binS2,structS,eqL,eqF,binS,arrS,isI,tupS,stor,storL,Value.oneCell',minS,maxS,capS,Nat.reduceAdd,Nat.reduceSub,Nat.reduceMul,Nat.reduceLT,Nat.reduceLeDiff,Nat.reduceEqDiff,Nat.reduceBEq,Int.reduceToNat,Int.reduceNeg,if_true,if_false,reduceIte,stays,inL,same1,qn,ldN,convN,lenN,cond_true,cond_false,implies_true,Int.reduceEq,Int.reduceNe,Int.reduceLE,Int.reduceLT,forall_eq_or_imp,forall_eq,ne_eq,reduceCtorEq,notInt,numB,tabB,Array.reduceGetElem?,upG,up,nth,lay,rcB,rnm,rnmL,wrB,pcB,res61,pl61,Option.isNone,lhB,z2,a1,liB]
          repeat (refine ⟨by omega, ?_⟩)
          refine into_keep [(2, .ptr h.length 0), (3, .ptr (h.length + 1) 0), (4, .int .i64 0), (31, .osl kbs 0 0 1 bs.length), (32, .int .i64 (bs.length : Nat)), (33, .int .i64 (i + 1 : Nat))] (by simp [sameT, slot, lkL]) fun j => ⟨z - 1, by omega, i + 1, j, by omega, hmi.trans hd, rfl⟩
        · have z2 : (mayB (bs.getD i []) != 0) = true := bne_iff_ne.2 e
          rw [if_neg e] at hd
          have hv : mayBs bs = mayB (bs.getD i []) := hmi.trans hd
          simp -implicitDefEqProofs (maxSteps := 1000000) (disch := omega) only [↓vcB,↓gd,↓opP,↓qv,↓ef,↓bslS,↓stS,↓mkS,↓rangeS,↓nextS,↓entryS,↓delS,↓mupS,↓appS,↓s2bS,↓resS,evB,Sx.look,slot,↓lkL,putS,putO,argsL,↓reduceIte,ofV,of1,lookH,putH,List.replicate,List.append,convS,fldA,nthT,idxA,idxS,fldS,oslN,bnd,slS,unS,valI,lenS,lookS,takeC,psB,asRow,csB,rdF,Ent.row,ldS,sz,szL,wrF,bldF,plT,bldS,srcS,nilS,nilEq,mapC,binH,binS2,structS,eqL,eqF,binS,arrS,isI,tupS,stor,storL,Value.oneCell',minS,maxS,capS,Nat.reduceAdd,Nat.reduceSub,Nat.reduceMul,Nat.reduceLT,Nat.reduceLeDiff,Nat.reduceEqDiff,Nat.reduceBEq,Int.reduceToNat,Int.reduceNeg,if_true,if_false,reduceIte,stays,inL,same1,qn,ldN,convN,lenN,cond_true,cond_false,implies_true,Int.reduceEq,Int.reduceNe,Int.reduceLE,Int.reduceLT,forall_eq_or_imp,forall_eq,ne_eq,reduceCtorEq,notInt,numB,tabB,Array.reduceGetElem?,upG,up,nth,lay,rcB,rnm,rnmL,wrB,pcB,res61,pl61,Option.isNone,lhB,z2,a1,liB]
          repeat (refine ⟨by omega, ?_⟩)
          exact drop H1 x _ hH1 (by unfold mayLs; rw [if_neg n1, if_neg n2, if_pos (by rw [hv]; exact e), hv])
      · have g1 : decide ((i : Int) < (bs.length : Nat)) = false := decide_eq_false (by omega)
        have hd : bs.drop i = [] := List.drop_of_length_le (by omega)
        rw [hd] at hmi
        simp -implicitDefEqProofs (maxSteps := 1000000) (disch := omega) only [↓vcB,↓gd,↓opP,↓qv,↓ef,↓bslS,↓stS,↓mkS,↓rangeS,↓nextS,↓entryS,↓delS,↓mupS,↓appS,↓s2bS,↓resS,evB,Sx.look,slot,↓lkL,putS,putO,argsL,↓reduceIte,ofV,of1,lookH,putH,List.replicate,List.append,convS,fldA,nthT,idxA,idxS,fldS,oslN,bnd,slS,unS,valI,lenS,lookS,takeC,psB,asRow,csB,rdF,Ent.row,ldS,sz,szL,wrF,bldF,plT,bldS,srcS,nilS,nilEq,mapC,binH,binS2,structS,eqL,eqF,binS,arrS,isI,tupS,stor,storL,Value.oneCell',minS,maxS,capS,Nat.reduceAdd,Nat.reduceSub,Nat.reduceMul,Nat.reduceLT,Nat.reduceLeDiff,Nat.reduceEqDiff,Nat.reduceBEq,Int.reduceToNat,Int.reduceNeg,if_true,if_false,reduceIte,stays,inL,same1,qn,ldN,convN,lenN,cond_true,cond_false,implies_true,Int.reduceEq,Int.reduceNe,Int.reduceLE,Int.reduceLT,forall_eq_or_imp,forall_eq,ne_eq,reduceCtorEq,notInt,numB,tabB,Array.reduceGetElem?,upG,up,nth,lay,rcB,rnm,rnmL,wrB,pcB,res61,pl61,Option.isNone,lhB,g1,liB]
        repeat (refine ⟨by omega, ?_⟩)
        exact into_keep [(2, .ptr h.length 0), (3, .ptr (h.length + 1) 0), (4, .int .i64 0)] (by simp [sameT, slot, lkL]) fun j => ⟨H1, x, j, (hHH _ _).2 ⟨hH1, hx, hy⟩, hN3.2 (fun h => h hmi), rfl⟩
  rintro _ ⟨H1, x, j3, hhh, hn3, rfl⟩
  obtain ⟨hH1, hx, hy⟩ := (hHH _ _).1 hhh
  have hE : Ext (fun _ => False) h H1 := by rw [hH1]; exact (Ext.refl _ _).app _
  have n3 := hN3.1 hn3
  obtain ⟨N4, hN4⟩ : ∃ N : Prop, N ↔ ¬ (hProof k = false ∧ 0 < p.length) := ⟨_, Iff.rfl⟩
  refine codeP_seq (pl := pl61) tabOk follows_mixed (by kernel_rfl) (fun st => ∃ (H1 x : List Chunk) (j : Nat → Value), HH H1 x ∧ N4 ∧ st = ⟨⟨125, [(2, .ptr h.length 0), (3, .ptr (h.length + 1) 0), (4, .int .i64 0)], j⟩, H1, []⟩) ?_ ?_
  · by_cases c1 : hProof k = false ∧ 0 < p.length
    · have z1 : decide (((p.length : Nat) : Int) > 0) = true := decide_eq_true (by omega)
      have z2 := c1.1
      simp -implicitDefEqProofs (maxSteps := 1000000) (disch := omega) only [↓vcB,↓gd,↓opP,↓qv,↓ef,↓bslS,↓stS,↓mkS,↓rangeS,↓nextS,↓entryS,↓delS,↓mupS,↓appS,↓s2bS,↓resS,evB,Sx.look,slot,↓lkL,putS,putO,argsL,↓reduceIte,ofV,of1,lookH,putH,List.replicate,List.append,convS,fldA,nthT,idxA,idxS,fldS,oslN,bnd,slS,unS,valI,lenS,lookS,takeC,psB,asRow,csB,rdF,Ent.row,ldS,sz,szL,wrF,bldF,plT,bldS,srcS,nilS,nilEq,mapC,binH,binS2,structS,eqL,eqF,binS,arrS,isI,tupS,stor,storL,Value.oneCell',minS,maxS,capS,Nat.reduceAdd,Nat.reduceSub,Nat.reduceMul,Nat.reduceLT,Nat.reduceLeDiff,Nat.reduceEqDiff,Nat.reduceBEq,Int.reduceToNat,Int.reduceNeg,if_true,if_false,reduceIte,stays,inL,same1,qn,ldN,convN,lenN,cond_true,cond_false,implies_true,Int.reduceEq,Int.reduceNe,Int.reduceLE,Int.reduceLT,forall_eq_or_imp,forall_eq,ne_eq,reduceCtorEq,notInt,numB,tabB,Array.reduceGetElem?,upG,up,nth,lay,rcB,rnm,rnmL,wrB,pcB,res61,pl61,Option.isNone,lhB,z1,z2,hx,hy,liB]
      repeat (refine ⟨by omega, ?_⟩)
      exact drop H1 x _ hH1 (by unfold mayLs; rw [if_neg n1, if_neg n2, if_neg n3, if_pos c1])
    · have hc : ∀ {P : Prop}, (hProof k = true → P) → (hProof k = false → decide (((p.length : Nat) : Int) > 0) = false → P) → P := fun a c => by
        cases z : hProof k with
        | true => exact a z
        | false => exact c z (decide_eq_false (fun h => c1 ⟨z, by omega⟩))
      refine hc (fun z1 => ?_) fun z1 z3 => ?_
      · simp -implicitDefEqProofs (maxSteps := 1000000) (disch := omega) only [↓vcB,↓gd,↓opP,↓qv,↓ef,↓bslS,↓stS,↓mkS,↓rangeS,↓nextS,↓entryS,↓delS,↓mupS,↓appS,↓s2bS,↓resS,evB,Sx.look,slot,↓lkL,putS,putO,argsL,↓reduceIte,ofV,of1,lookH,putH,List.replicate,List.append,convS,fldA,nthT,idxA,idxS,fldS,oslN,bnd,slS,unS,valI,lenS,lookS,takeC,psB,asRow,csB,rdF,Ent.row,ldS,sz,szL,wrF,bldF,plT,bldS,srcS,nilS,nilEq,mapC,binH,binS2,structS,eqL,eqF,binS,arrS,isI,tupS,stor,storL,Value.oneCell',minS,maxS,capS,Nat.reduceAdd,Nat.reduceSub,Nat.reduceMul,Nat.reduceLT,Nat.reduceLeDiff,Nat.reduceEqDiff,Nat.reduceBEq,Int.reduceToNat,Int.reduceNeg,if_true,if_false,reduceIte,stays,inL,same1,qn,ldN,convN,lenN,cond_true,cond_false,implies_true,Int.reduceEq,Int.reduceNe,Int.reduceLE,Int.reduceLT,forall_eq_or_imp,forall_eq,ne_eq,reduceCtorEq,notInt,numB,tabB,Array.reduceGetElem?,upG,up,nth,lay,rcB,rnm,rnmL,wrB,pcB,res61,pl61,Option.isNone,lhB,z1,hx,hy,liB]
        repeat (refine ⟨by omega, ?_⟩)
        exact into_keep [(2, .ptr h.length 0), (3, .ptr (h.length + 1) 0), (4, .int .i64 0)] (by simp [sameT, slot, lkL]) fun j => ⟨H1, x, j, (hHH _ _).2 ⟨hH1, hx, hy⟩, hN4.2 c1, rfl⟩
      · simp -implicitDefEqProofs (maxSteps := 1000000) (disch := omega) only [↓vcB,↓gd,↓opP,↓qv,↓ef,↓bslS,↓stS,↓mkS,↓rangeS,↓nextS,↓entryS,↓delS,↓mupS,↓appS,↓s2bS,↓resS,evB,Sx.look,slot,↓lkL,putS,putO,argsL,↓reduceIte,ofV,of1,lookH,putH,List.replicate,List.append,convS,fldA,nthT,idxA,idxS,fldS,oslN,bnd,slS,unS,valI,lenS,lookS,takeC,psB,asRow,csB,rdF,Ent.row,ldS,sz,szL,wrF,bldF,plT,bldS,srcS,nilS,nilEq,mapC,binH,binS2,structS,eqL,eqF,binS,arrS,isI,tupS,stor,storL,Value.oneCell',minS,maxS,capS,Nat.reduceAdd,Nat.reduceSub,Nat.reduceMul,Nat.reduceLT,Nat.reduceLeDiff,Nat.reduceEqDiff,Nat.reduceBEq,Int.reduceToNat,Int.reduceNeg,if_true,if_false,reduceIte,stays,inL,same1,qn,ldN,convN,lenN,cond_true,cond_false,implies_true,Int.reduceEq,Int.reduceNe,Int.reduceLE,Int.reduceLT,forall_eq_or_imp,forall_eq,ne_eq,reduceCtorEq,notInt,numB,tabB,Array.reduceGetElem?,upG,up,nth,lay,rcB,rnm,rnmL,wrB,pcB,res61,pl61,Option.isNone,lhB,z1,z3,hx,hy,liB]
        repeat (refine ⟨by omega, ?_⟩)
        exact into_keep [(2, .ptr h.length 0), (3, .ptr (h.length + 1) 0), (4, .int .i64 0)] (by simp [sameT, slot, lkL]) fun j => ⟨H1, x, j, (hHH _ _).2 ⟨hH1, hx, hy⟩, hN4.2 c1, rfl⟩
  rintro _ ⟨H1, x, j4, hhh, hn4, rfl⟩
  obtain ⟨hH1, hx, hy⟩ := (hHH _ _).1 hhh
  have hE : Ext (fun _ => False) h H1 := by rw [hH1]; exact (Ext.refl _ _).app _
  have n4 := hN4.1 hn4
  obtain ⟨N5, hN5⟩ : ∃ N : Prop, N ↔ ¬ p.length > 64 := ⟨_, Iff.rfl⟩
  refine codeP_seq (pl := pl61) tabOk follows_mixed (by kernel_rfl) (fun st => ∃ (H1 x : List Chunk) (j : Nat → Value), HH H1 x ∧ N5 ∧ st = ⟨⟨125, [(2, .ptr h.length 0), (3, .ptr (h.length + 1) 0), (4, .int .i64 0)], j⟩, H1, []⟩) ?_ ?_
  · by_cases c1 : p.length > 64
    · have z1 : decide (((p.length : Nat) : Int) > 64) = true := decide_eq_true (by omega)
      simp -implicitDefEqProofs (maxSteps := 1000000) (disch := omega) only [↓vcB,↓gd,↓opP,↓qv,↓ef,↓bslS,↓stS,↓mkS,↓rangeS,↓nextS,↓entryS,↓delS,↓mupS,↓appS,↓s2bS,↓resS,evB,Sx.look,slot,↓lkL,putS,putO,argsL,↓reduceIte,ofV,of1,lookH,putH,List.replicate,List.append,convS,fldA,nthT,idxA,idxS,fldS,oslN,bnd,slS,unS,valI,lenS,lookS,takeC,psB,asRow,csB,rdF,Ent.row,ldS,sz,szL,wrF,bldF,plT,bldS,srcS,nilS,nilEq,mapC,binH,binS2,structS,eqL,eqF,binS,arrS,isI,tupS,stor,storL,Value.oneCell',minS,maxS,capS,Nat.reduceAdd,Nat.reduceSub,Nat.reduceMul,Nat.reduceLT,Nat.reduceLeDiff,Nat.reduceEqDiff,Nat.reduceBEq,Int.reduceToNat,Int.reduceNeg,if_true,if_false,reduceIte,stays,inL,same1,qn,ldN,convN,lenN,cond_true,cond_false,implies_true,Int.reduceEq,Int.reduceNe,Int.reduceLE,Int.reduceLT,forall_eq_or_imp,forall_eq,ne_eq,reduceCtorEq,notInt,numB,tabB,Array.reduceGetElem?,upG,up,nth,lay,rcB,rnm,rnmL,wrB,pcB,res61,pl61,Option.isNone,lhB,z1,hx,hy,liB]
      repeat (refine ⟨by omega, ?_⟩)
      exact drop H1 x _ hH1 (by unfold mayLs; rw [if_neg n1, if_neg n2, if_neg n3, if_neg n4, if_pos c1])
    · have z1 : decide (((p.length : Nat) : Int) > 64) = false := decide_eq_false (by omega)
      simp -implicitDefEqProofs (maxSteps := 1000000) (disch := omega) only [↓vcB,↓gd,↓opP,↓qv,↓ef,↓bslS,↓stS,↓mkS,↓rangeS,↓nextS,↓entryS,↓delS,↓mupS,↓appS,↓s2bS,↓resS,evB,Sx.look,slot,↓lkL,putS,putO,argsL,↓reduceIte,ofV,of1,lookH,putH,List.replicate,List.append,convS,fldA,nthT,idxA,idxS,fldS,oslN,bnd,slS,unS,valI,lenS,lookS,takeC,psB,asRow,csB,rdF,Ent.row,ldS,sz,szL,wrF,bldF,plT,bldS,srcS,nilS,nilEq,mapC,binH,binS2,structS,eqL,eqF,binS,arrS,isI,tupS,stor,storL,Value.oneCell',minS,maxS,capS,Nat.reduceAdd,Nat.reduceSub,Nat.reduceMul,Nat.reduceLT,Nat.reduceLeDiff,Nat.reduceEqDiff,Nat.reduceBEq,Int.reduceToNat,Int.reduceNeg,if_true,if_false,reduceIte,stays,inL,same1,qn,ldN,convN,lenN,cond_true,cond_false,implies_true,Int.reduceEq,Int.reduceNe,Int.reduceLE,Int.reduceLT,forall_eq_or_imp,forall_eq,ne_eq,reduceCtorEq,notInt,numB,tabB,Array.reduceGetElem?,upG,up,nth,lay,rcB,rnm,rnmL,wrB,pcB,res61,pl61,Option.isNone,lhB,z1,hx,hy,liB]
      repeat (refine ⟨by omega, ?_⟩)
      exact into_keep [(2, .ptr h.length 0), (3, .ptr (h.length + 1) 0), (4, .int .i64 0)] (by simp [sameT, slot, lkL]) fun j => ⟨H1, x, j, (hHH _ _).2 ⟨hH1, hx, hy⟩, hN5.2 c1, rfl⟩
  rintro _ ⟨H1, x, j5, hhh, hn5, rfl⟩
  obtain ⟨hH1, hx, hy⟩ := (hHH _ _).1 hhh
  have hE : Ext (fun _ => False) h H1 := by rw [hH1]; exact (Ext.refl _ _).app _
  have n5 := hN5.1 hn5
  obtain ⟨N6, hN6⟩ : ∃ N : Prop, N ↔ ¬ mayL (kProof k) p ≠ 0 := ⟨_, Iff.rfl⟩
  refine codeP_seq (pl := pl61) tabOk follows_mixed (by kernel_rfl) (fun st => ∃ (H1 x : List Chunk) (j : Nat → Value), HH H1 x ∧ N6 ∧ st = ⟨⟨125, [(2, .ptr h.length 0), (3, .ptr (h.length + 1) 0), (4, .int .i64 0)], j⟩, H1, []⟩) ?_ ?_
  · simp -implicitDefEqProofs (maxSteps := 1000000) (disch := omega) only [↓vcB,↓gd,↓opP,↓qv,↓ef,↓bslS,↓stS,↓mkS,↓rangeS,↓nextS,↓entryS,↓delS,↓mupS,↓appS,↓s2bS,↓resS,evB,Sx.look,slot,↓lkL,putS,putO,argsL,↓reduceIte,ofV,of1,lookH,putH,List.replicate,List.append,convS,fldA,nthT,idxA,idxS,fldS,oslN,bnd,slS,unS,valI,lenS,lookS,takeC,psB,asRow,csB,rdF,Ent.row,ldS,sz,szL,wrF,bldF,plT,bldS,srcS,nilS,nilEq,mapC,binH,binS2,structS,eqL,eqF,binS,arrS,isI,tupS,stor,storL,Value.oneCell',minS,maxS,capS,Nat.reduceAdd,Nat.reduceSub,Nat.reduceMul,Nat.reduceLT,Nat.reduceLeDiff,Nat.reduceEqDiff,Nat.reduceBEq,Int.reduceToNat,Int.reduceNeg,if_true,if_false,reduceIte,stays,inL,same1,qn,ldN,convN,lenN,cond_true,cond_false,implies_true,Int.reduceEq,Int.reduceNe,Int.reduceLE,Int.reduceLT,forall_eq_or_imp,forall_eq,ne_eq,reduceCtorEq,notInt,numB,tabB,Array.reduceGetElem?,upG,up,nth,lay,rcB,rnm,rnmL,wrB,pcB,res61,pl61,Option.isNone,lhB,hx,hy,liB]
    repeat (refine ⟨by omega, ?_⟩)
    refine codeP_loop (pl := pl61) tabOk follows_mixed (by kernel_rfl) (fun z st => ∃ (i : Nat) (H1 x : List Chunk) (j : Nat → Value), i + z = p.length ∧ HH H1 x ∧ mayL (kProof k) p = mayL (kProof k) (p.drop i) ∧ st = ⟨⟨125, [(2, .ptr h.length 0), (3, .ptr (h.length + 1) 0), (4, .int .i64 0), (57, .osl kp 0 0 73 p.length), (58, .int .i64 (p.length : Nat)), (59, .int .i64 (i : Nat))], j⟩, H1, []⟩) ?_ ?_
    · refine into_keep [(2, .ptr h.length 0), (3, .ptr (h.length + 1) 0), (4, .int .i64 0), (57, .osl kp 0 0 73 p.length), (58, .int .i64 (p.length : Nat)), (59, .int .i64 (0 : Nat))] (by simp [sameT, slot, lkL]) fun j => ⟨p.length, 0, H1, x, j, by omega, hhh, rfl, rfl⟩
    · clear hE hx hy hH1 hhh x
      rintro z st ⟨i, H1, x, j, hiz, hhh, hmi, rfl⟩
      obtain ⟨hH1, hx, hy⟩ := (hHH _ _).1 hhh
      have hE : Ext (fun _ => False) h H1 := by rw [hH1]; exact (Ext.refl _ _).app _
      have hrow1 := hE.look h3 (by simp) fun h => h
      have hl1 : h.length + 1 < H1.length := lookH_lt hy (by simp)
      by_cases hi : i < p.length
      · have g1 : decide ((i : Int) < (p.length : Nat)) = true := decide_eq_true (by omega)
        have a1 : IntKind.i64.wrap ((i : Int) + 1) = ((i + 1 : Nat) : Int) := by rw [wrap64 (by omega) (by omega)]; omega
        have hd := mayL_dropK (kProof k) p hi
        have hM := h4.get hi
        have hIH := IP p[i] (List.getElem_mem hi)
        obtain ⟨mi, hmi2⟩ : ∃ mi, p[i] = mi := ⟨_, rfl⟩
        rw [hmi2] at hd hM hIH
        have hM0 := hM
        obtain ⟨k', f', v', s', d', b', bs', p', q', key', of'⟩ := mi
        rw [MsgH] at hM
        obtain ⟨sb, sbs, kp', wp', fp', kq', wq', fq', hfi, h1, h2, _, _, _, _⟩ := hM
        obtain ⟨kb', wb', rfl, _⟩ := h1
        obtain ⟨kbs', wbs', fb', rfl, _, _⟩ := h2
        unfold dig32 at hfi
        rw [hfi] at hM0
        obtain ⟨m, hm⟩ : ∃ m, m = Msg.mk k' f' v' s' d' b' bs' p' q' key' of' := ⟨_, rfl⟩
        rw [← hm] at hM0 hIH hd
        simp -implicitDefEqProofs (maxSteps := 1000000) (disch := omega) only [↓vcB,↓gd,↓opP,↓qv,↓ef,↓bslS,↓stS,↓mkS,↓rangeS,↓nextS,↓entryS,↓delS,↓mupS,↓appS,↓s2bS,↓resS,evB,Sx.look,slot,↓lkL,putS,putO,argsL,↓reduceIte,ofV,of1,lookH,putH,List.replicate,List.append,convS,fldA,nthT,idxA,idxS,fldS,oslN,bnd,slS,unS,valI,lenS,lookS,takeC,psB,asRow,csB,rdF,Ent.row,ldS,sz,szL,wrF,bldF,plT,bldS,srcS,nilS,nilEq,mapC,binH,binS2,structS,eqL,eqF,binS,arrS,isI,tupS,stor,storL,Value.oneCell',minS,maxS,capS,Nat.reduceAdd,Nat.reduceSub,Nat.reduceMul,Nat.reduceLT,Nat.reduceLeDiff,Nat.reduceEqDiff,Nat.reduceBEq,Int.reduceToNat,Int.reduceNeg,if_true,if_false,reduceIte,stays,inL,same1,qn,ldN,convN,lenN,cond_true,cond_false,implies_true,Int.reduceEq,Int.reduceNe,Int.reduceLE,Int.reduceLT,forall_eq_or_imp,forall_eq,ne_eq,reduceCtorEq,notInt,numB,tabB,Array.reduceGetElem?,upG,up,nth,lay,rcB,rnm,rnmL,wrB,pcB,res61,pl61,Option.isNone,lhB,g1,hrow1,hfi,hx,lookH_at,liB]
        repeat (refine ⟨by omega, ?_⟩)
        refine c105 k _ _ ?_
        simp -implicitDefEqProofs (maxSteps := 1000000) (disch := omega) only [↓vcB,↓gd,↓opP,↓qv,↓ef,↓bslS,↓stS,↓mkS,↓rangeS,↓nextS,↓entryS,↓delS,↓mupS,↓appS,↓s2bS,↓resS,evB,Sx.look,slot,↓lkL,putS,putO,argsL,↓reduceIte,ofV,of1,lookH,putH,List.replicate,List.append,convS,fldA,nthT,idxA,idxS,fldS,oslN,bnd,slS,unS,valI,lenS,lookS,takeC,psB,asRow,csB,rdF,Ent.row,ldS,sz,szL,wrF,bldF,plT,bldS,srcS,nilS,nilEq,mapC,binH,binS2,structS,eqL,eqF,binS,arrS,isI,tupS,stor,storL,Value.oneCell',minS,maxS,capS,Nat.reduceAdd,Nat.reduceSub,Nat.reduceMul,Nat.reduceLT,Nat.reduceLeDiff,Nat.reduceEqDiff,Nat.reduceBEq,Int.reduceToNat,Int.reduceNeg,if_true,if_false,reduceIte,stays,inL,same1,qn,ldN,convN,lenN,cond_true,cond_false,implies_true,Int.reduceEq,Int.reduceNe,Int.reduceLE,Int.reduceLT,forall_eq_or_imp,forall_eq,ne_eq,reduceCtorEq,notInt,numB,tabB,Array.reduceGetElem?,upG,up,nth,lay,rcB,rnm,rnmL,wrB,pcB,res61,pl61,Option.isNone,lhB,liB]
        repeat (refine ⟨by omega, ?_⟩)
        obtain ⟨c1, hc1⟩ : ∃ c1, c1 = Chunk.cells true [.int .i64 k', .int .i64 f', .int .i64 v', .int .i64 s', .fam 32 1 fun i => .int .u8 (nat (d' i)), .osl kb' 0 0 1 b'.length, .osl kbs' 0 0 1 bs'.length, .osl kp' 0 0 73 p'.length, .osl kq' 0 0 74 q'.length, .int .i64 key', .fam 32 1 fun i => .int .u8 (nat (of' i))] := ⟨_, rfl⟩
        rw [← hc1]
        have hE2 : Ext (fun _ => False) H1 (H1 ++ [c1]) := (Ext.refl _ _).app _
        refine c104 (kProof k) m hIH _ _ ((hM0.ext hE).ext hE2) _ ?_
        have hhh2 : HH (H1 ++ [c1]) (x ++ [c1]) := (hHH _ _).2 ⟨by rw [hH1, List.append_assoc], hE2.look hx (by simp) fun h => h, hE2.look hy (by simp) fun h => h⟩
        by_cases e : mayK (kProof k) m = 0
        · have z2 : (mayK (kProof k) m != 0) = false := by rw [e]; rfl
          rw [if_neg (fun h => h e)] at hd
          simp -implicitDefEqProofs (maxSteps := 1000000) (disch := omega) only [↓vcB,↓gd,↓opP,↓qv,↓ef,↓bslS,↓stS,↓mkS,↓rangeS,↓nextS,↓entryS,↓delS,↓mupS,↓appS,↓s2bS,↓resS,evB,Sx.look,slot,↓lkL,putS,putO,argsL,↓reduceIte,ofV,of1,lookH,putH,List.replicate,List.append,convS,fldA,nthT,idxA,idxS,fldS,oslN,bnd,slS,unS,valI,lenS,lookS,takeC,psB,asRow,csB,rdF,Ent.row,ldS,sz,szL,wrF,bldF,plT,bldS,srcS,nilS,nilEq,mapC,binH,binS2,structS,eqL,eqF,binS,arrS,isI,tupS,stor,storL,Value.oneCell',minS,maxS,capS,Nat.reduceAdd,Nat.reduceSub,Nat.reduceMul,Nat.reduceLT,Nat.reduceLeDiff,Nat.reduceEqDiff,Nat.reduceBEq,Int.reduceToNat,Int.reduceNeg,if_true,if_false,reduceIte,stays,inL,same1,qn,ldN,convN,lenN,cond_true,cond_false,implies_true,Int.reduceEq,Int.reduceNe,Int.reduceLE,Int.reduceLT,forall_eq_or_imp,forall_eq,ne_eq,reduceCtorEq,notInt,numB,tabB,Array.reduceGetElem?,upG,up,nth,lay,rcB,rnm,rnmL,wrB,pcB,res61,pl61,Option.isNone,lhB,z2,a1,liB]
          repeat (refine ⟨by omega, ?_⟩)
          exact into_keep [(2, .ptr h.length 0), (3, .ptr (h.length + 1) 0), (4, .int .i64 0), (57, .osl kp 0 0 73 p.length), (58, .int .i64 (p.length : Nat)), (59, .int .i64 (i + 1 : Nat))] (by simp [sameT, slot, lkL]) fun j => ⟨z - 1, by omega, i + 1, _, _, j, by omega, hhh2, hmi.trans hd, rfl⟩
        · have z2 : (mayK (kProof k) m != 0) = true := bne_iff_ne.2 e
          rw [if_pos e] at hd
          have hv := hmi.trans hd
          simp -implicitDefEqProofs (maxSteps := 1000000) (disch := omega) only [↓vcB,↓gd,↓opP,↓qv,↓ef,↓bslS,↓stS,↓mkS,↓rangeS,↓nextS,↓entryS,↓delS,↓mupS,↓appS,↓s2bS,↓resS,evB,Sx.look,slot,↓lkL,putS,putO,argsL,↓reduceIte,ofV,of1,lookH,putH,List.replicate,List.append,convS,fldA,nthT,idxA,idxS,fldS,oslN,bnd,slS,unS,valI,lenS,lookS,takeC,psB,asRow,csB,rdF,Ent.row,ldS,sz,szL,wrF,bldF,plT,bldS,srcS,nilS,nilEq,mapC,binH,binS2,structS,eqL,eqF,binS,arrS,isI,tupS,stor,storL,Value.oneCell',minS,maxS,capS,Nat.reduceAdd,Nat.reduceSub,Nat.reduceMul,Nat.reduceLT,Nat.reduceLeDiff,Nat.reduceEqDiff,Nat.reduceBEq,Int.reduceToNat,Int.reduceNeg,if_true,if_false,reduceIte,stays,inL,same1,qn,ldN,convN,lenN,cond_true,cond_false,implies_true,Int.reduceEq,Int.reduceNe,Int.reduceLE,Int.reduceLT,forall_eq_or_imp,forall_eq,ne_eq,reduceCtorEq,notInt,numB,tabB,Array.reduceGetElem?,upG,up,nth,lay,rcB,rnm,rnmL,wrB,pcB,res61,pl61,Option.isNone,lhB,z2,liB]
          repeat (refine ⟨by omega, ?_⟩)
          exact drop _ _ _ ((hHH _ _).1 hhh2).1 (by unfold mayLs; rw [if_neg n1, if_neg n2, if_neg n3, if_neg n4, if_neg n5, if_pos (by rw [hv]; exact e), hv])
      · have g1 : decide ((i : Int) < (p.length : Nat)) = false := decide_eq_false (by omega)
        have hd : p.drop i = [] := List.drop_of_length_le (by omega)
        rw [hd] at hmi
        simp -implicitDefEqProofs (maxSteps := 1000000) (disch := omega) only [↓vcB,↓gd,↓opP,↓qv,↓ef,↓bslS,↓stS,↓mkS,↓rangeS,↓nextS,↓entryS,↓delS,↓mupS,↓appS,↓s2bS,↓resS,evB,Sx.look,slot,↓lkL,putS,putO,argsL,↓reduceIte,ofV,of1,lookH,putH,List.replicate,List.append,convS,fldA,nthT,idxA,idxS,fldS,oslN,bnd,slS,unS,valI,lenS,lookS,takeC,psB,asRow,csB,rdF,Ent.row,ldS,sz,szL,wrF,bldF,plT,bldS,srcS,nilS,nilEq,mapC,binH,binS2,structS,eqL,eqF,binS,arrS,isI,tupS,stor,storL,Value.oneCell',minS,maxS,capS,Nat.reduceAdd,Nat.reduceSub,Nat.reduceMul,Nat.reduceLT,Nat.reduceLeDiff,Nat.reduceEqDiff,Nat.reduceBEq,Int.reduceToNat,Int.reduceNeg,if_true,if_false,reduceIte,stays,inL,same1,qn,ldN,convN,lenN,cond_true,cond_false,implies_true,Int.reduceEq,Int.reduceNe,Int.reduceLE,Int.reduceLT,forall_eq_or_imp,forall_eq,ne_eq,reduceCtorEq,notInt,numB,tabB,Array.reduceGetElem?,upG,up,nth,lay,rcB,rnm,rnmL,wrB,pcB,res61,pl61,Option.isNone,lhB,g1,liB]
        repeat (refine ⟨by omega, ?_⟩)
        exact into_keep [(2, .ptr h.length 0), (3, .ptr (h.length + 1) 0), (4, .int .i64 0)] (by simp [sameT, slot, lkL]) fun j => ⟨H1, x, j, (hHH _ _).2 ⟨hH1, hx, hy⟩, hN6.2 (fun h => h (hmi.trans (by rw [mayL]))), rfl⟩
  rintro _ ⟨H1, x, j6, hhh, hn6, rfl⟩
  obtain ⟨hH1, hx, hy⟩ := (hHH _ _).1 hhh
  have hE : Ext (fun _ => False) h H1 := by rw [hH1]; exact (Ext.refl _ _).app _
  have n6 := hN6.1 hn6
  obtain ⟨N7, hN7⟩ : ∃ N : Prop, N ↔ ¬ (hPrep k = false ∧ 0 < q.length) := ⟨_, Iff.rfl⟩
  refine codeP_seq (pl := pl61) tabOk follows_mixed (by kernel_rfl) (fun st => ∃ (H1 x : List Chunk) (j : Nat → Value), HH H1 x ∧ N7 ∧ st = ⟨⟨125, [(2, .ptr h.length 0), (3, .ptr (h.length + 1) 0), (4, .int .i64 0)], j⟩, H1, []⟩) ?_ ?_
  · by_cases c1 : hPrep k = false ∧ 0 < q.length
    · have z1 : decide (((q.length : Nat) : Int) > 0) = true := decide_eq_true (by omega)
      have z2 := c1.1
      simp -implicitDefEqProofs (maxSteps := 1000000) (disch := omega) only [↓vcB,↓gd,↓opP,↓qv,↓ef,↓bslS,↓stS,↓mkS,↓rangeS,↓nextS,↓entryS,↓delS,↓mupS,↓appS,↓s2bS,↓resS,evB,Sx.look,slot,↓lkL,putS,putO,argsL,↓reduceIte,ofV,of1,lookH,putH,List.replicate,List.append,convS,fldA,nthT,idxA,idxS,fldS,oslN,bnd,slS,unS,valI,lenS,lookS,takeC,psB,asRow,csB,rdF,Ent.row,ldS,sz,szL,wrF,bldF,plT,bldS,srcS,nilS,nilEq,mapC,binH,binS2,structS,eqL,eqF,binS,arrS,isI,tupS,stor,storL,Value.oneCell',minS,maxS,capS,Nat.reduceAdd,Nat.reduceSub,Nat.reduceMul,Nat.reduceLT,Nat.reduceLeDiff,Nat.reduceEqDiff,Nat.reduceBEq,Int.reduceToNat,Int.reduceNeg,if_true,if_false,reduceIte,stays,inL,same1,qn,ldN,convN,lenN,cond_true,cond_false,implies_true,Int.reduceEq,Int.reduceNe,Int.reduceLE,Int.reduceLT,forall_eq_or_imp,forall_eq,ne_eq,reduceCtorEq,notInt,numB,tabB,Array.reduceGetElem?,upG,up,nth,lay,rcB,rnm,rnmL,wrB,pcB,res61,pl61,Option.isNone,lhB,z1,z2,hx,hy,liB]
      repeat (refine ⟨by omega, ?_⟩)
      exact drop H1 x _ hH1 (by unfold mayLs; rw [if_neg n1, if_neg n2, if_neg n3, if_neg n4, if_neg n5, if_neg n6, if_pos c1])
    · have hc : ∀ {P : Prop}, (hPrep k = true → P) → (hPrep k = false → decide (((q.length : Nat) : Int) > 0) = false → P) → P := fun a c => by
        cases z : hPrep k with
        | true => exact a z
        | false => exact c z (decide_eq_false (fun h => c1 ⟨z, by omega⟩))
      refine hc (fun z1 => ?_) fun z1 z3 => ?_
      · simp -implicitDefEqProofs (maxSteps := 1000000) (disch := omega) only [↓vcB,↓gd,↓opP,↓qv,↓ef,↓bslS,↓stS,↓mkS,↓rangeS,↓nextS,↓entryS,↓delS,↓mupS,↓appS,↓s2bS,↓resS,evB,Sx.look,slot,↓lkL,putS,putO,argsL,↓reduceIte,ofV,of1,lookH,putH,List.replicate,List.append,convS,fldA,nthT,idxA,idxS,fldS,oslN,bnd,slS,unS,valI,lenS,lookS,takeC,psB,asRow,csB,rdF,Ent.row,ldS,sz,szL,wrF,bldF,plT,bldS,srcS,nilS,nilEq,mapC,binH,binS2,structS,eqL,eqF,binS,arrS,isI,tupS,stor,storL,Value.oneCell',minS,maxS,capS,Nat.reduceAdd,Nat.reduceSub,Nat.reduceMul,Nat.reduceLT,Nat.reduceLeDiff,Nat.reduceEqDiff,Nat.reduceBEq,Int.reduceToNat,Int.reduceNeg,if_true,if_false,reduceIte,stays,inL,same1,qn,ldN,convN,lenN,cond_true,cond_false,implies_true,Int.reduceEq,Int.reduceNe,Int.reduceLE,Int.reduceLT,forall_eq_or_imp,forall_eq,ne_eq,reduceCtorEq,notInt,numB,tabB,Array.reduceGetElem?,upG,up,nth,lay,rcB,rnm,rnmL,wrB,pcB,res61,pl61,Option.isNone,lhB,z1,hx,hy,liB]
        repeat (refine ⟨by omega, ?_⟩)
        exact into_keep [(2, .ptr h.length 0), (3, .ptr (h.length + 1) 0), (4, .int .i64 0)] (by simp [sameT, slot, lkL]) fun j => ⟨H1, x, j, (hHH _ _).2 ⟨hH1, hx, hy⟩, hN7.2 c1, rfl⟩
      · simp -implicitDefEqProofs (maxSteps := 1000000) (disch := omega) only [↓vcB,↓gd,↓opP,↓qv,↓ef,↓bslS,↓stS,↓mkS,↓rangeS,↓nextS,↓entryS,↓delS,↓mupS,↓appS,↓s2bS,↓resS,evB,Sx.look,slot,↓lkL,putS,putO,argsL,↓reduceIte,ofV,of1,lookH,putH,List.replicate,List.append,convS,fldA,nthT,idxA,idxS,fldS,oslN,bnd,slS,unS,valI,lenS,lookS,takeC,psB,asRow,csB,rdF,Ent.row,ldS,sz,szL,wrF,bldF,plT,bldS,srcS,nilS,nilEq,mapC,binH,binS2,structS,eqL,eqF,binS,arrS,isI,tupS,stor,storL,Value.oneCell',minS,maxS,capS,Nat.reduceAdd,Nat.reduceSub,Nat.reduceMul,Nat.reduceLT,Nat.reduceLeDiff,Nat.reduceEqDiff,Nat.reduceBEq,Int.reduceToNat,Int.reduceNeg,if_true,if_false,reduceIte,stays,inL,same1,qn,ldN,convN,lenN,cond_true,cond_false,implies_true,Int.reduceEq,Int.reduceNe,Int.reduceLE,Int.reduceLT,forall_eq_or_imp,forall_eq,ne_eq,reduceCtorEq,notInt,numB,tabB,Array.reduceGetElem?,upG,up,nth,lay,rcB,rnm,rnmL,wrB,pcB,res61,pl61,Option.isNone,lhB,z1,z3,hx,hy,liB]
        repeat (refine ⟨by omega, ?_⟩)
        exact into_keep [(2, .ptr h.length 0), (3, .ptr (h.length + 1) 0), (4, .int .i64 0)] (by simp [sameT, slot, lkL]) fun j => ⟨H1, x, j, (hHH _ _).2 ⟨hH1, hx, hy⟩, hN7.2 c1, rfl⟩
  rintro _ ⟨H1, x, j7, hhh, hn7, rfl⟩
  obtain ⟨hH1, hx, hy⟩ := (hHH _ _).1 hhh
  have hE : Ext (fun _ => False) h H1 := by rw [hH1]; exact (Ext.refl _ _).app _
  have n7 := hN7.1 hn7
  obtain ⟨N8, hN8⟩ : ∃ N : Prop, N ↔ ¬ q.length > 64 := ⟨_, Iff.rfl⟩
  refine codeP_seq (pl := pl61) tabOk follows_mixed (by kernel_rfl) (fun st => ∃ (H1 x : List Chunk) (j : Nat → Value), HH H1 x ∧ N8 ∧ st = ⟨⟨125, [(2, .ptr h.length 0), (3, .ptr (h.length + 1) 0), (4, .int .i64 0)], j⟩, H1, []⟩) ?_ ?_
  · by_cases c1 : q.length > 64
    · have z1 : decide (((q.length : Nat) : Int) > 64) = true := decide_eq_true (by omega)
      simp -implicitDefEqProofs (maxSteps := 1000000) (disch := omega) only [↓vcB,↓gd,↓opP,↓qv,↓ef,↓bslS,↓stS,↓mkS,↓rangeS,↓nextS,↓entryS,↓delS,↓mupS,↓appS,↓s2bS,↓resS,evB,Sx.look,slot,↓lkL,putS,putO,argsL,↓reduceIte,ofV,of1,lookH,putH,List.replicate,List.append,convS,fldA,nthT,idxA,idxS,fldS,oslN,bnd,slS,unS,valI,lenS,lookS,takeC,psB,asRow,csB,rdF,Ent.row,ldS,sz,szL,wrF,bldF,plT,bldS,srcS,nilS,nilEq,mapC,binH,binS2,structS,eqL,eqF,binS,arrS,isI,tupS,stor,storL,Value.oneCell',minS,maxS,capS,Nat.reduceAdd,Nat.reduceSub,Nat.reduceMul,Nat.reduceLT,Nat.reduceLeDiff,Nat.reduceEqDiff,Nat.reduceBEq,Int.reduceToNat,Int.reduceNeg,if_true,if_false,reduceIte,stays,inL,same1,qn,ldN,convN,lenN,cond_true,cond_false,implies_true,Int.reduceEq,Int.reduceNe,Int.reduceLE,Int.reduceLT,forall_eq_or_imp,forall_eq,ne_eq,reduceCtorEq,notInt,numB,tabB,Array.reduceGetElem?,upG,up,nth,lay,rcB,rnm,rnmL,wrB,pcB,res61,pl61,Option.isNone,lhB,z1,hx,hy,liB]
      repeat (refine ⟨by omega, ?_⟩)
      exact drop H1 x _ hH1 (by unfold mayLs; rw [if_neg n1, if_neg n2, if_neg n3, if_neg n4, if_neg n5, if_neg n6, if_neg n7, if_pos c1])
    · have z1 : decide (((q.length : Nat) : Int) > 64) = false := decide_eq_false (by omega)
      simp -implicitDefEqProofs (maxSteps := 1000000) (disch := omega) only [↓vcB,↓gd,↓opP,↓qv,↓ef,↓bslS,↓stS,↓mkS,↓rangeS,↓nextS,↓entryS,↓delS,↓mupS,↓appS,↓s2bS,↓resS,evB,Sx.look,slot,↓lkL,putS,putO,argsL,↓reduceIte,ofV,of1,lookH,putH,List.replicate,List.append,convS,fldA,nthT,idxA,idxS,fldS,oslN,bnd,slS,unS,valI,lenS,lookS,takeC,psB,asRow,csB,rdF,Ent.row,ldS,sz,szL,wrF,bldF,plT,bldS,srcS,nilS,nilEq,mapC,binH,binS2,structS,eqL,eqF,binS,arrS,isI,tupS,stor,storL,Value.oneCell',minS,maxS,capS,Nat.reduceAdd,Nat.reduceSub,Nat.reduceMul,Nat.reduceLT,Nat.reduceLeDiff,Nat.reduceEqDiff,Nat.reduceBEq,Int.reduceToNat,Int.reduceNeg,if_true,if_false,reduceIte,stays,inL,same1,qn,ldN,convN,lenN,cond_true,cond_false,implies_true,Int.reduceEq,Int.reduceNe,Int.reduceLE,Int.reduceLT,forall_eq_or_imp,forall_eq,ne_eq,reduceCtorEq,notInt,numB,tabB,Array.reduceGetElem?,upG,up,nth,lay,rcB,rnm,rnmL,wrB,pcB,res61,pl61,Option.isNone,lhB,z1,hx,hy,liB]
      repeat (refine ⟨by omega, ?_⟩)
      exact into_keep [(2, .ptr h.length 0), (3, .ptr (h.length + 1) 0), (4, .int .i64 0)] (by simp [sameT, slot, lkL]) fun j => ⟨H1, x, j, (hHH _ _).2 ⟨hH1, hx, hy⟩, hN8.2 c1, rfl⟩
  rintro _ ⟨H1, x, j8, hhh, hn8, rfl⟩
  obtain ⟨hH1, hx, hy⟩ := (hHH _ _).1 hhh
  have hE : Ext (fun _ => False) h H1 := by rw [hH1]; exact (Ext.refl _ _).app _
  have n8 := hN8.1 hn8

  refine codeP_of_vc (pl := pl61) tabOk follows_mixed (by kernel_rfl) ?_
  simp -implicitDefEqProofs (maxSteps := 1000000) (disch := omega) only [↓vcB,↓gd,↓opP,↓qv,↓ef,↓bslS,↓stS,↓mkS,↓rangeS,↓nextS,↓entryS,↓delS,↓mupS,↓appS,↓s2bS,↓resS,evB,Sx.look,slot,↓lkL,putS,putO,argsL,↓reduceIte,ofV,of1,lookH,putH,List.replicate,List.append,convS,fldA,nthT,idxA,idxS,fldS,oslN,bnd,slS,unS,valI,lenS,lookS,takeC,psB,asRow,csB,rdF,Ent.row,ldS,sz,szL,wrF,bldF,plT,bldS,srcS,nilS,nilEq,mapC,binH,binS2,structS,eqL,eqF,binS,arrS,isI,tupS,stor,storL,Value.oneCell',minS,maxS,capS,Nat.reduceAdd,Nat.reduceSub,Nat.reduceMul,Nat.reduceLT,Nat.reduceLeDiff,Nat.reduceEqDiff,Nat.reduceBEq,Int.reduceToNat,Int.reduceNeg,if_true,if_false,reduceIte,stays,inL,same1,qn,ldN,convN,lenN,cond_true,cond_false,implies_true,Int.reduceEq,Int.reduceNe,Int.reduceLE,Int.reduceLT,forall_eq_or_imp,forall_eq,ne_eq,reduceCtorEq,notInt,numB,tabB,Array.reduceGetElem?,upG,up,nth,lay,rcB,rnm,rnmL,wrB,pcB,res61,pl61,Option.isNone,lhB,hx,hy,liB]
  repeat (refine ⟨by omega, ?_⟩)
  have hLs : mayLs k bs p q = mayQ (hPreps k) q := by unfold mayLs; rw [if_neg n1, if_neg n2, if_neg n3, if_neg n4, if_neg n5, if_neg n6, if_neg n7, if_neg n8]
  refine codeP_loop (pl := pl61) tabOk follows_mixed (by kernel_rfl) (fun z st => ∃ (i : Nat) (H1 x : List Chunk) (j : Nat → Value), i + z = q.length ∧ HH H1 x ∧ mayQ (hPreps k) q = mayQ (hPreps k) (q.drop i) ∧ st = ⟨⟨125, [(2, .ptr h.length 0), (3, .ptr (h.length + 1) 0), (4, .int .i64 0), (86, .osl kq 0 0 74 q.length), (87, .int .i64 (q.length : Nat)), (88, .int .i64 (i : Nat))], j⟩, H1, []⟩) ?_ ?_
  · exact into_keep [(2, .ptr h.length 0), (3, .ptr (h.length + 1) 0), (4, .int .i64 0), (86, .osl kq 0 0 74 q.length), (87, .int .i64 (q.length : Nat)), (88, .int .i64 (0 : Nat))] (by simp [sameT, slot, lkL]) fun j => ⟨q.length, 0, H1, x, j, by omega, hhh, rfl, rfl⟩
  · clear hE hx hy hH1 hhh x
    rintro z st ⟨i, H1, x, j, hiz, hhh, hmi, rfl⟩
    obtain ⟨hH1, hx, hy⟩ := (hHH _ _).1 hhh
    have hE : Ext (fun _ => False) h H1 := by rw [hH1]; exact (Ext.refl _ _).app _
    have hrow1 := hE.look h5 (by simp) fun h => h
    have hl1 : h.length + 1 < H1.length := lookH_lt hy (by simp)
    by_cases hi : i < q.length
    · have g1 : decide ((i : Int) < (q.length : Nat)) = true := decide_eq_true (by omega)
      have a1 : IntKind.i64.wrap ((i : Int) + 1) = ((i + 1 : Nat) : Int) := by rw [wrap64 (by omega) (by omega)]; omega
      have hP : hPrep k = true := by
        cases hh : hPrep k with
        | true => rfl
        | false => exact absurd ⟨hh, by omega⟩ n7
      have hd := mayQ_drop (hPreps k) q hi
      have hM := h6.get hi
      have hIH := IQ q[i] (List.getElem_mem hi)
      obtain ⟨mi, hmi2⟩ : ∃ mi, q[i] = mi := ⟨_, rfl⟩
      rw [hmi2] at hd hM hIH
      obtain ⟨m, l⟩ := mi
      obtain ⟨lm, kl, wl, fl, hfi, hM1, hrl, hls⟩ := hM
      have hM0 := hM1
      obtain ⟨k', f', v', s', d', b', bs', p', q', key', of'⟩ := m
      rw [MsgH] at hM1
      obtain ⟨sb, sbs, kp', wp', fp', kq', wq', fq', hlm, h1, h2, _, _, _, _⟩ := hM1
      obtain ⟨kb', wb', rfl, _⟩ := h1
      obtain ⟨kbs', wbs', fb', rfl, _, _⟩ := h2
      unfold dig32 at hlm
      rw [hlm] at hfi hM0
      simp only [List.cons_append, List.nil_append] at hfi
      simp only at hrl hls hd hIH hfi
      rw [mayW_one] at hd
      obtain ⟨m, hm⟩ : ∃ m, m = Msg.mk k' f' v' s' d' b' bs' p' q' key' of' := ⟨_, rfl⟩
      rw [← hm] at hM0 hIH hd
      simp -implicitDefEqProofs (maxSteps := 1000000) (disch := omega) only [↓vcB,↓gd,↓opP,↓qv,↓ef,↓bslS,↓stS,↓mkS,↓rangeS,↓nextS,↓entryS,↓delS,↓mupS,↓appS,↓s2bS,↓resS,evB,Sx.look,slot,↓lkL,putS,putO,argsL,↓reduceIte,ofV,of1,lookH,putH,List.replicate,List.append,convS,fldA,nthT,idxA,idxS,fldS,oslN,bnd,slS,unS,valI,lenS,lookS,takeC,psB,asRow,csB,rdF,Ent.row,ldS,sz,szL,wrF,bldF,plT,bldS,srcS,nilS,nilEq,mapC,binH,binS2,structS,eqL,eqF,binS,arrS,isI,tupS,stor,storL,Value.oneCell',minS,maxS,capS,Nat.reduceAdd,Nat.reduceSub,Nat.reduceMul,Nat.reduceLT,Nat.reduceLeDiff,Nat.reduceEqDiff,Nat.reduceBEq,Int.reduceToNat,Int.reduceNeg,if_true,if_false,reduceIte,stays,inL,same1,qn,ldN,convN,lenN,cond_true,cond_false,implies_true,Int.reduceEq,Int.reduceNe,Int.reduceLE,Int.reduceLT,forall_eq_or_imp,forall_eq,ne_eq,reduceCtorEq,notInt,numB,tabB,Array.reduceGetElem?,upG,up,nth,lay,rcB,rnm,rnmL,wrB,pcB,res61,pl61,Option.isNone,lhB,g1,hrow1,hfi,liB]
      repeat (refine ⟨by omega, ?_⟩)
      have hE2 : Ext (fun _ => False) H1 (H1 ++ [Chunk.cells true [.int .i64 k', .int .i64 f', .int .i64 v', .int .i64 s', .fam 32 1 fun i => .int .u8 (nat (d' i)), .osl kb' 0 0 1 b'.length, .osl kbs' 0 0 1 bs'.length, .osl kp' 0 0 73 p'.length, .osl kq' 0 0 74 q'.length, .int .i64 key', .fam 32 1 fun i => .int .u8 (nat (of' i)), .osl kl 0 0 73 l.length]]) := (Ext.refl _ _).app _
      have hp2 : lookH (H1 ++ [Chunk.cells true [.int .i64 k', .int .i64 f', .int .i64 v', .int .i64 s', .fam 32 1 fun i => .int .u8 (nat (d' i)), .osl kb' 0 0 1 b'.length, .osl kbs' 0 0 1 bs'.length, .osl kp' 0 0 73 p'.length, .osl kq' 0 0 74 q'.length, .int .i64 key', .fam 32 1 fun i => .int .u8 (nat (of' i)), .osl kl 0 0 73 l.length]]) H1.length = Chunk.cells true [.int .i64 k', .int .i64 f', .int .i64 v', .int .i64 s', .fam 32 1 fun i => .int .u8 (nat (d' i)), .osl kb' 0 0 1 b'.length, .osl kbs' 0 0 1 bs'.length, .osl kp' 0 0 73 p'.length, .osl kq' 0 0 74 q'.length, .int .i64 key', .fam 32 1 fun i => .int .u8 (nat (of' i)), .osl kl 0 0 73 l.length] := lookH_app0 _ _
      have hhh2 : HH (H1 ++ [Chunk.cells true [.int .i64 k', .int .i64 f', .int .i64 v', .int .i64 s', .fam 32 1 fun i => .int .u8 (nat (d' i)), .osl kb' 0 0 1 b'.length, .osl kbs' 0 0 1 bs'.length, .osl kp' 0 0 73 p'.length, .osl kq' 0 0 74 q'.length, .int .i64 key', .fam 32 1 fun i => .int .u8 (nat (of' i)), .osl kl 0 0 73 l.length]]) (x ++ [Chunk.cells true [.int .i64 k', .int .i64 f', .int .i64 v', .int .i64 s', .fam 32 1 fun i => .int .u8 (nat (d' i)), .osl kb' 0 0 1 b'.length, .osl kbs' 0 0 1 bs'.length, .osl kp' 0 0 73 p'.length, .osl kq' 0 0 74 q'.length, .int .i64 key', .fam 32 1 fun i => .int .u8 (nat (of' i)), .osl kl 0 0 73 l.length]]) := (hHH _ _).2 ⟨by rw [hH1, List.append_assoc], hE2.look hx (by simp) fun h => h, hE2.look hy (by simp) fun h => h⟩
      obtain ⟨H2, hH2⟩ : ∃ H2, H2 = H1 ++ [Chunk.cells true [.int .i64 k', .int .i64 f', .int .i64 v', .int .i64 s', .fam 32 1 fun i => .int .u8 (nat (d' i)), .osl kb' 0 0 1 b'.length, .osl kbs' 0 0 1 bs'.length, .osl kp' 0 0 73 p'.length, .osl kq' 0 0 74 q'.length, .int .i64 key', .fam 32 1 fun i => .int .u8 (nat (of' i)), .osl kl 0 0 73 l.length]] := ⟨_, rfl⟩
      obtain ⟨x2, hx2e⟩ : ∃ x2, x2 = x ++ [Chunk.cells true [.int .i64 k', .int .i64 f', .int .i64 v', .int .i64 s', .fam 32 1 fun i => .int .u8 (nat (d' i)), .osl kb' 0 0 1 b'.length, .osl kbs' 0 0 1 bs'.length, .osl kp' 0 0 73 p'.length, .osl kq' 0 0 74 q'.length, .int .i64 key', .fam 32 1 fun i => .int .u8 (nat (of' i)), .osl kl 0 0 73 l.length]] := ⟨_, rfl⟩
      rw [← hH2] at hE2 hp2 hhh2 ⊢
      rw [← hx2e] at hhh2
      have hE3 := hE.trans hE2
      obtain ⟨hH2', hx2, hy2⟩ := (hHH _ _).1 hhh2
      refine c104 2 m hIH.1 _ _ (hM0.ext hE3) _ ?_
      by_cases e1 : mayK 2 m = 0
      · have z2 : (mayK 2 m != 0) = false := by rw [e1]; rfl
        rw [if_neg (fun h => h e1)] at hd
        have hrl2 := hE3.look hrl (by simp) fun h => h
        have hls2 := hls.ext hE3
        have hIL := hIH.2
        clear hrl hls hE2 hE3 hM0 hIH hE hx hy hH1 hhh hrow1 hl1
        by_cases c1 : k = 7 ∧ 0 < l.length
        · have w1 : (k == 7) = true := beq_iff_eq.2 c1.1
          have w2 : decide (((l.length : Nat) : Int) > 0) = true := decide_eq_true (by omega)
          have w3 : mayW (hPreps k) 3 l = 1 := by unfold mayW; rw [if_pos ⟨by rw [c1.1]; rfl, c1.2⟩]
          rw [w3, if_pos (by decide)] at hd
          simp -implicitDefEqProofs (maxSteps := 1000000) (disch := omega) only [↓vcB,↓gd,↓opP,↓qv,↓ef,↓bslS,↓stS,↓mkS,↓rangeS,↓nextS,↓entryS,↓delS,↓mupS,↓appS,↓s2bS,↓resS,evB,Sx.look,slot,↓lkL,putS,putO,argsL,↓reduceIte,ofV,of1,lookH,putH,List.replicate,List.append,convS,fldA,nthT,idxA,idxS,fldS,oslN,bnd,slS,unS,valI,lenS,lookS,takeC,psB,asRow,csB,rdF,Ent.row,ldS,sz,szL,wrF,bldF,plT,bldS,srcS,nilS,nilEq,mapC,binH,binS2,structS,eqL,eqF,binS,arrS,isI,tupS,stor,storL,Value.oneCell',minS,maxS,capS,Nat.reduceAdd,Nat.reduceSub,Nat.reduceMul,Nat.reduceLT,Nat.reduceLeDiff,Nat.reduceEqDiff,Nat.reduceBEq,Int.reduceToNat,Int.reduceNeg,if_true,if_false,reduceIte,stays,inL,same1,qn,ldN,convN,lenN,cond_true,cond_false,implies_true,Int.reduceEq,Int.reduceNe,Int.reduceLE,Int.reduceLT,forall_eq_or_imp,forall_eq,ne_eq,reduceCtorEq,notInt,numB,tabB,Array.reduceGetElem?,upG,up,nth,lay,rcB,rnm,rnmL,wrB,pcB,res61,pl61,Option.isNone,lhB,z2,w1,w2,hx2,hp2,liB]
          repeat (refine ⟨by omega, ?_⟩)
          exact drop _ _ _ hH2' (hLs.trans (hmi.trans hd))
        · have hc : ∀ {P : Prop}, ((k == 7) = false → P) → ((k == 7) = true → decide (((l.length : Nat) : Int) > 0) = false → P) → P := fun a c => by
            cases z : k == 7 with
            | false => exact a z
            | true => exact c z (decide_eq_false (fun h => c1 ⟨eq_of_beq z, by omega⟩))
          have nc : ¬ (hPreps k = false ∧ 0 < l.length) := fun h => c1 ⟨by
            have h1 := h.1
            unfold hPrep at hP
            unfold hPreps at h1
            rw [Bool.or_eq_true, beq_iff_eq, beq_iff_eq] at hP
            rw [beq_eq_false_iff_ne] at h1
            omega, h.2⟩
          by_cases e3 : l.length > 64
          · have w4 : decide (((l.length : Nat) : Int) > 64) = true := decide_eq_true (by omega)
            have w3 : mayW (hPreps k) 3 l = 18 := by unfold mayW; rw [if_neg nc, if_pos e3]
            rw [w3, if_pos (by decide)] at hd
            refine hc (fun w1 => ?_) fun w1 w2 => ?_
            · simp -implicitDefEqProofs (maxSteps := 1000000) (disch := omega) only [↓vcB,↓gd,↓opP,↓qv,↓ef,↓bslS,↓stS,↓mkS,↓rangeS,↓nextS,↓entryS,↓delS,↓mupS,↓appS,↓s2bS,↓resS,evB,Sx.look,slot,↓lkL,putS,putO,argsL,↓reduceIte,ofV,of1,lookH,putH,List.replicate,List.append,convS,fldA,nthT,idxA,idxS,fldS,oslN,bnd,slS,unS,valI,lenS,lookS,takeC,psB,asRow,csB,rdF,Ent.row,ldS,sz,szL,wrF,bldF,plT,bldS,srcS,nilS,nilEq,mapC,binH,binS2,structS,eqL,eqF,binS,arrS,isI,tupS,stor,storL,Value.oneCell',minS,maxS,capS,Nat.reduceAdd,Nat.reduceSub,Nat.reduceMul,Nat.reduceLT,Nat.reduceLeDiff,Nat.reduceEqDiff,Nat.reduceBEq,Int.reduceToNat,Int.reduceNeg,if_true,if_false,reduceIte,stays,inL,same1,qn,ldN,convN,lenN,cond_true,cond_false,implies_true,Int.reduceEq,Int.reduceNe,Int.reduceLE,Int.reduceLT,forall_eq_or_imp,forall_eq,ne_eq,reduceCtorEq,notInt,numB,tabB,Array.reduceGetElem?,upG,up,nth,lay,rcB,rnm,rnmL,wrB,pcB,res61,pl61,Option.isNone,lhB,z2,w1,w4,hx2,hp2,liB]
              repeat (refine ⟨by omega, ?_⟩)
              exact drop _ _ _ hH2' (hLs.trans (hmi.trans hd))
            · simp -implicitDefEqProofs (maxSteps := 1000000) (disch := omega) only [↓vcB,↓gd,↓opP,↓qv,↓ef,↓bslS,↓stS,↓mkS,↓rangeS,↓nextS,↓entryS,↓delS,↓mupS,↓appS,↓s2bS,↓resS,evB,Sx.look,slot,↓lkL,putS,putO,argsL,↓reduceIte,ofV,of1,lookH,putH,List.replicate,List.append,convS,fldA,nthT,idxA,idxS,fldS,oslN,bnd,slS,unS,valI,lenS,lookS,takeC,psB,asRow,csB,rdF,Ent.row,ldS,sz,szL,wrF,bldF,plT,bldS,srcS,nilS,nilEq,mapC,binH,binS2,structS,eqL,eqF,binS,arrS,isI,tupS,stor,storL,Value.oneCell',minS,maxS,capS,Nat.reduceAdd,Nat.reduceSub,Nat.reduceMul,Nat.reduceLT,Nat.reduceLeDiff,Nat.reduceEqDiff,Nat.reduceBEq,Int.reduceToNat,Int.reduceNeg,if_true,if_false,reduceIte,stays,inL,same1,qn,ldN,convN,lenN,cond_true,cond_false,implies_true,Int.reduceEq,Int.reduceNe,Int.reduceLE,Int.reduceLT,forall_eq_or_imp,forall_eq,ne_eq,reduceCtorEq,notInt,numB,tabB,Array.reduceGetElem?,upG,up,nth,lay,rcB,rnm,rnmL,wrB,pcB,res61,pl61,Option.isNone,lhB,z2,w1,w2,w4,hx2,hp2,liB]
              repeat (refine ⟨by omega, ?_⟩)
              exact drop _ _ _ hH2' (hLs.trans (hmi.trans hd))
          · have w4 : decide (((l.length : Nat) : Int) > 64) = false := decide_eq_false (by omega)
            have w3 : mayW (hPreps k) 3 l = mayL 3 l := by unfold mayW; rw [if_neg nc, if_neg e3]
            rw [w3] at hd
            refine hc (fun w1 => ?_) fun w1 w2 => ?_
            · simp -implicitDefEqProofs (maxSteps := 1000000) (disch := omega) only [↓vcB,↓gd,↓opP,↓qv,↓ef,↓bslS,↓stS,↓mkS,↓rangeS,↓nextS,↓entryS,↓delS,↓mupS,↓appS,↓s2bS,↓resS,evB,Sx.look,slot,↓lkL,putS,putO,argsL,↓reduceIte,ofV,of1,lookH,putH,List.replicate,List.append,convS,fldA,nthT,idxA,idxS,fldS,oslN,bnd,slS,unS,valI,lenS,lookS,takeC,psB,asRow,csB,rdF,Ent.row,ldS,sz,szL,wrF,bldF,plT,bldS,srcS,nilS,nilEq,mapC,binH,binS2,structS,eqL,eqF,binS,arrS,isI,tupS,stor,storL,Value.oneCell',minS,maxS,capS,Nat.reduceAdd,Nat.reduceSub,Nat.reduceMul,Nat.reduceLT,Nat.reduceLeDiff,Nat.reduceEqDiff,Nat.reduceBEq,Int.reduceToNat,Int.reduceNeg,if_true,if_false,reduceIte,stays,inL,same1,qn,ldN,convN,lenN,cond_true,cond_false,implies_true,Int.reduceEq,Int.reduceNe,Int.reduceLE,Int.reduceLT,forall_eq_or_imp,forall_eq,ne_eq,reduceCtorEq,notInt,numB,tabB,Array.reduceGetElem?,upG,up,nth,lay,rcB,rnm,rnmL,wrB,pcB,res61,pl61,Option.isNone,lhB,z2,w1,w4,hx2,hp2,liB]
              repeat (refine ⟨by omega, ?_⟩)
              refine codeP_loop (pl := pl61) tabOk follows_mixed (by kernel_rfl) (fun y st => ∃ (u : Nat) (H3 x3 : List Chunk) (j : Nat → Value), u + y = l.length ∧ HH H3 x3 ∧ mayL 3 l = mayL 3 (l.drop u) ∧ Ext (fun _ => False) H2 H3 ∧ st = ⟨⟨125, [(2, .ptr h.length 0), (3, .ptr (h.length + 1) 0), (4, .int .i64 0), (86, .osl kq 0 0 74 q.length), (87, .int .i64 (q.length : Nat)), (88, .int .i64 (i : Nat)), (112, .osl kl 0 0 73 l.length), (113, .int .i64 (l.length : Nat)), (114, .int .i64 (u : Nat))], j⟩, H3, []⟩) ?_ ?_
              · exact into_keep [(2, .ptr h.length 0), (3, .ptr (h.length + 1) 0), (4, .int .i64 0), (86, .osl kq 0 0 74 q.length), (87, .int .i64 (q.length : Nat)), (88, .int .i64 (i : Nat)), (112, .osl kl 0 0 73 l.length), (113, .int .i64 (l.length : Nat)), (114, .int .i64 (0 : Nat))] (by simp [sameT, slot, lkL]) fun j => ⟨l.length, 0, H2, x2, j, by omega, hhh2, rfl, Ext.refl _ _, rfl⟩
              · rintro y st ⟨u, H3, x3, j, huy, hhh3, hmu, hEx, rfl⟩
                obtain ⟨hH3, hx3, hy3⟩ := (hHH _ _).1 hhh3
                have hrow3 := hEx.look hrl2 (by simp) fun h => h
                have hl3 : h.length + 1 < H3.length := lookH_lt hy3 (by simp)
                by_cases hu : u < l.length
                · have g2 : decide ((u : Int) < (l.length : Nat)) = true := decide_eq_true (by omega)
                  have a2 : IntKind.i64.wrap ((u : Int) + 1) = ((u + 1 : Nat) : Int) := by rw [wrap64 (by omega) (by omega)]; omega
                  have hdu := mayL_dropK 3 l hu
                  have hM := hls2.get hu
                  have hI := hIL l[u] (List.getElem_mem hu)
                  obtain ⟨mu, hmu2⟩ : ∃ mu, l[u] = mu := ⟨_, rfl⟩
                  rw [hmu2] at hdu hM hI
                  have hM0 := hM
                  clear hmu2
                  obtain ⟨k'', f'', v'', s'', d'', b'', bs'', p'', q'', key'', of''⟩ := mu
                  rw [MsgH] at hM
                  obtain ⟨sb, sbs, kp'', wp'', fp'', kq'', wq'', fq'', hfu, h1, h2, _, _, _, _⟩ := hM
                  obtain ⟨kb'', wb'', rfl, _⟩ := h1
                  obtain ⟨kbs'', wbs'', fb'', rfl, _, _⟩ := h2
                  unfold dig32 at hfu
                  rw [hfu] at hM0
                  obtain ⟨mu, hm2⟩ : ∃ m, m = Msg.mk k'' f'' v'' s'' d'' b'' bs'' p'' q'' key'' of'' := ⟨_, rfl⟩
                  rw [← hm2] at hM0 hI hdu
                  simp -implicitDefEqProofs (maxSteps := 1000000) (disch := omega) only [↓vcB,↓gd,↓opP,↓qv,↓ef,↓bslS,↓stS,↓mkS,↓rangeS,↓nextS,↓entryS,↓delS,↓mupS,↓appS,↓s2bS,↓resS,evB,Sx.look,slot,↓lkL,putS,putO,argsL,↓reduceIte,ofV,of1,lookH,putH,List.replicate,List.append,convS,fldA,nthT,idxA,idxS,fldS,oslN,bnd,slS,unS,valI,lenS,lookS,takeC,psB,asRow,csB,rdF,Ent.row,ldS,sz,szL,wrF,bldF,plT,bldS,srcS,nilS,nilEq,mapC,binH,binS2,structS,eqL,eqF,binS,arrS,isI,tupS,stor,storL,Value.oneCell',minS,maxS,capS,Nat.reduceAdd,Nat.reduceSub,Nat.reduceMul,Nat.reduceLT,Nat.reduceLeDiff,Nat.reduceEqDiff,Nat.reduceBEq,Int.reduceToNat,Int.reduceNeg,if_true,if_false,reduceIte,stays,inL,same1,qn,ldN,convN,lenN,cond_true,cond_false,implies_true,Int.reduceEq,Int.reduceNe,Int.reduceLE,Int.reduceLT,forall_eq_or_imp,forall_eq,ne_eq,reduceCtorEq,notInt,numB,tabB,Array.reduceGetElem?,upG,up,nth,lay,rcB,rnm,rnmL,wrB,pcB,res61,pl61,Option.isNone,lhB,g2,hrow3,hfu,liB]
                  repeat (refine ⟨by omega, ?_⟩)
                  have hE4 : Ext (fun _ => False) H3 (H3 ++ [Chunk.cells true [.int .i64 k'', .int .i64 f'', .int .i64 v'', .int .i64 s'', .fam 32 1 fun i => .int .u8 (nat (d'' i)), .osl kb'' 0 0 1 b''.length, .osl kbs'' 0 0 1 bs''.length, .osl kp'' 0 0 73 p''.length, .osl kq'' 0 0 74 q''.length, .int .i64 key'', .fam 32 1 fun i => .int .u8 (nat (of'' i))]]) := (Ext.refl _ _).app _
                  have hhh4 : HH (H3 ++ [Chunk.cells true [.int .i64 k'', .int .i64 f'', .int .i64 v'', .int .i64 s'', .fam 32 1 fun i => .int .u8 (nat (d'' i)), .osl kb'' 0 0 1 b''.length, .osl kbs'' 0 0 1 bs''.length, .osl kp'' 0 0 73 p''.length, .osl kq'' 0 0 74 q''.length, .int .i64 key'', .fam 32 1 fun i => .int .u8 (nat (of'' i))]]) (x3 ++ [Chunk.cells true [.int .i64 k'', .int .i64 f'', .int .i64 v'', .int .i64 s'', .fam 32 1 fun i => .int .u8 (nat (d'' i)), .osl kb'' 0 0 1 b''.length, .osl kbs'' 0 0 1 bs''.length, .osl kp'' 0 0 73 p''.length, .osl kq'' 0 0 74 q''.length, .int .i64 key'', .fam 32 1 fun i => .int .u8 (nat (of'' i))]]) := (hHH _ _).2 ⟨by rw [hH3, List.append_assoc], hE4.look hx3 (by simp) fun h => h, hE4.look hy3 (by simp) fun h => h⟩
                  refine c104 3 mu hI _ _ ((hM0.ext hEx).ext hE4) _ ?_
                  by_cases e : mayK 3 mu = 0
                  · have z2 : (mayK 3 mu != 0) = false := by rw [e]; rfl
                    rw [if_neg (fun h => h e)] at hdu
                    simp -implicitDefEqProofs (maxSteps := 1000000) (disch := omega) only [↓vcB,↓gd,↓opP,↓qv,↓ef,↓bslS,↓stS,↓mkS,↓rangeS,↓nextS,↓entryS,↓delS,↓mupS,↓appS,↓s2bS,↓resS,evB,Sx.look,slot,↓lkL,putS,putO,argsL,↓reduceIte,ofV,of1,lookH,putH,List.replicate,List.append,convS,fldA,nthT,idxA,idxS,fldS,oslN,bnd,slS,unS,valI,lenS,lookS,takeC,psB,asRow,csB,rdF,Ent.row,ldS,sz,szL,wrF,bldF,plT,bldS,srcS,nilS,nilEq,mapC,binH,binS2,structS,eqL,eqF,binS,arrS,isI,tupS,stor,storL,Value.oneCell',minS,maxS,capS,Nat.reduceAdd,Nat.reduceSub,Nat.reduceMul,Nat.reduceLT,Nat.reduceLeDiff,Nat.reduceEqDiff,Nat.reduceBEq,Int.reduceToNat,Int.reduceNeg,if_true,if_false,reduceIte,stays,inL,same1,qn,ldN,convN,lenN,cond_true,cond_false,implies_true,Int.reduceEq,Int.reduceNe,Int.reduceLE,Int.reduceLT,forall_eq_or_imp,forall_eq,ne_eq,reduceCtorEq,notInt,numB,tabB,Array.reduceGetElem?,upG,up,nth,lay,rcB,rnm,rnmL,wrB,pcB,res61,pl61,Option.isNone,lhB,z2,a2,liB]
                    repeat (refine ⟨by omega, ?_⟩)
                    exact into_keep [(2, .ptr h.length 0), (3, .ptr (h.length + 1) 0), (4, .int .i64 0), (86, .osl kq 0 0 74 q.length), (87, .int .i64 (q.length : Nat)), (88, .int .i64 (i : Nat)), (112, .osl kl 0 0 73 l.length), (113, .int .i64 (l.length : Nat)), (114, .int .i64 (u + 1 : Nat))] (by simp [sameT, slot, lkL]) fun j => ⟨y - 1, by omega, u + 1, _, _, j, by omega, hhh4, hmu.trans hdu, hEx.trans hE4, rfl⟩
                  · have z2 : (mayK 3 mu != 0) = true := bne_iff_ne.2 e
                    rw [if_pos e] at hdu
                    have hv := hmu.trans hdu
                    rw [if_pos (by rw [hv]; exact e), hv] at hd
                    simp -implicitDefEqProofs (maxSteps := 1000000) (disch := omega) only [↓vcB,↓gd,↓opP,↓qv,↓ef,↓bslS,↓stS,↓mkS,↓rangeS,↓nextS,↓entryS,↓delS,↓mupS,↓appS,↓s2bS,↓resS,evB,Sx.look,slot,↓lkL,putS,putO,argsL,↓reduceIte,ofV,of1,lookH,putH,List.replicate,List.append,convS,fldA,nthT,idxA,idxS,fldS,oslN,bnd,slS,unS,valI,lenS,lookS,takeC,psB,asRow,csB,rdF,Ent.row,ldS,sz,szL,wrF,bldF,plT,bldS,srcS,nilS,nilEq,mapC,binH,binS2,structS,eqL,eqF,binS,arrS,isI,tupS,stor,storL,Value.oneCell',minS,maxS,capS,Nat.reduceAdd,Nat.reduceSub,Nat.reduceMul,Nat.reduceLT,Nat.reduceLeDiff,Nat.reduceEqDiff,Nat.reduceBEq,Int.reduceToNat,Int.reduceNeg,if_true,if_false,reduceIte,stays,inL,same1,qn,ldN,convN,lenN,cond_true,cond_false,implies_true,Int.reduceEq,Int.reduceNe,Int.reduceLE,Int.reduceLT,forall_eq_or_imp,forall_eq,ne_eq,reduceCtorEq,notInt,numB,tabB,Array.reduceGetElem?,upG,up,nth,lay,rcB,rnm,rnmL,wrB,pcB,res61,pl61,Option.isNone,lhB,z2,liB]
                    repeat (refine ⟨by omega, ?_⟩)
                    exact drop _ _ _ ((hHH _ _).1 hhh4).1 (hLs.trans (hmi.trans hd))
                · have g2 : decide ((u : Int) < (l.length : Nat)) = false := decide_eq_false (by omega)
                  have hdu : l.drop u = [] := List.drop_of_length_le (by omega)
                  rw [hdu, mayL] at hmu
                  rw [if_neg (fun h => h hmu)] at hd
                  simp -implicitDefEqProofs (maxSteps := 1000000) (disch := omega) only [↓vcB,↓gd,↓opP,↓qv,↓ef,↓bslS,↓stS,↓mkS,↓rangeS,↓nextS,↓entryS,↓delS,↓mupS,↓appS,↓s2bS,↓resS,evB,Sx.look,slot,↓lkL,putS,putO,argsL,↓reduceIte,ofV,of1,lookH,putH,List.replicate,List.append,convS,fldA,nthT,idxA,idxS,fldS,oslN,bnd,slS,unS,valI,lenS,lookS,takeC,psB,asRow,csB,rdF,Ent.row,ldS,sz,szL,wrF,bldF,plT,bldS,srcS,nilS,nilEq,mapC,binH,binS2,structS,eqL,eqF,binS,arrS,isI,tupS,stor,storL,Value.oneCell',minS,maxS,capS,Nat.reduceAdd,Nat.reduceSub,Nat.reduceMul,Nat.reduceLT,Nat.reduceLeDiff,Nat.reduceEqDiff,Nat.reduceBEq,Int.reduceToNat,Int.reduceNeg,if_true,if_false,reduceIte,stays,inL,same1,qn,ldN,convN,lenN,cond_true,cond_false,implies_true,Int.reduceEq,Int.reduceNe,Int.reduceLE,Int.reduceLT,forall_eq_or_imp,forall_eq,ne_eq,reduceCtorEq,notInt,numB,tabB,Array.reduceGetElem?,upG,up,nth,lay,rcB,rnm,rnmL,wrB,pcB,res61,pl61,Option.isNone,lhB,g2,a1,liB]
                  repeat (refine ⟨by omega, ?_⟩)
                  exact into_keep [(2, .ptr h.length 0), (3, .ptr (h.length + 1) 0), (4, .int .i64 0), (86, .osl kq 0 0 74 q.length), (87, .int .i64 (q.length : Nat)), (88, .int .i64 (i + 1 : Nat))] (by simp [sameT, slot, lkL]) fun j => ⟨z - 1, by omega, i + 1, H3, x3, j, by omega, hhh3, hmi.trans hd, rfl⟩
            · simp -implicitDefEqProofs (maxSteps := 1000000) (disch := omega) only [↓vcB,↓gd,↓opP,↓qv,↓ef,↓bslS,↓stS,↓mkS,↓rangeS,↓nextS,↓entryS,↓delS,↓mupS,↓appS,↓s2bS,↓resS,evB,Sx.look,slot,↓lkL,putS,putO,argsL,↓reduceIte,ofV,of1,lookH,putH,List.replicate,List.append,convS,fldA,nthT,idxA,idxS,fldS,oslN,bnd,slS,unS,valI,lenS,lookS,takeC,psB,asRow,csB,rdF,Ent.row,ldS,sz,szL,wrF,bldF,plT,bldS,srcS,nilS,nilEq,mapC,binH,binS2,structS,eqL,eqF,binS,arrS,isI,tupS,stor,storL,Value.oneCell',minS,maxS,capS,Nat.reduceAdd,Nat.reduceSub,Nat.reduceMul,Nat.reduceLT,Nat.reduceLeDiff,Nat.reduceEqDiff,Nat.reduceBEq,Int.reduceToNat,Int.reduceNeg,if_true,if_false,reduceIte,stays,inL,same1,qn,ldN,convN,lenN,cond_true,cond_false,implies_true,Int.reduceEq,Int.reduceNe,Int.reduceLE,Int.reduceLT,forall_eq_or_imp,forall_eq,ne_eq,reduceCtorEq,notInt,numB,tabB,Array.reduceGetElem?,upG,up,nth,lay,rcB,rnm,rnmL,wrB,pcB,res61,pl61,Option.isNone,lhB,z2,w1,w2,w4,hx2,hp2,liB]
              repeat (refine ⟨by omega, ?_⟩)
              refine codeP_loop (pl := pl61) tabOk follows_mixed (by kernel_rfl) (fun y st => ∃ (u : Nat) (H3 x3 : List Chunk) (j : Nat → Value), u + y = l.length ∧ HH H3 x3 ∧ mayL 3 l = mayL 3 (l.drop u) ∧ Ext (fun _ => False) H2 H3 ∧ st = ⟨⟨125, [(2, .ptr h.length 0), (3, .ptr (h.length + 1) 0), (4, .int .i64 0), (86, .osl kq 0 0 74 q.length), (87, .int .i64 (q.length : Nat)), (88, .int .i64 (i : Nat)), (112, .osl kl 0 0 73 l.length), (113, .int .i64 (l.length : Nat)), (114, .int .i64 (u : Nat))], j⟩, H3, []⟩) ?_ ?_
              · exact into_keep [(2, .ptr h.length 0), (3, .ptr (h.length + 1) 0), (4, .int .i64 0), (86, .osl kq 0 0 74 q.length), (87, .int .i64 (q.length : Nat)), (88, .int .i64 (i : Nat)), (112, .osl kl 0 0 73 l.length), (113, .int .i64 (l.length : Nat)), (114, .int .i64 (0 : Nat))] (by simp [sameT, slot, lkL]) fun j => ⟨l.length, 0, H2, x2, j, by omega, hhh2, rfl, Ext.refl _ _, rfl⟩
              · rintro y st ⟨u, H3, x3, j, huy, hhh3, hmu, hEx, rfl⟩
                obtain ⟨hH3, hx3, hy3⟩ := (hHH _ _).1 hhh3
                have hrow3 := hEx.look hrl2 (by simp) fun h => h
                have hl3 : h.length + 1 < H3.length := lookH_lt hy3 (by simp)
                by_cases hu : u < l.length
                · have g2 : decide ((u : Int) < (l.length : Nat)) = true := decide_eq_true (by omega)
                  have a2 : IntKind.i64.wrap ((u : Int) + 1) = ((u + 1 : Nat) : Int) := by rw [wrap64 (by omega) (by omega)]; omega
                  have hdu := mayL_dropK 3 l hu
                  have hM := hls2.get hu
                  have hI := hIL l[u] (List.getElem_mem hu)
                  obtain ⟨mu, hmu2⟩ : ∃ mu, l[u] = mu := ⟨_, rfl⟩
                  rw [hmu2] at hdu hM hI
                  have hM0 := hM
                  clear hmu2
                  obtain ⟨k'', f'', v'', s'', d'', b'', bs'', p'', q'', key'', of''⟩ := mu
                  rw [MsgH] at hM
                  obtain ⟨sb, sbs, kp'', wp'', fp'', kq'', wq'', fq'', hfu, h1, h2, _, _, _, _⟩ := hM
                  obtain ⟨kb'', wb'', rfl, _⟩ := h1
                  obtain ⟨kbs'', wbs'', fb'', rfl, _, _⟩ := h2
                  unfold dig32 at hfu
                  rw [hfu] at hM0
                  obtain ⟨mu, hm2⟩ : ∃ m, m = Msg.mk k'' f'' v'' s'' d'' b'' bs'' p'' q'' key'' of'' := ⟨_, rfl⟩
                  rw [← hm2] at hM0 hI hdu
                  simp -implicitDefEqProofs (maxSteps := 1000000) (disch := omega) only [↓vcB,↓gd,↓opP,↓qv,↓ef,↓bslS,↓stS,↓mkS,↓rangeS,↓nextS,↓entryS,↓delS,↓mupS,↓appS,↓s2bS,↓resS,evB,Sx.look,slot,↓lkL,putS,putO,argsL,↓reduceIte,ofV,of1,lookH,putH,List.replicate,List.append,convS,fldA,nthT,idxA,idxS,fldS,oslN,bnd,slS,unS,valI,lenS,lookS,takeC,psB,asRow,csB,rdF,Ent.row,ldS,sz,szL,wrF,bldF,plT,bldS,srcS,nilS,nilEq,mapC,binH,binS2,structS,eqL,eqF,binS,arrS,isI,tupS,stor,storL,Value.oneCell',minS,maxS,capS,Nat.reduceAdd,Nat.reduceSub,Nat.reduceMul,Nat.reduceLT,Nat.reduceLeDiff,Nat.reduceEqDiff,Nat.reduceBEq,Int.reduceToNat,Int.reduceNeg,if_true,if_false,reduceIte,stays,inL,same1,qn,ldN,convN,lenN,cond_true,cond_false,implies_true,Int.reduceEq,Int.reduceNe,Int.reduceLE,Int.reduceLT,forall_eq_or_imp,forall_eq,ne_eq,reduceCtorEq,notInt,numB,tabB,Array.reduceGetElem?,upG,up,nth,lay,rcB,rnm,rnmL,wrB,pcB,res61,pl61,Option.isNone,lhB,g2,hrow3,hfu,liB]
                  repeat (refine ⟨by omega, ?_⟩)
                  have hE4 : Ext (fun _ => False) H3 (H3 ++ [Chunk.cells true [.int .i64 k'', .int .i64 f'', .int .i64 v'', .int .i64 s'', .fam 32 1 fun i => .int .u8 (nat (d'' i)), .osl kb'' 0 0 1 b''.length, .osl kbs'' 0 0 1 bs''.length, .osl kp'' 0 0 73 p''.length, .osl kq'' 0 0 74 q''.length, .int .i64 key'', .fam 32 1 fun i => .int .u8 (nat (of'' i))]]) := (Ext.refl _ _).app _
                  have hhh4 : HH (H3 ++ [Chunk.cells true [.int .i64 k'', .int .i64 f'', .int .i64 v'', .int .i64 s'', .fam 32 1 fun i => .int .u8 (nat (d'' i)), .osl kb'' 0 0 1 b''.length, .osl kbs'' 0 0 1 bs''.length, .osl kp'' 0 0 73 p''.length, .osl kq'' 0 0 74 q''.length, .int .i64 key'', .fam 32 1 fun i => .int .u8 (nat (of'' i))]]) (x3 ++ [Chunk.cells true [.int .i64 k'', .int .i64 f'', .int .i64 v'', .int .i64 s'', .fam 32 1 fun i => .int .u8 (nat (d'' i)), .osl kb'' 0 0 1 b''.length, .osl kbs'' 0 0 1 bs''.length, .osl kp'' 0 0 73 p''.length, .osl kq'' 0 0 74 q''.length, .int .i64 key'', .fam 32 1 fun i => .int .u8 (nat (of'' i))]]) := (hHH _ _).2 ⟨by rw [hH3, List.append_assoc], hE4.look hx3 (by simp) fun h => h, hE4.look hy3 (by simp) fun h => h⟩
                  refine c104 3 mu hI _ _ ((hM0.ext hEx).ext hE4) _ ?_
                  by_cases e : mayK 3 mu = 0
                  · have z2 : (mayK 3 mu != 0) = false := by rw [e]; rfl
                    rw [if_neg (fun h => h e)] at hdu
                    simp -implicitDefEqProofs (maxSteps := 1000000) (disch := omega) only [↓vcB,↓gd,↓opP,↓qv,↓ef,↓bslS,↓stS,↓mkS,↓rangeS,↓nextS,↓entryS,↓delS,↓mupS,↓appS,↓s2bS,↓resS,evB,Sx.look,slot,↓lkL,putS,putO,argsL,↓reduceIte,ofV,of1,lookH,putH,List.replicate,List.append,convS,fldA,nthT,idxA,idxS,fldS,oslN,bnd,slS,unS,valI,lenS,lookS,takeC,psB,asRow,csB,rdF,Ent.row,ldS,sz,szL,wrF,bldF,plT,bldS,srcS,nilS,nilEq,mapC,binH,binS2,structS,eqL,eqF,binS,arrS,isI,tupS,stor,storL,Value.oneCell',minS,maxS,capS,Nat.reduceAdd,Nat.reduceSub,Nat.reduceMul,Nat.reduceLT,Nat.reduceLeDiff,Nat.reduceEqDiff,Nat.reduceBEq,Int.reduceToNat,Int.reduceNeg,if_true,if_false,reduceIte,stays,inL,same1,qn,ldN,convN,lenN,cond_true,cond_false,implies_true,Int.reduceEq,Int.reduceNe,Int.reduceLE,Int.reduceLT,forall_eq_or_imp,forall_eq,ne_eq,reduceCtorEq,notInt,numB,tabB,Array.reduceGetElem?,upG,up,nth,lay,rcB,rnm,rnmL,wrB,pcB,res61,pl61,Option.isNone,lhB,z2,a2,liB]
                    repeat (refine ⟨by omega, ?_⟩)
                    exact into_keep [(2, .ptr h.length 0), (3, .ptr (h.length + 1) 0), (4, .int .i64 0), (86, .osl kq 0 0 74 q.length), (87, .int .i64 (q.length : Nat)), (88, .int .i64 (i : Nat)), (112, .osl kl 0 0 73 l.length), (113, .int .i64 (l.length : Nat)), (114, .int .i64 (u + 1 : Nat))] (by simp [sameT, slot, lkL]) fun j => ⟨y - 1, by omega, u + 1, _, _, j, by omega, hhh4, hmu.trans hdu, hEx.trans hE4, rfl⟩
                  · have z2 : (mayK 3 mu != 0) = true := bne_iff_ne.2 e
                    rw [if_pos e] at hdu
                    have hv := hmu.trans hdu
                    rw [if_pos (by rw [hv]; exact e), hv] at hd
                    simp -implicitDefEqProofs (maxSteps := 1000000) (disch := omega) only [↓vcB,↓gd,↓opP,↓qv,↓ef,↓bslS,↓stS,↓mkS,↓rangeS,↓nextS,↓entryS,↓delS,↓mupS,↓appS,↓s2bS,↓resS,evB,Sx.look,slot,↓lkL,putS,putO,argsL,↓reduceIte,ofV,of1,lookH,putH,List.replicate,List.append,convS,fldA,nthT,idxA,idxS,fldS,oslN,bnd,slS,unS,valI,lenS,lookS,takeC,psB,asRow,csB,rdF,Ent.row,ldS,sz,szL,wrF,bldF,plT,bldS,srcS,nilS,nilEq,mapC,binH,binS2,structS,eqL,eqF,binS,arrS,isI,tupS,stor,storL,Value.oneCell',minS,maxS,capS,Nat.reduceAdd,Nat.reduceSub,Nat.reduceMul,Nat.reduceLT,Nat.reduceLeDiff,Nat.reduceEqDiff,Nat.reduceBEq,Int.reduceToNat,Int.reduceNeg,if_true,if_false,reduceIte,stays,inL,same1,qn,ldN,convN,lenN,cond_true,cond_false,implies_true,Int.reduceEq,Int.reduceNe,Int.reduceLE,Int.reduceLT,forall_eq_or_imp,forall_eq,ne_eq,reduceCtorEq,notInt,numB,tabB,Array.reduceGetElem?,upG,up,nth,lay,rcB,rnm,rnmL,wrB,pcB,res61,pl61,Option.isNone,lhB,z2,liB]
                    repeat (refine ⟨by omega, ?_⟩)
                    exact drop _ _ _ ((hHH _ _).1 hhh4).1 (hLs.trans (hmi.trans hd))
                · have g2 : decide ((u : Int) < (l.length : Nat)) = false := decide_eq_false (by omega)
                  have hdu : l.drop u = [] := List.drop_of_length_le (by omega)
                  rw [hdu, mayL] at hmu
                  rw [if_neg (fun h => h hmu)] at hd
                  simp -implicitDefEqProofs (maxSteps := 1000000) (disch := omega) only [↓vcB,↓gd,↓opP,↓qv,↓ef,↓bslS,↓stS,↓mkS,↓rangeS,↓nextS,↓entryS,↓delS,↓mupS,↓appS,↓s2bS,↓resS,evB,Sx.look,slot,↓lkL,putS,putO,argsL,↓reduceIte,ofV,of1,lookH,putH,List.replicate,List.append,convS,fldA,nthT,idxA,idxS,fldS,oslN,bnd,slS,unS,valI,lenS,lookS,takeC,psB,asRow,csB,rdF,Ent.row,ldS,sz,szL,wrF,bldF,plT,bldS,srcS,nilS,nilEq,mapC,binH,binS2,structS,eqL,eqF,binS,arrS,isI,tupS,stor,storL,Value.oneCell',minS,maxS,capS,Nat.reduceAdd,Nat.reduceSub,Nat.reduceMul,Nat.reduceLT,Nat.reduceLeDiff,Nat.reduceEqDiff,Nat.reduceBEq,Int.reduceToNat,Int.reduceNeg,if_true,if_false,reduceIte,stays,inL,same1,qn,ldN,convN,lenN,cond_true,cond_false,implies_true,Int.reduceEq,Int.reduceNe,Int.reduceLE,Int.reduceLT,forall_eq_or_imp,forall_eq,ne_eq,reduceCtorEq,notInt,numB,tabB,Array.reduceGetElem?,upG,up,nth,lay,rcB,rnm,rnmL,wrB,pcB,res61,pl61,Option.isNone,lhB,g2,a1,liB]
                  repeat (refine ⟨by omega, ?_⟩)
                  exact into_keep [(2, .ptr h.length 0), (3, .ptr (h.length + 1) 0), (4, .int .i64 0), (86, .osl kq 0 0 74 q.length), (87, .int .i64 (q.length : Nat)), (88, .int .i64 (i + 1 : Nat))] (by simp [sameT, slot, lkL]) fun j => ⟨z - 1, by omega, i + 1, H3, x3, j, by omega, hhh3, hmi.trans hd, rfl⟩
      · have z2 : (mayK 2 m != 0) = true := bne_iff_ne.2 e1
        rw [if_pos e1] at hd
        simp -implicitDefEqProofs (maxSteps := 1000000) (disch := omega) only [↓vcB,↓gd,↓opP,↓qv,↓ef,↓bslS,↓stS,↓mkS,↓rangeS,↓nextS,↓entryS,↓delS,↓mupS,↓appS,↓s2bS,↓resS,evB,Sx.look,slot,↓lkL,putS,putO,argsL,↓reduceIte,ofV,of1,lookH,putH,List.replicate,List.append,convS,fldA,nthT,idxA,idxS,fldS,oslN,bnd,slS,unS,valI,lenS,lookS,takeC,psB,asRow,csB,rdF,Ent.row,ldS,sz,szL,wrF,bldF,plT,bldS,srcS,nilS,nilEq,mapC,binH,binS2,structS,eqL,eqF,binS,arrS,isI,tupS,stor,storL,Value.oneCell',minS,maxS,capS,Nat.reduceAdd,Nat.reduceSub,Nat.reduceMul,Nat.reduceLT,Nat.reduceLeDiff,Nat.reduceEqDiff,Nat.reduceBEq,Int.reduceToNat,Int.reduceNeg,if_true,if_false,reduceIte,stays,inL,same1,qn,ldN,convN,lenN,cond_true,cond_false,implies_true,Int.reduceEq,Int.reduceNe,Int.reduceLE,Int.reduceLT,forall_eq_or_imp,forall_eq,ne_eq,reduceCtorEq,notInt,numB,tabB,Array.reduceGetElem?,upG,up,nth,lay,rcB,rnm,rnmL,wrB,pcB,res61,pl61,Option.isNone,lhB,z2,liB]
        repeat (refine ⟨by omega, ?_⟩)
        exact drop _ _ _ hH2' (hLs.trans (hmi.trans hd))
    · have g1 : decide ((i : Int) < (q.length : Nat)) = false := decide_eq_false (by omega)
      have hd : q.drop i = [] := List.drop_of_length_le (by omega)
      rw [hd] at hmi
      simp -implicitDefEqProofs (maxSteps := 1000000) (disch := omega) only [↓vcB,↓gd,↓opP,↓qv,↓ef,↓bslS,↓stS,↓mkS,↓rangeS,↓nextS,↓entryS,↓delS,↓mupS,↓appS,↓s2bS,↓resS,evB,Sx.look,slot,↓lkL,putS,putO,argsL,↓reduceIte,ofV,of1,lookH,putH,List.replicate,List.append,convS,fldA,nthT,idxA,idxS,fldS,oslN,bnd,slS,unS,valI,lenS,lookS,takeC,psB,asRow,csB,rdF,Ent.row,ldS,sz,szL,wrF,bldF,plT,bldS,srcS,nilS,nilEq,mapC,binH,binS2,structS,eqL,eqF,binS,arrS,isI,tupS,stor,storL,Value.oneCell',minS,maxS,capS,Nat.reduceAdd,Nat.reduceSub,Nat.reduceMul,Nat.reduceLT,Nat.reduceLeDiff,Nat.reduceEqDiff,Nat.reduceBEq,Int.reduceToNat,Int.reduceNeg,if_true,if_false,reduceIte,stays,inL,same1,qn,ldN,convN,lenN,cond_true,cond_false,implies_true,Int.reduceEq,Int.reduceNe,Int.reduceLE,Int.reduceLT,forall_eq_or_imp,forall_eq,ne_eq,reduceCtorEq,notInt,numB,tabB,Array.reduceGetElem?,upG,up,nth,lay,rcB,rnm,rnmL,wrB,pcB,res61,pl61,Option.isNone,lhB,g1,liB]
      repeat (refine ⟨by omega, ?_⟩)
      exact drop _ _ _ hH1 (hLs.trans (hmi.trans (by rw [mayQ])))

end Go.Proofs.Ytgocfglmideobaa

set_option linter.all false
set_option maxRecDepth 40000
namespace Go.Proofs.Ytgocfglmideobaa
open Go Go.Sx
theorem res16 : Try.f16.results.toList = [.tmp 2] := rfl
theorem okNum_neg {b : Bool} {n : Int} (h : n < 0) : okNum b n = false := by
  unfold okNum
  rw [beq_eq_false_iff_ne.2 (show n ≠ 0 by omega), decide_eq_false (show ¬ 0 < n by omega)]
  cases b <;> rfl
theorem okNum_big {b : Bool} {n : Int} (h : n > 1099511627776) : okNum b n = false := by
  unfold okNum
  rw [beq_eq_false_iff_ne.2 (show n ≠ 0 by omega), decide_eq_false (show ¬ n ≤ 1099511627776 by omega)]
  cases b <;> simp
theorem okNum_no {n : Int} (h : n ≠ 0) : okNum false n = false := by
  unfold okNum
  rw [beq_eq_false_iff_ne.2 h]
  rfl
theorem okNum_t {n : Int} (h : ¬ n < 0) (h1 : ¬ n > 1099511627776) : okNum true n = true := by
  unfold okNum
  by_cases e : n = 0
  · rw [e]; rfl
  · rw [decide_eq_true (show 0 < n by omega), decide_eq_true (show n ≤ 1099511627776 by omega)]
    simp
theorem may_eq (k f v s : Int) (d : Nat → By) (b : List By) (bs : List (List By)) (p : List Msg) (q : List (Msg × List Msg)) (key : Int) (of : Nat → By) : may (.mk k f v s d b bs p q key of) =
    if ¬ (1 ≤ k ∧ k ≤ 9) then 1 else if ¬ okFrom k f = true then 1 else if ¬ (okNum (hView k) v = true ∧ okNum (hSeq k) s = true ∧ (hDig k || zero32 d) = true) then 1 else
    if hBun k = true ∧ mayB b ≠ 0 then mayB b else if hBun k = false ∧ 0 < b.length then 1 else if mayLs k bs p q ≠ 0 then mayLs k bs p q else if k = 1 ∧ (key ≠ 0 ∨ zero32 of = false) then 1 else 0 := by
  rw [may]
  have hh : mayHead k f v s d = false ↔ ¬ ((1 ≤ k ∧ k ≤ 9) ∧ okFrom k f = true ∧ (okNum (hView k) v = true ∧ okNum (hSeq k) s = true ∧ (hDig k || zero32 d) = true)) := by
    unfold mayHead
    rw [← Bool.not_eq_true, Bool.and_eq_true, Bool.and_eq_true, Bool.and_eq_true, Bool.and_eq_true, Bool.and_eq_true, decide_eq_true_iff, decide_eq_true_iff]
    constructor
    · rintro h ⟨⟨h1, h2⟩, h3, h4, h5, h6⟩
      exact h ⟨⟨⟨⟨⟨h1, h2⟩, h3⟩, h4⟩, h5⟩, h6⟩
    · rintro h ⟨⟨⟨⟨⟨h1, h2⟩, h3⟩, h4⟩, h5⟩, h6⟩
      exact h ⟨⟨h1, h2⟩, h3, h4, h5, h6⟩
  dsimp only
  obtain ⟨e2, h2⟩ : ∃ e2, e2 = if hProof k = false ∧ 0 < p.length then 1 else if p.length > 64 then 18 else mayL (kProof k) p := ⟨_, rfl⟩
  obtain ⟨e3, h3⟩ : ∃ e3, e3 = if hPrep k = false ∧ 0 < q.length then 1 else if q.length > 64 then 18 else mayQ (hPreps k) q := ⟨_, rfl⟩
  have hL : mayLs k bs p q = if hBuns k = false ∧ 0 < bs.length then 1 else if bs.length > 512 then 18 else if mayBs bs ≠ 0 then mayBs bs else if e2 ≠ 0 then e2 else e3 := by
    have hx : ∀ X : Int, (if hProof k = false ∧ 0 < p.length then 1 else if p.length > 64 then 18 else if mayL (kProof k) p ≠ 0 then mayL (kProof k) p else X) = if e2 ≠ 0 then e2 else X := fun X => by
      by_cases p1 : hProof k = false ∧ 0 < p.length
      · rw [if_pos p1] at h2 ⊢
        rw [h2, if_pos (show (1 : Int) ≠ 0 by decide)]
      · rw [if_neg p1] at h2 ⊢
        by_cases p2 : p.length > 64
        · rw [if_pos p2] at h2 ⊢
          rw [h2, if_pos (show (18 : Int) ≠ 0 by decide)]
        · rw [if_neg p2] at h2 ⊢
          rw [h2]
    unfold mayLs
    rw [← h3, hx e3]
  rw [← h2, ← h3, hL]
  by_cases c1 : 1 ≤ k ∧ k ≤ 9
  · have i1 : ¬ ¬ (1 ≤ k ∧ k ≤ 9) := fun h => h c1
    rw [if_neg i1]
    by_cases c2 : okFrom k f = true
    · have i2 : ¬ ¬ (okFrom k f = true) := fun h => h c2
      rw [if_neg i2]
      by_cases c3 : okNum (hView k) v = true ∧ okNum (hSeq k) s = true ∧ (hDig k || zero32 d) = true
      · have i3 : ¬ ¬ (okNum (hView k) v = true ∧ okNum (hSeq k) s = true ∧ (hDig k || zero32 d) = true) := fun h => h c3
        have i4 : ¬ mayHead k f v s d = false := fun h => hh.1 h ⟨c1, c2, c3⟩
        rw [if_neg i3, if_neg i4]
        clear h2 h3 hL hh
        unfold mayBuns
        by_cases b1 : hBun k = true ∧ mayB b ≠ 0
        · rw [if_pos b1, if_pos b1, if_pos b1.2]
        · rw [if_neg b1, if_neg b1]
          by_cases b2 : hBun k = false ∧ 0 < b.length
          · rw [if_pos (show (hBun k = false ∧ 0 < b.length) ∨ (hBuns k = false ∧ 0 < bs.length) from .inl b2), if_pos b2, if_pos (by decide)]
          · rw [if_neg b2]
            by_cases b3 : hBuns k = false ∧ 0 < bs.length
            · rw [if_pos (show (hBun k = false ∧ 0 < b.length) ∨ (hBuns k = false ∧ 0 < bs.length) from .inr b3), if_pos b3]; rfl
            · have b3' : ¬ ((hBun k = false ∧ 0 < b.length) ∨ (hBuns k = false ∧ 0 < bs.length)) := fun h => h.elim b2 b3
              rw [if_neg b3', if_neg b3]
              by_cases b4 : bs.length > 512
              · rw [if_pos b4, if_pos b4]; rfl
              · rw [if_neg b4, if_neg b4]
                by_cases b5 : mayBs bs ≠ 0
                · rw [if_pos b5, if_pos b5, if_pos b5]
                · rw [if_neg b5, if_neg b5]
                  by_cases p3 : e2 ≠ 0
                  · rw [if_pos p3, if_pos p3, if_pos p3]
                  · rw [if_neg p3, if_neg p3]
      · rw [if_pos c3, if_pos (hh.2 fun h => c3 h.2.2)]
    · rw [if_pos c2, if_pos (hh.2 fun h => c2 h.2.1)]
  · rw [if_pos c1, if_pos (hh.2 fun h => c1 h.1)]
set_option maxHeartbeats 8000000 in
theorem c16S (k f v s : Int) (d : Nat → By) (b : List By) (bs : List (List By)) (p : List Msg) (q : List (Msg × List Msg)) (key : Int) (of : Nat → By) (IP : ∀ m ∈ p, RAt m) (IQ : ∀ x ∈ q, RAt x.1 ∧ ∀ m ∈ x.2, RAt m) : RAt (.mk k f v s d b bs p q key of) := by
  intro l h hm K hK
  rw [may_eq] at hK
  have hm0 := hm
  rw [MsgH] at hm
  obtain ⟨sb, sbs, kp, wp, fp, kq, wq, fq, hl, h1, h2, h3, h4, h5, h6⟩ := hm
  obtain ⟨kb, wb, rfl, hkb⟩ := h1
  obtain ⟨kbs, wbs, fb, rfl, hkbs, hfb⟩ := h2
  unfold dig32 at hl
  subst hl
  refine callP_good fun hgood => ?_
  obtain ⟨W, hW⟩ : ∃ W, W = mayLs k bs p q := ⟨_, rfl⟩
  rw [← hW] at hK
  have drop : ∀ (H1 x : List Chunk) e, H1 = h ++ x → (if ¬ (1 ≤ k ∧ k ≤ 9) then 1 else if ¬ okFrom k f = true then 1 else if ¬ (okNum (hView k) v = true ∧ okNum (hSeq k) s = true ∧ (hDig k || zero32 d) = true) then 1 else
    if hBun k = true ∧ mayB b ≠ 0 then mayB b else if hBun k = false ∧ 0 < b.length then 1 else if W ≠ 0 then W else if k = 1 ∧ (key ≠ 0 ∨ zero32 of = false) then 1 else 0) = e → IntoR h.length (.int .i64 e) H1 K := fun H1 x e hH he => by
    rw [he] at hK
    rw [hH]
    exact intoR_drop hgood trivial hK
  obtain ⟨HH, hHH⟩ : ∃ HH : List Chunk → List Chunk → Prop, ∀ H1 x, HH H1 x ↔ (H1 = h ++ x ∧ lookH H1 h.length = (Chunk.cells true [.int .i64 k, .int .i64 f, .int .i64 v, .int .i64 s, .fam 32 1 fun i => .int .u8 (nat (d i)), .osl kb 0 0 1 b.length, .osl kbs 0 0 1 bs.length, .osl kp 0 0 73 p.length, .osl kq 0 0 74 q.length, .int .i64 key, .fam 32 1 fun i => .int .u8 (nat (of i))]) ∧ lookH H1 (h.length + 1) = (Chunk.cells true [.bool (hView k), .bool (hSeq k), .bool (hDig k), .bool (hBun k), .bool (hBuns k), .bool (hProof k), .bool (hPrep k)])) := ⟨_, fun _ _ => Iff.rfl⟩
  obtain ⟨N1, hN1⟩ : ∃ N : Prop, N ↔ (1 ≤ k ∧ k ≤ 9) := ⟨_, Iff.rfl⟩
  refine callP_of_code tabOk Try.func16 (by kernel_rfl) rfl (Nat.le_of_ble_eq_true rfl) ?_
  rw [Try.ntmps16]
  refine codeP_seq (pl := np) tabOk follows_mixed (by kernel_rfl) _ ?_ (fun s h => h)
  simp -implicitDefEqProofs (maxSteps := 1000000) (disch := omega) only [↓vcB,↓gd,↓opP,↓qv,↓ef,↓bslS,↓stS,↓mkS,↓rangeS,↓nextS,↓entryS,↓delS,↓mupS,↓appS,↓s2bS,↓resS,evB,Sx.look,slot,↓lkL,putS,putO,argsL,↓reduceIte,ofV,of1,lookH,putH,List.replicate,List.append,convS,fldA,nthT,idxA,idxS,fldS,oslN,bnd,slS,unS,valI,lenS,lookS,takeC,psB,asRow,csB,rdF,Ent.row,ldS,sz,szL,wrF,bldF,plT,bldS,srcS,nilS,nilEq,mapC,binH,binS2,structS,eqL,eqF,binS,arrS,isI,tupS,stor,storL,Value.oneCell',minS,maxS,capS,Nat.reduceAdd,Nat.reduceSub,Nat.reduceMul,Nat.reduceLT,Nat.reduceLeDiff,Nat.reduceEqDiff,Nat.reduceBEq,Int.reduceToNat,Int.reduceNeg,if_true,if_false,reduceIte,stays,inL,same1,qn,ldN,convN,lenN,cond_true,cond_false,implies_true,Int.reduceEq,Int.reduceNe,Int.reduceLE,Int.reduceLT,forall_eq_or_imp,forall_eq,ne_eq,reduceCtorEq,notInt,numB,tabB,Array.reduceGetElem?,upG,up,nth,lay,rcB,rnm,rnmL,wrB,pcB,res16,Option.isNone,lhB,liB]
  repeat (refine ⟨by omega, ?_⟩)
  refine into_refl ?_
  refine codeP_seq (pl := np) tabOk follows_mixed (by kernel_rfl) (fun st => ∃ (j : Nat → Value), N1 ∧ st = ⟨⟨116, [(1, .ptr h.length 0), (2, .int .i64 0)], j⟩, h ++ [Chunk.cells true [.int .i64 k, .int .i64 f, .int .i64 v, .int .i64 s, .fam 32 1 fun i => .int .u8 (nat (d i)), .osl kb 0 0 1 b.length, .osl kbs 0 0 1 bs.length, .osl kp 0 0 73 p.length, .osl kq 0 0 74 q.length, .int .i64 key, .fam 32 1 fun i => .int .u8 (nat (of i))]], []⟩) ?_ ?_
  · by_cases c1 : k < 1
    · have z1 : decide (k < 1) = true := decide_eq_true c1
      have hd := drop (h ++ [Chunk.cells true [.int .i64 k, .int .i64 f, .int .i64 v, .int .i64 s, .fam 32 1 fun i => .int .u8 (nat (d i)), .osl kb 0 0 1 b.length, .osl kbs 0 0 1 bs.length, .osl kp 0 0 73 p.length, .osl kq 0 0 74 q.length, .int .i64 key, .fam 32 1 fun i => .int .u8 (nat (of i))]]) _ 1 rfl (by rw [if_pos]; omega)
      simp -implicitDefEqProofs (maxSteps := 1000000) (disch := omega) only [↓vcB,↓gd,↓opP,↓qv,↓ef,↓bslS,↓stS,↓mkS,↓rangeS,↓nextS,↓entryS,↓delS,↓mupS,↓appS,↓s2bS,↓resS,evB,Sx.look,slot,↓lkL,putS,putO,argsL,↓reduceIte,ofV,of1,lookH,putH,List.replicate,List.append,convS,fldA,nthT,idxA,idxS,fldS,oslN,bnd,slS,unS,valI,lenS,lookS,takeC,psB,asRow,csB,rdF,Ent.row,ldS,sz,szL,wrF,bldF,plT,bldS,srcS,nilS,nilEq,mapC,binH,binS2,structS,eqL,eqF,binS,arrS,isI,tupS,stor,storL,Value.oneCell',minS,maxS,capS,Nat.reduceAdd,Nat.reduceSub,Nat.reduceMul,Nat.reduceLT,Nat.reduceLeDiff,Nat.reduceEqDiff,Nat.reduceBEq,Int.reduceToNat,Int.reduceNeg,if_true,if_false,reduceIte,stays,inL,same1,qn,ldN,convN,lenN,cond_true,cond_false,implies_true,Int.reduceEq,Int.reduceNe,Int.reduceLE,Int.reduceLT,forall_eq_or_imp,forall_eq,ne_eq,reduceCtorEq,notInt,numB,tabB,Array.reduceGetElem?,upG,up,nth,lay,rcB,rnm,rnmL,wrB,pcB,res16,Option.isNone,lhB,z1,liB]
      repeat (refine ⟨by omega, ?_⟩)
      exact hd
    · have z1 : decide (k < 1) = false := decide_eq_false c1
      by_cases c2 : k > 9
      · have z2 : decide (k > 9) = true := decide_eq_true c2
        have hd := drop (h ++ [Chunk.cells true [.int .i64 k, .int .i64 f, .int .i64 v, .int .i64 s, .fam 32 1 fun i => .int .u8 (nat (d i)), .osl kb 0 0 1 b.length, .osl kbs 0 0 1 bs.length, .osl kp 0 0 73 p.length, .osl kq 0 0 74 q.length, .int .i64 key, .fam 32 1 fun i => .int .u8 (nat (of i))]]) _ 1 rfl (by rw [if_pos]; omega)
        simp -implicitDefEqProofs (maxSteps := 1000000) (disch := omega) only [↓vcB,↓gd,↓opP,↓qv,↓ef,↓bslS,↓stS,↓mkS,↓rangeS,↓nextS,↓entryS,↓delS,↓mupS,↓appS,↓s2bS,↓resS,evB,Sx.look,slot,↓lkL,putS,putO,argsL,↓reduceIte,ofV,of1,lookH,putH,List.replicate,List.append,convS,fldA,nthT,idxA,idxS,fldS,oslN,bnd,slS,unS,valI,lenS,lookS,takeC,psB,asRow,csB,rdF,Ent.row,ldS,sz,szL,wrF,bldF,plT,bldS,srcS,nilS,nilEq,mapC,binH,binS2,structS,eqL,eqF,binS,arrS,isI,tupS,stor,storL,Value.oneCell',minS,maxS,capS,Nat.reduceAdd,Nat.reduceSub,Nat.reduceMul,Nat.reduceLT,Nat.reduceLeDiff,Nat.reduceEqDiff,Nat.reduceBEq,Int.reduceToNat,Int.reduceNeg,if_true,if_false,reduceIte,stays,inL,same1,qn,ldN,convN,lenN,cond_true,cond_false,implies_true,Int.reduceEq,Int.reduceNe,Int.reduceLE,Int.reduceLT,forall_eq_or_imp,forall_eq,ne_eq,reduceCtorEq,notInt,numB,tabB,Array.reduceGetElem?,upG,up,nth,lay,rcB,rnm,rnmL,wrB,pcB,res16,Option.isNone,lhB,z1,z2,liB]
        repeat (refine ⟨by omega, ?_⟩)
        exact hd
      · have z2 : decide (k > 9) = false := decide_eq_false c2
        simp -implicitDefEqProofs (maxSteps := 1000000) (disch := omega) only [↓vcB,↓gd,↓opP,↓qv,↓ef,↓bslS,↓stS,↓mkS,↓rangeS,↓nextS,↓entryS,↓delS,↓mupS,↓appS,↓s2bS,↓resS,evB,Sx.look,slot,↓lkL,putS,putO,argsL,↓reduceIte,ofV,of1,lookH,putH,List.replicate,List.append,convS,fldA,nthT,idxA,idxS,fldS,oslN,bnd,slS,unS,valI,lenS,lookS,takeC,psB,asRow,csB,rdF,Ent.row,ldS,sz,szL,wrF,bldF,plT,bldS,srcS,nilS,nilEq,mapC,binH,binS2,structS,eqL,eqF,binS,arrS,isI,tupS,stor,storL,Value.oneCell',minS,maxS,capS,Nat.reduceAdd,Nat.reduceSub,Nat.reduceMul,Nat.reduceLT,Nat.reduceLeDiff,Nat.reduceEqDiff,Nat.reduceBEq,Int.reduceToNat,Int.reduceNeg,if_true,if_false,reduceIte,stays,inL,same1,qn,ldN,convN,lenN,cond_true,cond_false,implies_true,Int.reduceEq,Int.reduceNe,Int.reduceLE,Int.reduceLT,forall_eq_or_imp,forall_eq,ne_eq,reduceCtorEq,notInt,numB,tabB,Array.reduceGetElem?,upG,up,nth,lay,rcB,rnm,rnmL,wrB,pcB,res16,Option.isNone,lhB,z1,z2,liB]
        repeat (refine ⟨by omega, ?_⟩)
        exact into_keep [(1, .ptr h.length 0), (2, .int .i64 0)] (by simp [sameT, slot, lkL]) fun j => ⟨j, hN1.2 (by omega), rfl⟩
  rintro _ ⟨j0, hn1, rfl⟩
  have n1 := hN1.1 hn1
  have i1 : ¬ ¬ (1 ≤ k ∧ k ≤ 9) := fun h => h n1
  refine codeP_seq (pl := np) tabOk follows_mixed (by kernel_rfl) (fun st => ∃ (H1 x : List Chunk) (j : Nat → Value), HH H1 x ∧ True ∧ st = ⟨⟨116, [(1, .ptr h.length 0), (2, .int .i64 0), (3, .ptr (h.length + 1) 0)], j⟩, H1, []⟩) ?_ ?_
  · simp -implicitDefEqProofs (maxSteps := 1000000) (disch := omega) only [↓vcB,↓gd,↓opP,↓qv,↓ef,↓bslS,↓stS,↓mkS,↓rangeS,↓nextS,↓entryS,↓delS,↓mupS,↓appS,↓s2bS,↓resS,evB,Sx.look,slot,↓lkL,putS,putO,argsL,↓reduceIte,ofV,of1,lookH,putH,List.replicate,List.append,convS,fldA,nthT,idxA,idxS,fldS,oslN,bnd,slS,unS,valI,lenS,lookS,takeC,psB,asRow,csB,rdF,Ent.row,ldS,sz,szL,wrF,bldF,plT,bldS,srcS,nilS,nilEq,mapC,binH,binS2,structS,eqL,eqF,binS,arrS,isI,tupS,stor,storL,Value.oneCell',minS,maxS,capS,Nat.reduceAdd,Nat.reduceSub,Nat.reduceMul,Nat.reduceLT,Nat.reduceLeDiff,Nat.reduceEqDiff,Nat.reduceBEq,Int.reduceToNat,Int.reduceNeg,if_true,if_false,reduceIte,stays,inL,same1,qn,ldN,convN,lenN,cond_true,cond_false,implies_true,Int.reduceEq,Int.reduceNe,Int.reduceLE,Int.reduceLT,forall_eq_or_imp,forall_eq,ne_eq,reduceCtorEq,notInt,numB,tabB,Array.reduceGetElem?,upG,up,nth,lay,rcB,rnm,rnmL,wrB,pcB,res16,Option.isNone,lhB,liB]
    repeat (refine ⟨by omega, ?_⟩)
    refine c59 k n1 _ _ ?_
    unfold hasR
    simp -implicitDefEqProofs (maxSteps := 1000000) (disch := omega) only [↓vcB,↓gd,↓opP,↓qv,↓ef,↓bslS,↓stS,↓mkS,↓rangeS,↓nextS,↓entryS,↓delS,↓mupS,↓appS,↓s2bS,↓resS,evB,Sx.look,slot,↓lkL,putS,putO,argsL,↓reduceIte,ofV,of1,lookH,putH,List.replicate,List.append,convS,fldA,nthT,idxA,idxS,fldS,oslN,bnd,slS,unS,valI,lenS,lookS,takeC,psB,asRow,csB,rdF,Ent.row,ldS,sz,szL,wrF,bldF,plT,bldS,srcS,nilS,nilEq,mapC,binH,binS2,structS,eqL,eqF,binS,arrS,isI,tupS,stor,storL,Value.oneCell',minS,maxS,capS,Nat.reduceAdd,Nat.reduceSub,Nat.reduceMul,Nat.reduceLT,Nat.reduceLeDiff,Nat.reduceEqDiff,Nat.reduceBEq,Int.reduceToNat,Int.reduceNeg,if_true,if_false,reduceIte,stays,inL,same1,qn,ldN,convN,lenN,cond_true,cond_false,implies_true,Int.reduceEq,Int.reduceNe,Int.reduceLE,Int.reduceLT,forall_eq_or_imp,forall_eq,ne_eq,reduceCtorEq,notInt,numB,tabB,Array.reduceGetElem?,upG,up,nth,lay,rcB,rnm,rnmL,wrB,pcB,res16,Option.isNone,lhB,liB]
    repeat (refine ⟨by omega, ?_⟩)
    have hb : HH (h ++ [Chunk.cells true [.int .i64 k, .int .i64 f, .int .i64 v, .int .i64 s, .fam 32 1 fun i => .int .u8 (nat (d i)), .osl kb 0 0 1 b.length, .osl kbs 0 0 1 bs.length, .osl kp 0 0 73 p.length, .osl kq 0 0 74 q.length, .int .i64 key, .fam 32 1 fun i => .int .u8 (nat (of i))], Chunk.cells true [.bool (hView k), .bool (hSeq k), .bool (hDig k), .bool (hBun k), .bool (hBuns k), .bool (hProof k), .bool (hPrep k)]]) [Chunk.cells true [.int .i64 k, .int .i64 f, .int .i64 v, .int .i64 s, .fam 32 1 fun i => .int .u8 (nat (d i)), .osl kb 0 0 1 b.length, .osl kbs 0 0 1 bs.length, .osl kp 0 0 73 p.length, .osl kq 0 0 74 q.length, .int .i64 key, .fam 32 1 fun i => .int .u8 (nat (of i))], Chunk.cells true [.bool (hView k), .bool (hSeq k), .bool (hDig k), .bool (hBun k), .bool (hBuns k), .bool (hProof k), .bool (hPrep k)]] := (hHH _ _).2 ⟨rfl, lookH_app _ 0 _, lookH_app _ 1 _⟩
    exact into_keep [(1, .ptr h.length 0), (2, .int .i64 0), (3, .ptr (h.length + 1) 0)] (by simp [sameT, slot, lkL]) fun j => ⟨_, _, j, hb, rfl⟩
  rintro _ ⟨H1, x, j1, hhh, _, rfl⟩
  obtain ⟨hH1, hx, hy⟩ := (hHH _ _).1 hhh
  obtain ⟨N2, hN2⟩ : ∃ N : Prop, N ↔ (okFrom k f = true) := ⟨_, Iff.rfl⟩
  refine codeP_seq (pl := np) tabOk follows_mixed (by kernel_rfl) (fun st => ∃ (H1 x : List Chunk) (j : Nat → Value), HH H1 x ∧ N2 ∧ st = ⟨⟨116, [(1, .ptr h.length 0), (2, .int .i64 0), (3, .ptr (h.length + 1) 0)], j⟩, H1, []⟩) ?_ ?_
  · have bad : ¬ okFrom k f = true → IntoR h.length (.int .i64 1) H1 K := fun c => drop H1 x 1 hH1 (by rw [if_neg i1, if_pos c])
    by_cases c1 : k = 1
    · have z1 : (k == 1) = true := beq_iff_eq.2 c1
      have z2 : (k != 1) = false := by rw [c1]; rfl
      by_cases c2 : f = -1
      · have z3 : (f != -1) = false := by rw [c2]; rfl
        simp -implicitDefEqProofs (maxSteps := 1000000) (disch := omega) only [↓vcB,↓gd,↓opP,↓qv,↓ef,↓bslS,↓stS,↓mkS,↓rangeS,↓nextS,↓entryS,↓delS,↓mupS,↓appS,↓s2bS,↓resS,evB,Sx.look,slot,↓lkL,putS,putO,argsL,↓reduceIte,ofV,of1,lookH,putH,List.replicate,List.append,convS,fldA,nthT,idxA,idxS,fldS,oslN,bnd,slS,unS,valI,lenS,lookS,takeC,psB,asRow,csB,rdF,Ent.row,ldS,sz,szL,wrF,bldF,plT,bldS,srcS,nilS,nilEq,mapC,binH,binS2,structS,eqL,eqF,binS,arrS,isI,tupS,stor,storL,Value.oneCell',minS,maxS,capS,Nat.reduceAdd,Nat.reduceSub,Nat.reduceMul,Nat.reduceLT,Nat.reduceLeDiff,Nat.reduceEqDiff,Nat.reduceBEq,Int.reduceToNat,Int.reduceNeg,if_true,if_false,reduceIte,stays,inL,same1,qn,ldN,convN,lenN,cond_true,cond_false,implies_true,Int.reduceEq,Int.reduceNe,Int.reduceLE,Int.reduceLT,forall_eq_or_imp,forall_eq,ne_eq,reduceCtorEq,notInt,numB,tabB,Array.reduceGetElem?,upG,up,nth,lay,rcB,rnm,rnmL,wrB,pcB,res16,Option.isNone,lhB,hx,hy,z1,z2,z3,liB]
        repeat (refine ⟨by omega, ?_⟩)
        exact into_keep [(1, .ptr h.length 0), (2, .int .i64 0), (3, .ptr (h.length + 1) 0)] (by simp [sameT, slot, lkL]) fun j => ⟨H1, x, j, (hHH _ _).2 ⟨hH1, hx, hy⟩, hN2.2 (by unfold okFrom; rw [if_pos c1, c2]; rfl), rfl⟩
      · have z3 : (f != -1) = true := bne_iff_ne.2 c2
        simp -implicitDefEqProofs (maxSteps := 1000000) (disch := omega) only [↓vcB,↓gd,↓opP,↓qv,↓ef,↓bslS,↓stS,↓mkS,↓rangeS,↓nextS,↓entryS,↓delS,↓mupS,↓appS,↓s2bS,↓resS,evB,Sx.look,slot,↓lkL,putS,putO,argsL,↓reduceIte,ofV,of1,lookH,putH,List.replicate,List.append,convS,fldA,nthT,idxA,idxS,fldS,oslN,bnd,slS,unS,valI,lenS,lookS,takeC,psB,asRow,csB,rdF,Ent.row,ldS,sz,szL,wrF,bldF,plT,bldS,srcS,nilS,nilEq,mapC,binH,binS2,structS,eqL,eqF,binS,arrS,isI,tupS,stor,storL,Value.oneCell',minS,maxS,capS,Nat.reduceAdd,Nat.reduceSub,Nat.reduceMul,Nat.reduceLT,Nat.reduceLeDiff,Nat.reduceEqDiff,Nat.reduceBEq,Int.reduceToNat,Int.reduceNeg,if_true,if_false,reduceIte,stays,inL,same1,qn,ldN,convN,lenN,cond_true,cond_false,implies_true,Int.reduceEq,Int.reduceNe,Int.reduceLE,Int.reduceLT,forall_eq_or_imp,forall_eq,ne_eq,reduceCtorEq,notInt,numB,tabB,Array.reduceGetElem?,upG,up,nth,lay,rcB,rnm,rnmL,wrB,pcB,res16,Option.isNone,lhB,hx,hy,z1,z2,z3,liB]
        repeat (refine ⟨by omega, ?_⟩)
        exact bad (by unfold okFrom; rw [if_pos c1, beq_eq_false_iff_ne.2 c2]; decide)
    · have z1 : (k == 1) = false := beq_eq_false_iff_ne.2 c1
      have z2 : (k != 1) = true := bne_iff_ne.2 c1
      by_cases c2 : f < 0
      · have z3 : decide (f < 0) = true := decide_eq_true c2
        simp -implicitDefEqProofs (maxSteps := 1000000) (disch := omega) only [↓vcB,↓gd,↓opP,↓qv,↓ef,↓bslS,↓stS,↓mkS,↓rangeS,↓nextS,↓entryS,↓delS,↓mupS,↓appS,↓s2bS,↓resS,evB,Sx.look,slot,↓lkL,putS,putO,argsL,↓reduceIte,ofV,of1,lookH,putH,List.replicate,List.append,convS,fldA,nthT,idxA,idxS,fldS,oslN,bnd,slS,unS,valI,lenS,lookS,takeC,psB,asRow,csB,rdF,Ent.row,ldS,sz,szL,wrF,bldF,plT,bldS,srcS,nilS,nilEq,mapC,binH,binS2,structS,eqL,eqF,binS,arrS,isI,tupS,stor,storL,Value.oneCell',minS,maxS,capS,Nat.reduceAdd,Nat.reduceSub,Nat.reduceMul,Nat.reduceLT,Nat.reduceLeDiff,Nat.reduceEqDiff,Nat.reduceBEq,Int.reduceToNat,Int.reduceNeg,if_true,if_false,reduceIte,stays,inL,same1,qn,ldN,convN,lenN,cond_true,cond_false,implies_true,Int.reduceEq,Int.reduceNe,Int.reduceLE,Int.reduceLT,forall_eq_or_imp,forall_eq,ne_eq,reduceCtorEq,notInt,numB,tabB,Array.reduceGetElem?,upG,up,nth,lay,rcB,rnm,rnmL,wrB,pcB,res16,Option.isNone,lhB,hx,hy,z1,z2,z3,liB]
        repeat (refine ⟨by omega, ?_⟩)
        exact bad (by unfold okFrom; rw [if_neg c1, decide_eq_false (show ¬ 0 ≤ f by omega)]; simp)
      · have z3 : decide (f < 0) = false := decide_eq_false c2
        by_cases c3 : f > 63
        · have z4 : decide (f > 63) = true := decide_eq_true c3
          simp -implicitDefEqProofs (maxSteps := 1000000) (disch := omega) only [↓vcB,↓gd,↓opP,↓qv,↓ef,↓bslS,↓stS,↓mkS,↓rangeS,↓nextS,↓entryS,↓delS,↓mupS,↓appS,↓s2bS,↓resS,evB,Sx.look,slot,↓lkL,putS,putO,argsL,↓reduceIte,ofV,of1,lookH,putH,List.replicate,List.append,convS,fldA,nthT,idxA,idxS,fldS,oslN,bnd,slS,unS,valI,lenS,lookS,takeC,psB,asRow,csB,rdF,Ent.row,ldS,sz,szL,wrF,bldF,plT,bldS,srcS,nilS,nilEq,mapC,binH,binS2,structS,eqL,eqF,binS,arrS,isI,tupS,stor,storL,Value.oneCell',minS,maxS,capS,Nat.reduceAdd,Nat.reduceSub,Nat.reduceMul,Nat.reduceLT,Nat.reduceLeDiff,Nat.reduceEqDiff,Nat.reduceBEq,Int.reduceToNat,Int.reduceNeg,if_true,if_false,reduceIte,stays,inL,same1,qn,ldN,convN,lenN,cond_true,cond_false,implies_true,Int.reduceEq,Int.reduceNe,Int.reduceLE,Int.reduceLT,forall_eq_or_imp,forall_eq,ne_eq,reduceCtorEq,notInt,numB,tabB,Array.reduceGetElem?,upG,up,nth,lay,rcB,rnm,rnmL,wrB,pcB,res16,Option.isNone,lhB,hx,hy,z1,z2,z3,z4,liB]
          repeat (refine ⟨by omega, ?_⟩)
          exact bad (by unfold okFrom; rw [if_neg c1, decide_eq_false (show ¬ f ≤ 63 by omega)]; simp)
        · have z4 : decide (f > 63) = false := decide_eq_false c3
          simp -implicitDefEqProofs (maxSteps := 1000000) (disch := omega) only [↓vcB,↓gd,↓opP,↓qv,↓ef,↓bslS,↓stS,↓mkS,↓rangeS,↓nextS,↓entryS,↓delS,↓mupS,↓appS,↓s2bS,↓resS,evB,Sx.look,slot,↓lkL,putS,putO,argsL,↓reduceIte,ofV,of1,lookH,putH,List.replicate,List.append,convS,fldA,nthT,idxA,idxS,fldS,oslN,bnd,slS,unS,valI,lenS,lookS,takeC,psB,asRow,csB,rdF,Ent.row,ldS,sz,szL,wrF,bldF,plT,bldS,srcS,nilS,nilEq,mapC,binH,binS2,structS,eqL,eqF,binS,arrS,isI,tupS,stor,storL,Value.oneCell',minS,maxS,capS,Nat.reduceAdd,Nat.reduceSub,Nat.reduceMul,Nat.reduceLT,Nat.reduceLeDiff,Nat.reduceEqDiff,Nat.reduceBEq,Int.reduceToNat,Int.reduceNeg,if_true,if_false,reduceIte,stays,inL,same1,qn,ldN,convN,lenN,cond_true,cond_false,implies_true,Int.reduceEq,Int.reduceNe,Int.reduceLE,Int.reduceLT,forall_eq_or_imp,forall_eq,ne_eq,reduceCtorEq,notInt,numB,tabB,Array.reduceGetElem?,upG,up,nth,lay,rcB,rnm,rnmL,wrB,pcB,res16,Option.isNone,lhB,hx,hy,z1,z2,z3,z4,liB]
          repeat (refine ⟨by omega, ?_⟩)
          exact into_keep [(1, .ptr h.length 0), (2, .int .i64 0), (3, .ptr (h.length + 1) 0)] (by simp [sameT, slot, lkL]) fun j => ⟨H1, x, j, (hHH _ _).2 ⟨hH1, hx, hy⟩, hN2.2 (by unfold okFrom; rw [if_neg c1, decide_eq_true (show 0 ≤ f by omega), decide_eq_true (show f ≤ 63 by omega)]; rfl), rfl⟩
  rintro _ ⟨H1, x, j2, hhh, hn2, rfl⟩
  obtain ⟨hH1, hx, hy⟩ := (hHH _ _).1 hhh
  have hE : Ext (fun _ => False) h H1 := by rw [hH1]; exact (Ext.refl _ _).app _
  have n2 := hN2.1 hn2
  have i2 : ¬ ¬ okFrom k f = true := fun h => h n2
  obtain ⟨N3, hN3⟩ : ∃ N : Prop, N ↔ (okNum (hView k) v = true ∧ okNum (hSeq k) s = true ∧ (hDig k || zero32 d) = true) := ⟨_, Iff.rfl⟩
  refine codeP_seq (pl := np) tabOk follows_mixed (by kernel_rfl) (fun st => ∃ (H1 x : List Chunk) (j : Nat → Value), HH H1 x ∧ N3 ∧ st = ⟨⟨116, [(1, .ptr h.length 0), (2, .int .i64 0), (3, .ptr (h.length + 1) 0)], j⟩, H1, []⟩) ?_ ?_
  · have bad : ¬ (okNum (hView k) v = true ∧ okNum (hSeq k) s = true ∧ (hDig k || zero32 d) = true) → IntoR h.length (.int .i64 1) H1 K := fun c => drop H1 x 1 hH1 (by rw [if_neg i1, if_neg i2, if_pos c])
    by_cases va : v < 0
    · have yva : decide (v < 0) = true := decide_eq_true va
      simp -implicitDefEqProofs (maxSteps := 1000000) (disch := omega) only [↓vcB,↓gd,↓opP,↓qv,↓ef,↓bslS,↓stS,↓mkS,↓rangeS,↓nextS,↓entryS,↓delS,↓mupS,↓appS,↓s2bS,↓resS,evB,Sx.look,slot,↓lkL,putS,putO,argsL,↓reduceIte,ofV,of1,lookH,putH,List.replicate,List.append,convS,fldA,nthT,idxA,idxS,fldS,oslN,bnd,slS,unS,valI,lenS,lookS,takeC,psB,asRow,csB,rdF,Ent.row,ldS,sz,szL,wrF,bldF,plT,bldS,srcS,nilS,nilEq,mapC,binH,binS2,structS,eqL,eqF,binS,arrS,isI,tupS,stor,storL,Value.oneCell',minS,maxS,capS,Nat.reduceAdd,Nat.reduceSub,Nat.reduceMul,Nat.reduceLT,Nat.reduceLeDiff,Nat.reduceEqDiff,Nat.reduceBEq,Int.reduceToNat,Int.reduceNeg,if_true,if_false,reduceIte,stays,inL,same1,qn,ldN,convN,lenN,cond_true,cond_false,implies_true,Int.reduceEq,Int.reduceNe,Int.reduceLE,Int.reduceLT,forall_eq_or_imp,forall_eq,ne_eq,reduceCtorEq,notInt,numB,tabB,Array.reduceGetElem?,upG,up,nth,lay,rcB,rnm,rnmL,wrB,pcB,res16,Option.isNone,lhB,hx,hy,yva,liB]
      repeat (refine ⟨by omega, ?_⟩)
      exact bad fun h => by have := h.1; rw [okNum_neg va] at this; cases this
    have yva : decide (v < 0) = false := decide_eq_false va
    by_cases vb : v > 1099511627776
    · have yvb : decide (v > 1099511627776) = true := decide_eq_true vb
      simp -implicitDefEqProofs (maxSteps := 1000000) (disch := omega) only [↓vcB,↓gd,↓opP,↓qv,↓ef,↓bslS,↓stS,↓mkS,↓rangeS,↓nextS,↓entryS,↓delS,↓mupS,↓appS,↓s2bS,↓resS,evB,Sx.look,slot,↓lkL,putS,putO,argsL,↓reduceIte,ofV,of1,lookH,putH,List.replicate,List.append,convS,fldA,nthT,idxA,idxS,fldS,oslN,bnd,slS,unS,valI,lenS,lookS,takeC,psB,asRow,csB,rdF,Ent.row,ldS,sz,szL,wrF,bldF,plT,bldS,srcS,nilS,nilEq,mapC,binH,binS2,structS,eqL,eqF,binS,arrS,isI,tupS,stor,storL,Value.oneCell',minS,maxS,capS,Nat.reduceAdd,Nat.reduceSub,Nat.reduceMul,Nat.reduceLT,Nat.reduceLeDiff,Nat.reduceEqDiff,Nat.reduceBEq,Int.reduceToNat,Int.reduceNeg,if_true,if_false,reduceIte,stays,inL,same1,qn,ldN,convN,lenN,cond_true,cond_false,implies_true,Int.reduceEq,Int.reduceNe,Int.reduceLE,Int.reduceLT,forall_eq_or_imp,forall_eq,ne_eq,reduceCtorEq,notInt,numB,tabB,Array.reduceGetElem?,upG,up,nth,lay,rcB,rnm,rnmL,wrB,pcB,res16,Option.isNone,lhB,hx,hy,yva,yvb,liB]
      repeat (refine ⟨by omega, ?_⟩)
      exact bad fun h => by have := h.1; rw [okNum_big vb] at this; cases this
    have yvb : decide (v > 1099511627776) = false := decide_eq_false vb
    cases yvc : hView k with
    | true =>
      have ov : okNum (hView k) v = true := by rw [yvc]; exact okNum_t va vb
      by_cases sa : s < 0
      · have ysa : decide (s < 0) = true := decide_eq_true sa
        simp -implicitDefEqProofs (maxSteps := 1000000) (disch := omega) only [↓vcB,↓gd,↓opP,↓qv,↓ef,↓bslS,↓stS,↓mkS,↓rangeS,↓nextS,↓entryS,↓delS,↓mupS,↓appS,↓s2bS,↓resS,evB,Sx.look,slot,↓lkL,putS,putO,argsL,↓reduceIte,ofV,of1,lookH,putH,List.replicate,List.append,convS,fldA,nthT,idxA,idxS,fldS,oslN,bnd,slS,unS,valI,lenS,lookS,takeC,psB,asRow,csB,rdF,Ent.row,ldS,sz,szL,wrF,bldF,plT,bldS,srcS,nilS,nilEq,mapC,binH,binS2,structS,eqL,eqF,binS,arrS,isI,tupS,stor,storL,Value.oneCell',minS,maxS,capS,Nat.reduceAdd,Nat.reduceSub,Nat.reduceMul,Nat.reduceLT,Nat.reduceLeDiff,Nat.reduceEqDiff,Nat.reduceBEq,Int.reduceToNat,Int.reduceNeg,if_true,if_false,reduceIte,stays,inL,same1,qn,ldN,convN,lenN,cond_true,cond_false,implies_true,Int.reduceEq,Int.reduceNe,Int.reduceLE,Int.reduceLT,forall_eq_or_imp,forall_eq,ne_eq,reduceCtorEq,notInt,numB,tabB,Array.reduceGetElem?,upG,up,nth,lay,rcB,rnm,rnmL,wrB,pcB,res16,Option.isNone,lhB,hx,hy,yva,yvb,yvc,ysa,liB]
        repeat (refine ⟨by omega, ?_⟩)
        exact bad fun h => by have := h.2.1; rw [okNum_neg sa] at this; cases this
      have ysa : decide (s < 0) = false := decide_eq_false sa
      by_cases sb : s > 1099511627776
      · have ysb : decide (s > 1099511627776) = true := decide_eq_true sb
        simp -implicitDefEqProofs (maxSteps := 1000000) (disch := omega) only [↓vcB,↓gd,↓opP,↓qv,↓ef,↓bslS,↓stS,↓mkS,↓rangeS,↓nextS,↓entryS,↓delS,↓mupS,↓appS,↓s2bS,↓resS,evB,Sx.look,slot,↓lkL,putS,putO,argsL,↓reduceIte,ofV,of1,lookH,putH,List.replicate,List.append,convS,fldA,nthT,idxA,idxS,fldS,oslN,bnd,slS,unS,valI,lenS,lookS,takeC,psB,asRow,csB,rdF,Ent.row,ldS,sz,szL,wrF,bldF,plT,bldS,srcS,nilS,nilEq,mapC,binH,binS2,structS,eqL,eqF,binS,arrS,isI,tupS,stor,storL,Value.oneCell',minS,maxS,capS,Nat.reduceAdd,Nat.reduceSub,Nat.reduceMul,Nat.reduceLT,Nat.reduceLeDiff,Nat.reduceEqDiff,Nat.reduceBEq,Int.reduceToNat,Int.reduceNeg,if_true,if_false,reduceIte,stays,inL,same1,qn,ldN,convN,lenN,cond_true,cond_false,implies_true,Int.reduceEq,Int.reduceNe,Int.reduceLE,Int.reduceLT,forall_eq_or_imp,forall_eq,ne_eq,reduceCtorEq,notInt,numB,tabB,Array.reduceGetElem?,upG,up,nth,lay,rcB,rnm,rnmL,wrB,pcB,res16,Option.isNone,lhB,hx,hy,yva,yvb,yvc,ysa,ysb,liB]
        repeat (refine ⟨by omega, ?_⟩)
        exact bad fun h => by have := h.2.1; rw [okNum_big sb] at this; cases this
      have ysb : decide (s > 1099511627776) = false := decide_eq_false sb
      cases ysc : hSeq k with
      | true =>
        have os : okNum (hSeq k) s = true := by rw [ysc]; exact okNum_t sa sb
        cases z6 : hDig k with
        | true =>
          simp -implicitDefEqProofs (maxSteps := 1000000) (disch := omega) only [↓vcB,↓gd,↓opP,↓qv,↓ef,↓bslS,↓stS,↓mkS,↓rangeS,↓nextS,↓entryS,↓delS,↓mupS,↓appS,↓s2bS,↓resS,evB,Sx.look,slot,↓lkL,putS,putO,argsL,↓reduceIte,ofV,of1,lookH,putH,List.replicate,List.append,convS,fldA,nthT,idxA,idxS,fldS,oslN,bnd,slS,unS,valI,lenS,lookS,takeC,psB,asRow,csB,rdF,Ent.row,ldS,sz,szL,wrF,bldF,plT,bldS,srcS,nilS,nilEq,mapC,binH,binS2,structS,eqL,eqF,binS,arrS,isI,tupS,stor,storL,Value.oneCell',minS,maxS,capS,Nat.reduceAdd,Nat.reduceSub,Nat.reduceMul,Nat.reduceLT,Nat.reduceLeDiff,Nat.reduceEqDiff,Nat.reduceBEq,Int.reduceToNat,Int.reduceNeg,if_true,if_false,reduceIte,stays,inL,same1,qn,ldN,convN,lenN,cond_true,cond_false,implies_true,Int.reduceEq,Int.reduceNe,Int.reduceLE,Int.reduceLT,forall_eq_or_imp,forall_eq,ne_eq,reduceCtorEq,notInt,numB,tabB,Array.reduceGetElem?,upG,up,nth,lay,rcB,rnm,rnmL,wrB,pcB,res16,Option.isNone,lhB,hx,hy,yva,yvb,yvc,ysa,ysb,ysc,z6,liB]
          repeat (refine ⟨by omega, ?_⟩)
          exact into_keep [(1, .ptr h.length 0), (2, .int .i64 0), (3, .ptr (h.length + 1) 0)] (by simp [sameT, slot, lkL]) fun j => ⟨H1, x, j, (hHH _ _).2 ⟨hH1, hx, hy⟩, hN3.2 (⟨ov, os, by rw [z6]; rfl⟩), rfl⟩
        | false =>
          have z8 := famEq_zero d
          cases z7 : zero32 d with
          | true =>
            rw [z7] at z8
            simp -implicitDefEqProofs (maxSteps := 1000000) (disch := omega) only [↓vcB,↓gd,↓opP,↓qv,↓ef,↓bslS,↓stS,↓mkS,↓rangeS,↓nextS,↓entryS,↓delS,↓mupS,↓appS,↓s2bS,↓resS,evB,Sx.look,slot,↓lkL,putS,putO,argsL,↓reduceIte,ofV,of1,lookH,putH,List.replicate,List.append,convS,fldA,nthT,idxA,idxS,fldS,oslN,bnd,slS,unS,valI,lenS,lookS,takeC,psB,asRow,csB,rdF,Ent.row,ldS,sz,szL,wrF,bldF,plT,bldS,srcS,nilS,nilEq,mapC,binH,binS2,structS,eqL,eqF,binS,arrS,isI,tupS,stor,storL,Value.oneCell',minS,maxS,capS,Nat.reduceAdd,Nat.reduceSub,Nat.reduceMul,Nat.reduceLT,Nat.reduceLeDiff,Nat.reduceEqDiff,Nat.reduceBEq,Int.reduceToNat,Int.reduceNeg,if_true,if_false,reduceIte,stays,inL,same1,qn,ldN,convN,lenN,cond_true,cond_false,implies_true,Int.reduceEq,Int.reduceNe,Int.reduceLE,Int.reduceLT,forall_eq_or_imp,forall_eq,ne_eq,reduceCtorEq,notInt,numB,tabB,Array.reduceGetElem?,upG,up,nth,lay,rcB,rnm,rnmL,wrB,pcB,res16,Option.isNone,lhB,hx,hy,yva,yvb,yvc,ysa,ysb,ysc,z6,z8,liB]
            repeat (refine ⟨by omega, ?_⟩)
            exact into_keep [(1, .ptr h.length 0), (2, .int .i64 0), (3, .ptr (h.length + 1) 0)] (by simp [sameT, slot, lkL]) fun j => ⟨H1, x, j, (hHH _ _).2 ⟨hH1, hx, hy⟩, hN3.2 (⟨ov, os, by rw [z6, z7]; rfl⟩), rfl⟩
          | false =>
            rw [z7] at z8
            simp -implicitDefEqProofs (maxSteps := 1000000) (disch := omega) only [↓vcB,↓gd,↓opP,↓qv,↓ef,↓bslS,↓stS,↓mkS,↓rangeS,↓nextS,↓entryS,↓delS,↓mupS,↓appS,↓s2bS,↓resS,evB,Sx.look,slot,↓lkL,putS,putO,argsL,↓reduceIte,ofV,of1,lookH,putH,List.replicate,List.append,convS,fldA,nthT,idxA,idxS,fldS,oslN,bnd,slS,unS,valI,lenS,lookS,takeC,psB,asRow,csB,rdF,Ent.row,ldS,sz,szL,wrF,bldF,plT,bldS,srcS,nilS,nilEq,mapC,binH,binS2,structS,eqL,eqF,binS,arrS,isI,tupS,stor,storL,Value.oneCell',minS,maxS,capS,Nat.reduceAdd,Nat.reduceSub,Nat.reduceMul,Nat.reduceLT,Nat.reduceLeDiff,Nat.reduceEqDiff,Nat.reduceBEq,Int.reduceToNat,Int.reduceNeg,if_true,if_false,reduceIte,stays,inL,same1,qn,ldN,convN,lenN,cond_true,cond_false,implies_true,Int.reduceEq,Int.reduceNe,Int.reduceLE,Int.reduceLT,forall_eq_or_imp,forall_eq,ne_eq,reduceCtorEq,notInt,numB,tabB,Array.reduceGetElem?,upG,up,nth,lay,rcB,rnm,rnmL,wrB,pcB,res16,Option.isNone,lhB,hx,hy,yva,yvb,yvc,ysa,ysb,ysc,z6,z8,liB]
            repeat (refine ⟨by omega, ?_⟩)
            exact bad fun h => by have := h.2.2; rw [z6, z7] at this; cases this
      | false =>
        by_cases sd : s = 0
        · have ysd : (s != 0) = false := by rw [sd]; rfl
          have os : okNum (hSeq k) s = true := by rw [sd]; rfl
          cases z6 : hDig k with
          | true =>
            simp -implicitDefEqProofs (maxSteps := 1000000) (disch := omega) only [↓vcB,↓gd,↓opP,↓qv,↓ef,↓bslS,↓stS,↓mkS,↓rangeS,↓nextS,↓entryS,↓delS,↓mupS,↓appS,↓s2bS,↓resS,evB,Sx.look,slot,↓lkL,putS,putO,argsL,↓reduceIte,ofV,of1,lookH,putH,List.replicate,List.append,convS,fldA,nthT,idxA,idxS,fldS,oslN,bnd,slS,unS,valI,lenS,lookS,takeC,psB,asRow,csB,rdF,Ent.row,ldS,sz,szL,wrF,bldF,plT,bldS,srcS,nilS,nilEq,mapC,binH,binS2,structS,eqL,eqF,binS,arrS,isI,tupS,stor,storL,Value.oneCell',minS,maxS,capS,Nat.reduceAdd,Nat.reduceSub,Nat.reduceMul,Nat.reduceLT,Nat.reduceLeDiff,Nat.reduceEqDiff,Nat.reduceBEq,Int.reduceToNat,Int.reduceNeg,if_true,if_false,reduceIte,stays,inL,same1,qn,ldN,convN,lenN,cond_true,cond_false,implies_true,Int.reduceEq,Int.reduceNe,Int.reduceLE,Int.reduceLT,forall_eq_or_imp,forall_eq,ne_eq,reduceCtorEq,notInt,numB,tabB,Array.reduceGetElem?,upG,up,nth,lay,rcB,rnm,rnmL,wrB,pcB,res16,Option.isNone,lhB,hx,hy,yva,yvb,yvc,ysa,ysb,ysc,ysd,z6,liB]
            repeat (refine ⟨by omega, ?_⟩)
            exact into_keep [(1, .ptr h.length 0), (2, .int .i64 0), (3, .ptr (h.length + 1) 0)] (by simp [sameT, slot, lkL]) fun j => ⟨H1, x, j, (hHH _ _).2 ⟨hH1, hx, hy⟩, hN3.2 (⟨ov, os, by rw [z6]; rfl⟩), rfl⟩
          | false =>
            have z8 := famEq_zero d
            cases z7 : zero32 d with
            | true =>
              rw [z7] at z8
              simp -implicitDefEqProofs (maxSteps := 1000000) (disch := omega) only [↓vcB,↓gd,↓opP,↓qv,↓ef,↓bslS,↓stS,↓mkS,↓rangeS,↓nextS,↓entryS,↓delS,↓mupS,↓appS,↓s2bS,↓resS,evB,Sx.look,slot,↓lkL,putS,putO,argsL,↓reduceIte,ofV,of1,lookH,putH,List.replicate,List.append,convS,fldA,nthT,idxA,idxS,fldS,oslN,bnd,slS,unS,valI,lenS,lookS,takeC,psB,asRow,csB,rdF,Ent.row,ldS,sz,szL,wrF,bldF,plT,bldS,srcS,nilS,nilEq,mapC,binH,binS2,structS,eqL,eqF,binS,arrS,isI,tupS,stor,storL,Value.oneCell',minS,maxS,capS,Nat.reduceAdd,Nat.reduceSub,Nat.reduceMul,Nat.reduceLT,Nat.reduceLeDiff,Nat.reduceEqDiff,Nat.reduceBEq,Int.reduceToNat,Int.reduceNeg,if_true,if_false,reduceIte,stays,inL,same1,qn,ldN,convN,lenN,cond_true,cond_false,implies_true,Int.reduceEq,Int.reduceNe,Int.reduceLE,Int.reduceLT,forall_eq_or_imp,forall_eq,ne_eq,reduceCtorEq,notInt,numB,tabB,Array.reduceGetElem?,upG,up,nth,lay,rcB,rnm,rnmL,wrB,pcB,res16,Option.isNone,lhB,hx,hy,yva,yvb,yvc,ysa,ysb,ysc,ysd,z6,z8,liB]
              repeat (refine ⟨by omega, ?_⟩)
              exact into_keep [(1, .ptr h.length 0), (2, .int .i64 0), (3, .ptr (h.length + 1) 0)] (by simp [sameT, slot, lkL]) fun j => ⟨H1, x, j, (hHH _ _).2 ⟨hH1, hx, hy⟩, hN3.2 (⟨ov, os, by rw [z6, z7]; rfl⟩), rfl⟩
            | false =>
              rw [z7] at z8
              simp -implicitDefEqProofs (maxSteps := 1000000) (disch := omega) only [↓vcB,↓gd,↓opP,↓qv,↓ef,↓bslS,↓stS,↓mkS,↓rangeS,↓nextS,↓entryS,↓delS,↓mupS,↓appS,↓s2bS,↓resS,evB,Sx.look,slot,↓lkL,putS,putO,argsL,↓reduceIte,ofV,of1,lookH,putH,List.replicate,List.append,convS,fldA,nthT,idxA,idxS,fldS,oslN,bnd,slS,unS,valI,lenS,lookS,takeC,psB,asRow,csB,rdF,Ent.row,ldS,sz,szL,wrF,bldF,plT,bldS,srcS,nilS,nilEq,mapC,binH,binS2,structS,eqL,eqF,binS,arrS,isI,tupS,stor,storL,Value.oneCell',minS,maxS,capS,Nat.reduceAdd,Nat.reduceSub,Nat.reduceMul,Nat.reduceLT,Nat.reduceLeDiff,Nat.reduceEqDiff,Nat.reduceBEq,Int.reduceToNat,Int.reduceNeg,if_true,if_false,reduceIte,stays,inL,same1,qn,ldN,convN,lenN,cond_true,cond_false,implies_true,Int.reduceEq,Int.reduceNe,Int.reduceLE,Int.reduceLT,forall_eq_or_imp,forall_eq,ne_eq,reduceCtorEq,notInt,numB,tabB,Array.reduceGetElem?,upG,up,nth,lay,rcB,rnm,rnmL,wrB,pcB,res16,Option.isNone,lhB,hx,hy,yva,yvb,yvc,ysa,ysb,ysc,ysd,z6,z8,liB]
              repeat (refine ⟨by omega, ?_⟩)
              exact bad fun h => by have := h.2.2; rw [z6, z7] at this; cases this
        · have ysd : (s != 0) = true := bne_iff_ne.2 sd
          simp -implicitDefEqProofs (maxSteps := 1000000) (disch := omega) only [↓vcB,↓gd,↓opP,↓qv,↓ef,↓bslS,↓stS,↓mkS,↓rangeS,↓nextS,↓entryS,↓delS,↓mupS,↓appS,↓s2bS,↓resS,evB,Sx.look,slot,↓lkL,putS,putO,argsL,↓reduceIte,ofV,of1,lookH,putH,List.replicate,List.append,convS,fldA,nthT,idxA,idxS,fldS,oslN,bnd,slS,unS,valI,lenS,lookS,takeC,psB,asRow,csB,rdF,Ent.row,ldS,sz,szL,wrF,bldF,plT,bldS,srcS,nilS,nilEq,mapC,binH,binS2,structS,eqL,eqF,binS,arrS,isI,tupS,stor,storL,Value.oneCell',minS,maxS,capS,Nat.reduceAdd,Nat.reduceSub,Nat.reduceMul,Nat.reduceLT,Nat.reduceLeDiff,Nat.reduceEqDiff,Nat.reduceBEq,Int.reduceToNat,Int.reduceNeg,if_true,if_false,reduceIte,stays,inL,same1,qn,ldN,convN,lenN,cond_true,cond_false,implies_true,Int.reduceEq,Int.reduceNe,Int.reduceLE,Int.reduceLT,forall_eq_or_imp,forall_eq,ne_eq,reduceCtorEq,notInt,numB,tabB,Array.reduceGetElem?,upG,up,nth,lay,rcB,rnm,rnmL,wrB,pcB,res16,Option.isNone,lhB,hx,hy,yva,yvb,yvc,ysa,ysb,ysc,ysd,liB]
          repeat (refine ⟨by omega, ?_⟩)
          exact bad fun h => by have := h.2.1; rw [ysc, okNum_no sd] at this; cases this
    | false =>
      by_cases vd : v = 0
      · have yvd : (v != 0) = false := by rw [vd]; rfl
        have ov : okNum (hView k) v = true := by rw [vd]; rfl
        by_cases sa : s < 0
        · have ysa : decide (s < 0) = true := decide_eq_true sa
          simp -implicitDefEqProofs (maxSteps := 1000000) (disch := omega) only [↓vcB,↓gd,↓opP,↓qv,↓ef,↓bslS,↓stS,↓mkS,↓rangeS,↓nextS,↓entryS,↓delS,↓mupS,↓appS,↓s2bS,↓resS,evB,Sx.look,slot,↓lkL,putS,putO,argsL,↓reduceIte,ofV,of1,lookH,putH,List.replicate,List.append,convS,fldA,nthT,idxA,idxS,fldS,oslN,bnd,slS,unS,valI,lenS,lookS,takeC,psB,asRow,csB,rdF,Ent.row,ldS,sz,szL,wrF,bldF,plT,bldS,srcS,nilS,nilEq,mapC,binH,binS2,structS,eqL,eqF,binS,arrS,isI,tupS,stor,storL,Value.oneCell',minS,maxS,capS,Nat.reduceAdd,Nat.reduceSub,Nat.reduceMul,Nat.reduceLT,Nat.reduceLeDiff,Nat.reduceEqDiff,Nat.reduceBEq,Int.reduceToNat,Int.reduceNeg,if_true,if_false,reduceIte,stays,inL,same1,qn,ldN,convN,lenN,cond_true,cond_false,implies_true,Int.reduceEq,Int.reduceNe,Int.reduceLE,Int.reduceLT,forall_eq_or_imp,forall_eq,ne_eq,reduceCtorEq,notInt,numB,tabB,Array.reduceGetElem?,upG,up,nth,lay,rcB,rnm,rnmL,wrB,pcB,res16,Option.isNone,lhB,hx,hy,yva,yvb,yvc,yvd,ysa,liB]
          repeat (refine ⟨by omega, ?_⟩)
          exact bad fun h => by have := h.2.1; rw [okNum_neg sa] at this; cases this
        have ysa : decide (s < 0) = false := decide_eq_false sa
        by_cases sb : s > 1099511627776
        · have ysb : decide (s > 1099511627776) = true := decide_eq_true sb
          simp -implicitDefEqProofs (maxSteps := 1000000) (disch := omega) only [↓vcB,↓gd,↓opP,↓qv,↓ef,↓bslS,↓stS,↓mkS,↓rangeS,↓nextS,↓entryS,↓delS,↓mupS,↓appS,↓s2bS,↓resS,evB,Sx.look,slot,↓lkL,putS,putO,argsL,↓reduceIte,ofV,of1,lookH,putH,List.replicate,List.append,convS,fldA,nthT,idxA,idxS,fldS,oslN,bnd,slS,unS,valI,lenS,lookS,takeC,psB,asRow,csB,rdF,Ent.row,ldS,sz,szL,wrF,bldF,plT,bldS,srcS,nilS,nilEq,mapC,binH,binS2,structS,eqL,eqF,binS,arrS,isI,tupS,stor,storL,Value.oneCell',minS,maxS,capS,Nat.reduceAdd,Nat.reduceSub,Nat.reduceMul,Nat.reduceLT,Nat.reduceLeDiff,Nat.reduceEqDiff,Nat.reduceBEq,Int.reduceToNat,Int.reduceNeg,if_true,if_false,reduceIte,stays,inL,same1,qn,ldN,convN,lenN,cond_true,cond_false,implies_true,Int.reduceEq,Int.reduceNe,Int.reduceLE,Int.reduceLT,forall_eq_or_imp,forall_eq,ne_eq,reduceCtorEq,notInt,numB,tabB,Array.reduceGetElem?,upG,up,nth,lay,rcB,rnm,rnmL,wrB,pcB,res16,Option.isNone,lhB,hx,hy,yva,yvb,yvc,yvd,ysa,ysb,liB]
          repeat (refine ⟨by omega, ?_⟩)
          exact bad fun h => by have := h.2.1; rw [okNum_big sb] at this; cases this
        have ysb : decide (s > 1099511627776) = false := decide_eq_false sb
        cases ysc : hSeq k with
        | true =>
          have os : okNum (hSeq k) s = true := by rw [ysc]; exact okNum_t sa sb
          cases z6 : hDig k with
          | true =>
            simp -implicitDefEqProofs (maxSteps := 1000000) (disch := omega) only [↓vcB,↓gd,↓opP,↓qv,↓ef,↓bslS,↓stS,↓mkS,↓rangeS,↓nextS,↓entryS,↓delS,↓mupS,↓appS,↓s2bS,↓resS,evB,Sx.look,slot,↓lkL,putS,putO,argsL,↓reduceIte,ofV,of1,lookH,putH,List.replicate,List.append,convS,fldA,nthT,idxA,idxS,fldS,oslN,bnd,slS,unS,valI,lenS,lookS,takeC,psB,asRow,csB,rdF,Ent.row,ldS,sz,szL,wrF,bldF,plT,bldS,srcS,nilS,nilEq,mapC,binH,binS2,structS,eqL,eqF,binS,arrS,isI,tupS,stor,storL,Value.oneCell',minS,maxS,capS,Nat.reduceAdd,Nat.reduceSub,Nat.reduceMul,Nat.reduceLT,Nat.reduceLeDiff,Nat.reduceEqDiff,Nat.reduceBEq,Int.reduceToNat,Int.reduceNeg,if_true,if_false,reduceIte,stays,inL,same1,qn,ldN,convN,lenN,cond_true,cond_false,implies_true,Int.reduceEq,Int.reduceNe,Int.reduceLE,Int.reduceLT,forall_eq_or_imp,forall_eq,ne_eq,reduceCtorEq,notInt,numB,tabB,Array.reduceGetElem?,upG,up,nth,lay,rcB,rnm,rnmL,wrB,pcB,res16,Option.isNone,lhB,hx,hy,yva,yvb,yvc,yvd,ysa,ysb,ysc,z6,liB]
            repeat (refine ⟨by omega, ?_⟩)
            exact into_keep [(1, .ptr h.length 0), (2, .int .i64 0), (3, .ptr (h.length + 1) 0)] (by simp [sameT, slot, lkL]) fun j => ⟨H1, x, j, (hHH _ _).2 ⟨hH1, hx, hy⟩, hN3.2 (⟨ov, os, by rw [z6]; rfl⟩), rfl⟩
          | false =>
            have z8 := famEq_zero d
            cases z7 : zero32 d with
            | true =>
              rw [z7] at z8
              simp -implicitDefEqProofs (maxSteps := 1000000) (disch := omega) only [↓vcB,↓gd,↓opP,↓qv,↓ef,↓bslS,↓stS,↓mkS,↓rangeS,↓nextS,↓entryS,↓delS,↓mupS,↓appS,↓s2bS,↓resS,evB,Sx.look,slot,↓lkL,putS,putO,argsL,↓reduceIte,ofV,of1,lookH,putH,List.replicate,List.append,convS,fldA,nthT,idxA,idxS,fldS,oslN,bnd,slS,unS,valI,lenS,lookS,takeC,psB,asRow,csB,rdF,Ent.row,ldS,sz,szL,wrF,bldF,plT,bldS,srcS,nilS,nilEq,mapC,binH,binS2,structS,eqL,eqF,binS,arrS,isI,tupS,stor,storL,Value.oneCell',minS,maxS,capS,Nat.reduceAdd,Nat.reduceSub,Nat.reduceMul,Nat.reduceLT,Nat.reduceLeDiff,Nat.reduceEqDiff,Nat.reduceBEq,Int.reduceToNat,Int.reduceNeg,if_true,if_false,reduceIte,stays,inL,same1,qn,ldN,convN,lenN,cond_true,cond_false,implies_true,Int.reduceEq,Int.reduceNe,Int.reduceLE,Int.reduceLT,forall_eq_or_imp,forall_eq,ne_eq,reduceCtorEq,notInt,numB,tabB,Array.reduceGetElem?,upG,up,nth,lay,rcB,rnm,rnmL,wrB,pcB,res16,Option.isNone,lhB,hx,hy,yva,yvb,yvc,yvd,ysa,ysb,ysc,z6,z8,liB]
              repeat (refine ⟨by omega, ?_⟩)
              exact into_keep [(1, .ptr h.length 0), (2, .int .i64 0), (3, .ptr (h.length + 1) 0)] (by simp [sameT, slot, lkL]) fun j => ⟨H1, x, j, (hHH _ _).2 ⟨hH1, hx, hy⟩, hN3.2 (⟨ov, os, by rw [z6, z7]; rfl⟩), rfl⟩
            | false =>
              rw [z7] at z8
              simp -implicitDefEqProofs (maxSteps := 1000000) (disch := omega) only [↓vcB,↓gd,↓opP,↓qv,↓ef,↓bslS,↓stS,↓mkS,↓rangeS,↓nextS,↓entryS,↓delS,↓mupS,↓appS,↓s2bS,↓resS,evB,Sx.look,slot,↓lkL,putS,putO,argsL,↓reduceIte,ofV,of1,lookH,putH,List.replicate,List.append,convS,fldA,nthT,idxA,idxS,fldS,oslN,bnd,slS,unS,valI,lenS,lookS,takeC,psB,asRow,csB,rdF,Ent.row,ldS,sz,szL,wrF,bldF,plT,bldS,srcS,nilS,nilEq,mapC,binH,binS2,structS,eqL,eqF,binS,arrS,isI,tupS,stor,storL,Value.oneCell',minS,maxS,capS,Nat.reduceAdd,Nat.reduceSub,Nat.reduceMul,Nat.reduceLT,Nat.reduceLeDiff,Nat.reduceEqDiff,Nat.reduceBEq,Int.reduceToNat,Int.reduceNeg,if_true,if_false,reduceIte,stays,inL,same1,qn,ldN,convN,lenN,cond_true,cond_false,implies_true,Int.reduceEq,Int.reduceNe,Int.reduceLE,Int.reduceLT,forall_eq_or_imp,forall_eq,ne_eq,reduceCtorEq,notInt,numB,tabB,Array.reduceGetElem?,upG,up,nth,lay,rcB,rnm,rnmL,wrB,pcB,res16,Option.isNone,lhB,hx,hy,yva,yvb,yvc,yvd,ysa,ysb,ysc,z6,z8,liB]
              repeat (refine ⟨by omega, ?_⟩)
              exact bad fun h => by have := h.2.2; rw [z6, z7] at this; cases this
        | false =>
          by_cases sd : s = 0
          · have ysd : (s != 0) = false := by rw [sd]; rfl
            have os : okNum (hSeq k) s = true := by rw [sd]; rfl
            cases z6 : hDig k with
            | true =>
              simp -implicitDefEqProofs (maxSteps := 1000000) (disch := omega) only [↓vcB,↓gd,↓opP,↓qv,↓ef,↓bslS,↓stS,↓mkS,↓rangeS,↓nextS,↓entryS,↓delS,↓mupS,↓appS,↓s2bS,↓resS,evB,Sx.look,slot,↓lkL,putS,putO,argsL,↓reduceIte,ofV,of1,lookH,putH,List.replicate,List.append,convS,fldA,nthT,idxA,idxS,fldS,oslN,bnd,slS,unS,valI,lenS,lookS,takeC,psB,asRow,csB,rdF,Ent.row,ldS,sz,szL,wrF,bldF,plT,bldS,srcS,nilS,nilEq,mapC,binH,binS2,structS,eqL,eqF,binS,arrS,isI,tupS,stor,storL,Value.oneCell',minS,maxS,capS,Nat.reduceAdd,Nat.reduceSub,Nat.reduceMul,Nat.reduceLT,Nat.reduceLeDiff,Nat.reduceEqDiff,Nat.reduceBEq,Int.reduceToNat,Int.reduceNeg,if_true,if_false,reduceIte,stays,inL,same1,qn,ldN,convN,lenN,cond_true,cond_false,implies_true,Int.reduceEq,Int.reduceNe,Int.reduceLE,Int.reduceLT,forall_eq_or_imp,forall_eq,ne_eq,reduceCtorEq,notInt,numB,tabB,Array.reduceGetElem?,upG,up,nth,lay,rcB,rnm,rnmL,wrB,pcB,res16,Option.isNone,lhB,hx,hy,yva,yvb,yvc,yvd,ysa,ysb,ysc,ysd,z6,liB]
              repeat (refine ⟨by omega, ?_⟩)
              exact into_keep [(1, .ptr h.length 0), (2, .int .i64 0), (3, .ptr (h.length + 1) 0)] (by simp [sameT, slot, lkL]) fun j => ⟨H1, x, j, (hHH _ _).2 ⟨hH1, hx, hy⟩, hN3.2 (⟨ov, os, by rw [z6]; rfl⟩), rfl⟩
            | false =>
              have z8 := famEq_zero d
              cases z7 : zero32 d with
              | true =>
                rw [z7] at z8
                simp -implicitDefEqProofs (maxSteps := 1000000) (disch := omega) only [↓vcB,↓gd,↓opP,↓qv,↓ef,↓bslS,↓stS,↓mkS,↓rangeS,↓nextS,↓entryS,↓delS,↓mupS,↓appS,↓s2bS,↓resS,evB,Sx.look,slot,↓lkL,putS,putO,argsL,↓reduceIte,ofV,of1,lookH,putH,List.replicate,List.append,convS,fldA,nthT,idxA,idxS,fldS,oslN,bnd,slS,unS,valI,lenS,lookS,takeC,psB,asRow,csB,rdF,Ent.row,ldS,sz,szL,wrF,bldF,plT,bldS,srcS,nilS,nilEq,mapC,binH,binS2,structS,eqL,eqF,binS,arrS,isI,tupS,stor,storL,Value.oneCell',minS,maxS,capS,Nat.reduceAdd,Nat.reduceSub,Nat.reduceMul,Nat.reduceLT,Nat.reduceLeDiff,Nat.reduceEqDiff,Nat.reduceBEq,Int.reduceToNat,Int.reduceNeg,if_true,if_false,reduceIte,stays,inL,same1,qn,ldN,convN,lenN,cond_true,cond_false,implies_true,Int.reduceEq,Int.reduceNe,Int.reduceLE,Int.reduceLT,forall_eq_or_imp,forall_eq,ne_eq,reduceCtorEq,notInt,numB,tabB,Array.reduceGetElem?,upG,up,nth,lay,rcB,rnm,rnmL,wrB,pcB,res16,Option.isNone,lhB,hx,hy,yva,yvb,yvc,yvd,ysa,ysb,ysc,ysd,z6,z8,liB]
                repeat (refine ⟨by omega, ?_⟩)
                exact into_keep [(1, .ptr h.length 0), (2, .int .i64 0), (3, .ptr (h.length + 1) 0)] (by simp [sameT, slot, lkL]) fun j => ⟨H1, x, j, (hHH _ _).2 ⟨hH1, hx, hy⟩, hN3.2 (⟨ov, os, by rw [z6, z7]; rfl⟩), rfl⟩
              | false =>
                rw [z7] at z8
                simp -implicitDefEqProofs (maxSteps := 1000000) (disch := omega) only [↓vcB,↓gd,↓opP,↓qv,↓ef,↓bslS,↓stS,↓mkS,↓rangeS,↓nextS,↓entryS,↓delS,↓mupS,↓appS,↓s2bS,↓resS,evB,Sx.look,slot,↓lkL,putS,putO,argsL,↓reduceIte,ofV,of1,lookH,putH,List.replicate,List.append,convS,fldA,nthT,idxA,idxS,fldS,oslN,bnd,slS,unS,valI,lenS,lookS,takeC,psB,asRow,csB,rdF,Ent.row,ldS,sz,szL,wrF,bldF,plT,bldS,srcS,nilS,nilEq,mapC,binH,binS2,structS,eqL,eqF,binS,arrS,isI,tupS,stor,storL,Value.oneCell',minS,maxS,capS,Nat.reduceAdd,Nat.reduceSub,Nat.reduceMul,Nat.reduceLT,Nat.reduceLeDiff,Nat.reduceEqDiff,Nat.reduceBEq,Int.reduceToNat,Int.reduceNeg,if_true,if_false,reduceIte,stays,inL,same1,qn,ldN,convN,lenN,cond_true,cond_false,implies_true,Int.reduceEq,Int.reduceNe,Int.reduceLE,Int.reduceLT,forall_eq_or_imp,forall_eq,ne_eq,reduceCtorEq,notInt,numB,tabB,Array.reduceGetElem?,upG,up,nth,lay,rcB,rnm,rnmL,wrB,pcB,res16,Option.isNone,lhB,hx,hy,yva,yvb,yvc,yvd,ysa,ysb,ysc,ysd,z6,z8,liB]
                repeat (refine ⟨by omega, ?_⟩)
                exact bad fun h => by have := h.2.2; rw [z6, z7] at this; cases this
          · have ysd : (s != 0) = true := bne_iff_ne.2 sd
            simp -implicitDefEqProofs (maxSteps := 1000000) (disch := omega) only [↓vcB,↓gd,↓opP,↓qv,↓ef,↓bslS,↓stS,↓mkS,↓rangeS,↓nextS,↓entryS,↓delS,↓mupS,↓appS,↓s2bS,↓resS,evB,Sx.look,slot,↓lkL,putS,putO,argsL,↓reduceIte,ofV,of1,lookH,putH,List.replicate,List.append,convS,fldA,nthT,idxA,idxS,fldS,oslN,bnd,slS,unS,valI,lenS,lookS,takeC,psB,asRow,csB,rdF,Ent.row,ldS,sz,szL,wrF,bldF,plT,bldS,srcS,nilS,nilEq,mapC,binH,binS2,structS,eqL,eqF,binS,arrS,isI,tupS,stor,storL,Value.oneCell',minS,maxS,capS,Nat.reduceAdd,Nat.reduceSub,Nat.reduceMul,Nat.reduceLT,Nat.reduceLeDiff,Nat.reduceEqDiff,Nat.reduceBEq,Int.reduceToNat,Int.reduceNeg,if_true,if_false,reduceIte,stays,inL,same1,qn,ldN,convN,lenN,cond_true,cond_false,implies_true,Int.reduceEq,Int.reduceNe,Int.reduceLE,Int.reduceLT,forall_eq_or_imp,forall_eq,ne_eq,reduceCtorEq,notInt,numB,tabB,Array.reduceGetElem?,upG,up,nth,lay,rcB,rnm,rnmL,wrB,pcB,res16,Option.isNone,lhB,hx,hy,yva,yvb,yvc,yvd,ysa,ysb,ysc,ysd,liB]
            repeat (refine ⟨by omega, ?_⟩)
            exact bad fun h => by have := h.2.1; rw [ysc, okNum_no sd] at this; cases this
      · have yvd : (v != 0) = true := bne_iff_ne.2 vd
        simp -implicitDefEqProofs (maxSteps := 1000000) (disch := omega) only [↓vcB,↓gd,↓opP,↓qv,↓ef,↓bslS,↓stS,↓mkS,↓rangeS,↓nextS,↓entryS,↓delS,↓mupS,↓appS,↓s2bS,↓resS,evB,Sx.look,slot,↓lkL,putS,putO,argsL,↓reduceIte,ofV,of1,lookH,putH,List.replicate,List.append,convS,fldA,nthT,idxA,idxS,fldS,oslN,bnd,slS,unS,valI,lenS,lookS,takeC,psB,asRow,csB,rdF,Ent.row,ldS,sz,szL,wrF,bldF,plT,bldS,srcS,nilS,nilEq,mapC,binH,binS2,structS,eqL,eqF,binS,arrS,isI,tupS,stor,storL,Value.oneCell',minS,maxS,capS,Nat.reduceAdd,Nat.reduceSub,Nat.reduceMul,Nat.reduceLT,Nat.reduceLeDiff,Nat.reduceEqDiff,Nat.reduceBEq,Int.reduceToNat,Int.reduceNeg,if_true,if_false,reduceIte,stays,inL,same1,qn,ldN,convN,lenN,cond_true,cond_false,implies_true,Int.reduceEq,Int.reduceNe,Int.reduceLE,Int.reduceLT,forall_eq_or_imp,forall_eq,ne_eq,reduceCtorEq,notInt,numB,tabB,Array.reduceGetElem?,upG,up,nth,lay,rcB,rnm,rnmL,wrB,pcB,res16,Option.isNone,lhB,hx,hy,yva,yvb,yvc,yvd,liB]
        repeat (refine ⟨by omega, ?_⟩)
        exact bad fun h => by have := h.1; rw [yvc, okNum_no vd] at this; cases this
  rintro _ ⟨H1, x, j3, hhh, hn3, rfl⟩
  obtain ⟨hH1, hx, hy⟩ := (hHH _ _).1 hhh
  have hE : Ext (fun _ => False) h H1 := by rw [hH1]; exact (Ext.refl _ _).app _
  have n3 := hN3.1 hn3
  have i3 : ¬ ¬ (okNum (hView k) v = true ∧ okNum (hSeq k) s = true ∧ (hDig k || zero32 d) = true) := fun h => h n3
  obtain ⟨N4, hN4⟩ : ∃ N : Prop, N ↔ (¬ (hBun k = true ∧ mayB b ≠ 0) ∧ ¬ (hBun k = false ∧ 0 < b.length)) := ⟨_, Iff.rfl⟩
  refine codeP_seq (pl := np) tabOk follows_mixed (by kernel_rfl) (fun st => ∃ (H1 x : List Chunk) (j : Nat → Value), HH H1 x ∧ N4 ∧ st = ⟨⟨116, [(1, .ptr h.length 0), (2, .int .i64 0), (3, .ptr (h.length + 1) 0)], j⟩, H1, []⟩) ?_ ?_
  · cases z1 : hBun k with
    | true =>
      simp -implicitDefEqProofs (maxSteps := 1000000) (disch := omega) only [↓vcB,↓gd,↓opP,↓qv,↓ef,↓bslS,↓stS,↓mkS,↓rangeS,↓nextS,↓entryS,↓delS,↓mupS,↓appS,↓s2bS,↓resS,evB,Sx.look,slot,↓lkL,putS,putO,argsL,↓reduceIte,ofV,of1,lookH,putH,List.replicate,List.append,convS,fldA,nthT,idxA,idxS,fldS,oslN,bnd,slS,unS,valI,lenS,lookS,takeC,psB,asRow,csB,rdF,Ent.row,ldS,sz,szL,wrF,bldF,plT,bldS,srcS,nilS,nilEq,mapC,binH,binS2,structS,eqL,eqF,binS,arrS,isI,tupS,stor,storL,Value.oneCell',minS,maxS,capS,Nat.reduceAdd,Nat.reduceSub,Nat.reduceMul,Nat.reduceLT,Nat.reduceLeDiff,Nat.reduceEqDiff,Nat.reduceBEq,Int.reduceToNat,Int.reduceNeg,if_true,if_false,reduceIte,stays,inL,same1,qn,ldN,convN,lenN,cond_true,cond_false,implies_true,Int.reduceEq,Int.reduceNe,Int.reduceLE,Int.reduceLT,forall_eq_or_imp,forall_eq,ne_eq,reduceCtorEq,notInt,numB,tabB,Array.reduceGetElem?,upG,up,nth,lay,rcB,rnm,rnmL,wrB,pcB,res16,Option.isNone,lhB,hx,hy,z1,liB]
      repeat (refine ⟨by omega, ?_⟩)
      refine c60 b _ H1 ⟨kb, wb, rfl, hE.look hkb (by simp) fun h => h⟩ _ ?_
      by_cases e : mayB b = 0
      · have z2 : (mayB b != 0) = false := by rw [e]; rfl
        simp -implicitDefEqProofs (maxSteps := 1000000) (disch := omega) only [↓vcB,↓gd,↓opP,↓qv,↓ef,↓bslS,↓stS,↓mkS,↓rangeS,↓nextS,↓entryS,↓delS,↓mupS,↓appS,↓s2bS,↓resS,evB,Sx.look,slot,↓lkL,putS,putO,argsL,↓reduceIte,ofV,of1,lookH,putH,List.replicate,List.append,convS,fldA,nthT,idxA,idxS,fldS,oslN,bnd,slS,unS,valI,lenS,lookS,takeC,psB,asRow,csB,rdF,Ent.row,ldS,sz,szL,wrF,bldF,plT,bldS,srcS,nilS,nilEq,mapC,binH,binS2,structS,eqL,eqF,binS,arrS,isI,tupS,stor,storL,Value.oneCell',minS,maxS,capS,Nat.reduceAdd,Nat.reduceSub,Nat.reduceMul,Nat.reduceLT,Nat.reduceLeDiff,Nat.reduceEqDiff,Nat.reduceBEq,Int.reduceToNat,Int.reduceNeg,if_true,if_false,reduceIte,stays,inL,same1,qn,ldN,convN,lenN,cond_true,cond_false,implies_true,Int.reduceEq,Int.reduceNe,Int.reduceLE,Int.reduceLT,forall_eq_or_imp,forall_eq,ne_eq,reduceCtorEq,notInt,numB,tabB,Array.reduceGetElem?,upG,up,nth,lay,rcB,rnm,rnmL,wrB,pcB,res16,Option.isNone,lhB,hx,hy,z1,z2,liB]
        repeat (refine ⟨by omega, ?_⟩)
        exact into_keep [(1, .ptr h.length 0), (2, .int .i64 0), (3, .ptr (h.length + 1) 0)] (by simp [sameT, slot, lkL]) fun j => ⟨H1, x, j, (hHH _ _).2 ⟨hH1, hx, hy⟩, hN4.2 (⟨fun h => h.2 e, fun h => Bool.noConfusion (z1.symm.trans h.1)⟩), rfl⟩
      · have z2 : (mayB b != 0) = true := bne_iff_ne.2 e
        simp -implicitDefEqProofs (maxSteps := 1000000) (disch := omega) only [↓vcB,↓gd,↓opP,↓qv,↓ef,↓bslS,↓stS,↓mkS,↓rangeS,↓nextS,↓entryS,↓delS,↓mupS,↓appS,↓s2bS,↓resS,evB,Sx.look,slot,↓lkL,putS,putO,argsL,↓reduceIte,ofV,of1,lookH,putH,List.replicate,List.append,convS,fldA,nthT,idxA,idxS,fldS,oslN,bnd,slS,unS,valI,lenS,lookS,takeC,psB,asRow,csB,rdF,Ent.row,ldS,sz,szL,wrF,bldF,plT,bldS,srcS,nilS,nilEq,mapC,binH,binS2,structS,eqL,eqF,binS,arrS,isI,tupS,stor,storL,Value.oneCell',minS,maxS,capS,Nat.reduceAdd,Nat.reduceSub,Nat.reduceMul,Nat.reduceLT,Nat.reduceLeDiff,Nat.reduceEqDiff,Nat.reduceBEq,Int.reduceToNat,Int.reduceNeg,if_true,if_false,reduceIte,stays,inL,same1,qn,ldN,convN,lenN,cond_true,cond_false,implies_true,Int.reduceEq,Int.reduceNe,Int.reduceLE,Int.reduceLT,forall_eq_or_imp,forall_eq,ne_eq,reduceCtorEq,notInt,numB,tabB,Array.reduceGetElem?,upG,up,nth,lay,rcB,rnm,rnmL,wrB,pcB,res16,Option.isNone,lhB,hx,hy,z1,z2,liB]
        repeat (refine ⟨by omega, ?_⟩)
        exact drop H1 x _ hH1 (by rw [if_neg i1, if_neg i2, if_neg i3, if_pos ⟨z1, e⟩])
    | false =>
      by_cases e : 0 < b.length
      · have z2 : decide (((b.length : Nat) : Int) > 0) = true := decide_eq_true (by omega)
        simp -implicitDefEqProofs (maxSteps := 1000000) (disch := omega) only [↓vcB,↓gd,↓opP,↓qv,↓ef,↓bslS,↓stS,↓mkS,↓rangeS,↓nextS,↓entryS,↓delS,↓mupS,↓appS,↓s2bS,↓resS,evB,Sx.look,slot,↓lkL,putS,putO,argsL,↓reduceIte,ofV,of1,lookH,putH,List.replicate,List.append,convS,fldA,nthT,idxA,idxS,fldS,oslN,bnd,slS,unS,valI,lenS,lookS,takeC,psB,asRow,csB,rdF,Ent.row,ldS,sz,szL,wrF,bldF,plT,bldS,srcS,nilS,nilEq,mapC,binH,binS2,structS,eqL,eqF,binS,arrS,isI,tupS,stor,storL,Value.oneCell',minS,maxS,capS,Nat.reduceAdd,Nat.reduceSub,Nat.reduceMul,Nat.reduceLT,Nat.reduceLeDiff,Nat.reduceEqDiff,Nat.reduceBEq,Int.reduceToNat,Int.reduceNeg,if_true,if_false,reduceIte,stays,inL,same1,qn,ldN,convN,lenN,cond_true,cond_false,implies_true,Int.reduceEq,Int.reduceNe,Int.reduceLE,Int.reduceLT,forall_eq_or_imp,forall_eq,ne_eq,reduceCtorEq,notInt,numB,tabB,Array.reduceGetElem?,upG,up,nth,lay,rcB,rnm,rnmL,wrB,pcB,res16,Option.isNone,lhB,hx,hy,z1,z2,liB]
        repeat (refine ⟨by omega, ?_⟩)
        exact drop H1 x _ hH1 (by rw [if_neg i1, if_neg i2, if_neg i3, if_neg (fun h => Bool.noConfusion (z1.symm.trans h.1)), if_pos ⟨z1, e⟩])
      · have z2 : decide (((b.length : Nat) : Int) > 0) = false := decide_eq_false (by omega)
        simp -implicitDefEqProofs (maxSteps := 1000000) (disch := omega) only [↓vcB,↓gd,↓opP,↓qv,↓ef,↓bslS,↓stS,↓mkS,↓rangeS,↓nextS,↓entryS,↓delS,↓mupS,↓appS,↓s2bS,↓resS,evB,Sx.look,slot,↓lkL,putS,putO,argsL,↓reduceIte,ofV,of1,lookH,putH,List.replicate,List.append,convS,fldA,nthT,idxA,idxS,fldS,oslN,bnd,slS,unS,valI,lenS,lookS,takeC,psB,asRow,csB,rdF,Ent.row,ldS,sz,szL,wrF,bldF,plT,bldS,srcS,nilS,nilEq,mapC,binH,binS2,structS,eqL,eqF,binS,arrS,isI,tupS,stor,storL,Value.oneCell',minS,maxS,capS,Nat.reduceAdd,Nat.reduceSub,Nat.reduceMul,Nat.reduceLT,Nat.reduceLeDiff,Nat.reduceEqDiff,Nat.reduceBEq,Int.reduceToNat,Int.reduceNeg,if_true,if_false,reduceIte,stays,inL,same1,qn,ldN,convN,lenN,cond_true,cond_false,implies_true,Int.reduceEq,Int.reduceNe,Int.reduceLE,Int.reduceLT,forall_eq_or_imp,forall_eq,ne_eq,reduceCtorEq,notInt,numB,tabB,Array.reduceGetElem?,upG,up,nth,lay,rcB,rnm,rnmL,wrB,pcB,res16,Option.isNone,lhB,hx,hy,z1,z2,liB]
        repeat (refine ⟨by omega, ?_⟩)
        exact into_keep [(1, .ptr h.length 0), (2, .int .i64 0), (3, .ptr (h.length + 1) 0)] (by simp [sameT, slot, lkL]) fun j => ⟨H1, x, j, (hHH _ _).2 ⟨hH1, hx, hy⟩, hN4.2 (⟨fun h => Bool.noConfusion (z1.symm.trans h.1), fun h => e h.2⟩), rfl⟩
  rintro _ ⟨H1, x, j4, hhh, hn4, rfl⟩
  obtain ⟨hH1, hx, hy⟩ := (hHH _ _).1 hhh
  have hE : Ext (fun _ => False) h H1 := by rw [hH1]; exact (Ext.refl _ _).app _
  have n4 := hN4.1 hn4
  obtain ⟨N5, hN5⟩ : ∃ N : Prop, N ↔ (¬ W ≠ 0) := ⟨_, Iff.rfl⟩
  refine codeP_seq (pl := np) tabOk follows_mixed (by kernel_rfl) (fun st => ∃ (H1 x : List Chunk) (j : Nat → Value), HH H1 x ∧ N5 ∧ st = ⟨⟨116, [(1, .ptr h.length 0), (2, .int .i64 0), (3, .ptr (h.length + 1) 0)], j⟩, H1, []⟩) ?_ ?_
  · have hc := c61 k f v s d b bs p q key of IP IQ _ H1 (hm0.ext hE)
    rw [← hW] at hc
    unfold hasR at hc
    simp -implicitDefEqProofs (maxSteps := 1000000) (disch := omega) only [↓vcB,↓gd,↓opP,↓qv,↓ef,↓bslS,↓stS,↓mkS,↓rangeS,↓nextS,↓entryS,↓delS,↓mupS,↓appS,↓s2bS,↓resS,evB,Sx.look,slot,↓lkL,putS,putO,argsL,↓reduceIte,ofV,of1,lookH,putH,List.replicate,List.append,convS,fldA,nthT,idxA,idxS,fldS,oslN,bnd,slS,unS,valI,lenS,lookS,takeC,psB,asRow,csB,rdF,Ent.row,ldS,sz,szL,wrF,bldF,plT,bldS,srcS,nilS,nilEq,mapC,binH,binS2,structS,eqL,eqF,binS,arrS,isI,tupS,stor,storL,Value.oneCell',minS,maxS,capS,Nat.reduceAdd,Nat.reduceSub,Nat.reduceMul,Nat.reduceLT,Nat.reduceLeDiff,Nat.reduceEqDiff,Nat.reduceBEq,Int.reduceToNat,Int.reduceNeg,if_true,if_false,reduceIte,stays,inL,same1,qn,ldN,convN,lenN,cond_true,cond_false,implies_true,Int.reduceEq,Int.reduceNe,Int.reduceLE,Int.reduceLT,forall_eq_or_imp,forall_eq,ne_eq,reduceCtorEq,notInt,numB,tabB,Array.reduceGetElem?,upG,up,nth,lay,rcB,rnm,rnmL,wrB,pcB,res16,Option.isNone,lhB,hx,hy,liB]
    repeat (refine ⟨by omega, ?_⟩)
    refine hc _ ?_
    by_cases e : W = 0
    · have z2 : (W != 0) = false := by rw [e]; rfl
      simp -implicitDefEqProofs (maxSteps := 1000000) (disch := omega) only [↓vcB,↓gd,↓opP,↓qv,↓ef,↓bslS,↓stS,↓mkS,↓rangeS,↓nextS,↓entryS,↓delS,↓mupS,↓appS,↓s2bS,↓resS,evB,Sx.look,slot,↓lkL,putS,putO,argsL,↓reduceIte,ofV,of1,lookH,putH,List.replicate,List.append,convS,fldA,nthT,idxA,idxS,fldS,oslN,bnd,slS,unS,valI,lenS,lookS,takeC,psB,asRow,csB,rdF,Ent.row,ldS,sz,szL,wrF,bldF,plT,bldS,srcS,nilS,nilEq,mapC,binH,binS2,structS,eqL,eqF,binS,arrS,isI,tupS,stor,storL,Value.oneCell',minS,maxS,capS,Nat.reduceAdd,Nat.reduceSub,Nat.reduceMul,Nat.reduceLT,Nat.reduceLeDiff,Nat.reduceEqDiff,Nat.reduceBEq,Int.reduceToNat,Int.reduceNeg,if_true,if_false,reduceIte,stays,inL,same1,qn,ldN,convN,lenN,cond_true,cond_false,implies_true,Int.reduceEq,Int.reduceNe,Int.reduceLE,Int.reduceLT,forall_eq_or_imp,forall_eq,ne_eq,reduceCtorEq,notInt,numB,tabB,Array.reduceGetElem?,upG,up,nth,lay,rcB,rnm,rnmL,wrB,pcB,res16,Option.isNone,lhB,hx,hy,z2,liB]
      repeat (refine ⟨by omega, ?_⟩)
      exact into_keep [(1, .ptr h.length 0), (2, .int .i64 0), (3, .ptr (h.length + 1) 0)] (by simp [sameT, slot, lkL]) fun j => ⟨H1, x, j, (hHH _ _).2 ⟨hH1, hx, hy⟩, hN5.2 (fun h => h e), rfl⟩
    · have z2 : (W != 0) = true := bne_iff_ne.2 e
      simp -implicitDefEqProofs (maxSteps := 1000000) (disch := omega) only [↓vcB,↓gd,↓opP,↓qv,↓ef,↓bslS,↓stS,↓mkS,↓rangeS,↓nextS,↓entryS,↓delS,↓mupS,↓appS,↓s2bS,↓resS,evB,Sx.look,slot,↓lkL,putS,putO,argsL,↓reduceIte,ofV,of1,lookH,putH,List.replicate,List.append,convS,fldA,nthT,idxA,idxS,fldS,oslN,bnd,slS,unS,valI,lenS,lookS,takeC,psB,asRow,csB,rdF,Ent.row,ldS,sz,szL,wrF,bldF,plT,bldS,srcS,nilS,nilEq,mapC,binH,binS2,structS,eqL,eqF,binS,arrS,isI,tupS,stor,storL,Value.oneCell',minS,maxS,capS,Nat.reduceAdd,Nat.reduceSub,Nat.reduceMul,Nat.reduceLT,Nat.reduceLeDiff,Nat.reduceEqDiff,Nat.reduceBEq,Int.reduceToNat,Int.reduceNeg,if_true,if_false,reduceIte,stays,inL,same1,qn,ldN,convN,lenN,cond_true,cond_false,implies_true,Int.reduceEq,Int.reduceNe,Int.reduceLE,Int.reduceLT,forall_eq_or_imp,forall_eq,ne_eq,reduceCtorEq,notInt,numB,tabB,Array.reduceGetElem?,upG,up,nth,lay,rcB,rnm,rnmL,wrB,pcB,res16,Option.isNone,lhB,hx,hy,z2,liB]
      repeat (refine ⟨by omega, ?_⟩)
      exact drop H1 x _ hH1 (by rw [if_neg i1, if_neg i2, if_neg i3, if_neg n4.1, if_neg n4.2, if_pos e])
  rintro _ ⟨H1, x, j5, hhh, hn5, rfl⟩
  obtain ⟨hH1, hx, hy⟩ := (hHH _ _).1 hhh
  have hE : Ext (fun _ => False) h H1 := by rw [hH1]; exact (Ext.refl _ _).app _
  have n5 := hN5.1 hn5
  have fin : ∀ e, (if k = 1 ∧ (key ≠ 0 ∨ zero32 of = false) then 1 else 0) = e → IntoR h.length (.int .i64 e) H1 K := fun e he => drop H1 x e hH1 (by rw [if_neg i1, if_neg i2, if_neg i3, if_neg n4.1, if_neg n4.2, if_neg n5]; exact he)
  refine codeP_of_vc (pl := np) tabOk follows_mixed (by kernel_rfl) ?_
  by_cases c1 : k = 1
  · have z1 : (k == 1) = true := beq_iff_eq.2 c1
    have z8 := famEq_zero of
    by_cases c2 : key = 0
    · have z2 : (key == 0) = true := beq_iff_eq.2 c2
      cases z7 : zero32 of with
      | true =>
        rw [z7] at z8
        simp -implicitDefEqProofs (maxSteps := 1000000) (disch := omega) only [↓vcB,↓gd,↓opP,↓qv,↓ef,↓bslS,↓stS,↓mkS,↓rangeS,↓nextS,↓entryS,↓delS,↓mupS,↓appS,↓s2bS,↓resS,evB,Sx.look,slot,↓lkL,putS,putO,argsL,↓reduceIte,ofV,of1,lookH,putH,List.replicate,List.append,convS,fldA,nthT,idxA,idxS,fldS,oslN,bnd,slS,unS,valI,lenS,lookS,takeC,psB,asRow,csB,rdF,Ent.row,ldS,sz,szL,wrF,bldF,plT,bldS,srcS,nilS,nilEq,mapC,binH,binS2,structS,eqL,eqF,binS,arrS,isI,tupS,stor,storL,Value.oneCell',minS,maxS,capS,Nat.reduceAdd,Nat.reduceSub,Nat.reduceMul,Nat.reduceLT,Nat.reduceLeDiff,Nat.reduceEqDiff,Nat.reduceBEq,Int.reduceToNat,Int.reduceNeg,if_true,if_false,reduceIte,stays,inL,same1,qn,ldN,convN,lenN,cond_true,cond_false,implies_true,Int.reduceEq,Int.reduceNe,Int.reduceLE,Int.reduceLT,forall_eq_or_imp,forall_eq,ne_eq,reduceCtorEq,notInt,numB,tabB,Array.reduceGetElem?,upG,up,nth,lay,rcB,rnm,rnmL,wrB,pcB,res16,Option.isNone,lhB,hx,hy,z1,z2,z8,Bool.true_and,Bool.and_true,Bool.false_and,Bool.and_false,liB]
        repeat (refine ⟨by omega, ?_⟩)
        exact fin 0 (by rw [if_neg]; rintro ⟨_, h | h⟩; exact h c2; rw [z7] at h; cases h)
      | false =>
        rw [z7] at z8
        simp -implicitDefEqProofs (maxSteps := 1000000) (disch := omega) only [↓vcB,↓gd,↓opP,↓qv,↓ef,↓bslS,↓stS,↓mkS,↓rangeS,↓nextS,↓entryS,↓delS,↓mupS,↓appS,↓s2bS,↓resS,evB,Sx.look,slot,↓lkL,putS,putO,argsL,↓reduceIte,ofV,of1,lookH,putH,List.replicate,List.append,convS,fldA,nthT,idxA,idxS,fldS,oslN,bnd,slS,unS,valI,lenS,lookS,takeC,psB,asRow,csB,rdF,Ent.row,ldS,sz,szL,wrF,bldF,plT,bldS,srcS,nilS,nilEq,mapC,binH,binS2,structS,eqL,eqF,binS,arrS,isI,tupS,stor,storL,Value.oneCell',minS,maxS,capS,Nat.reduceAdd,Nat.reduceSub,Nat.reduceMul,Nat.reduceLT,Nat.reduceLeDiff,Nat.reduceEqDiff,Nat.reduceBEq,Int.reduceToNat,Int.reduceNeg,if_true,if_false,reduceIte,stays,inL,same1,qn,ldN,convN,lenN,cond_true,cond_false,implies_true,Int.reduceEq,Int.reduceNe,Int.reduceLE,Int.reduceLT,forall_eq_or_imp,forall_eq,ne_eq,reduceCtorEq,notInt,numB,tabB,Array.reduceGetElem?,upG,up,nth,lay,rcB,rnm,rnmL,wrB,pcB,res16,Option.isNone,lhB,hx,hy,z1,z2,z8,Bool.true_and,Bool.and_true,Bool.false_and,Bool.and_false,liB]
        repeat (refine ⟨by omega, ?_⟩)
        exact fin 1 (by rw [if_pos ⟨c1, .inr z7⟩])
    · have z2 : (key == 0) = false := beq_eq_false_iff_ne.2 c2
      simp -implicitDefEqProofs (maxSteps := 1000000) (disch := omega) only [↓vcB,↓gd,↓opP,↓qv,↓ef,↓bslS,↓stS,↓mkS,↓rangeS,↓nextS,↓entryS,↓delS,↓mupS,↓appS,↓s2bS,↓resS,evB,Sx.look,slot,↓lkL,putS,putO,argsL,↓reduceIte,ofV,of1,lookH,putH,List.replicate,List.append,convS,fldA,nthT,idxA,idxS,fldS,oslN,bnd,slS,unS,valI,lenS,lookS,takeC,psB,asRow,csB,rdF,Ent.row,ldS,sz,szL,wrF,bldF,plT,bldS,srcS,nilS,nilEq,mapC,binH,binS2,structS,eqL,eqF,binS,arrS,isI,tupS,stor,storL,Value.oneCell',minS,maxS,capS,Nat.reduceAdd,Nat.reduceSub,Nat.reduceMul,Nat.reduceLT,Nat.reduceLeDiff,Nat.reduceEqDiff,Nat.reduceBEq,Int.reduceToNat,Int.reduceNeg,if_true,if_false,reduceIte,stays,inL,same1,qn,ldN,convN,lenN,cond_true,cond_false,implies_true,Int.reduceEq,Int.reduceNe,Int.reduceLE,Int.reduceLT,forall_eq_or_imp,forall_eq,ne_eq,reduceCtorEq,notInt,numB,tabB,Array.reduceGetElem?,upG,up,nth,lay,rcB,rnm,rnmL,wrB,pcB,res16,Option.isNone,lhB,hx,hy,z1,z2,Bool.true_and,Bool.and_true,Bool.false_and,Bool.and_false,liB]
      repeat (refine ⟨by omega, ?_⟩)
      exact fin 1 (by rw [if_pos ⟨c1, .inl c2⟩])
  · have z1 : (k == 1) = false := beq_eq_false_iff_ne.2 c1
    simp -implicitDefEqProofs (maxSteps := 1000000) (disch := omega) only [↓vcB,↓gd,↓opP,↓qv,↓ef,↓bslS,↓stS,↓mkS,↓rangeS,↓nextS,↓entryS,↓delS,↓mupS,↓appS,↓s2bS,↓resS,evB,Sx.look,slot,↓lkL,putS,putO,argsL,↓reduceIte,ofV,of1,lookH,putH,List.replicate,List.append,convS,fldA,nthT,idxA,idxS,fldS,oslN,bnd,slS,unS,valI,lenS,lookS,takeC,psB,asRow,csB,rdF,Ent.row,ldS,sz,szL,wrF,bldF,plT,bldS,srcS,nilS,nilEq,mapC,binH,binS2,structS,eqL,eqF,binS,arrS,isI,tupS,stor,storL,Value.oneCell',minS,maxS,capS,Nat.reduceAdd,Nat.reduceSub,Nat.reduceMul,Nat.reduceLT,Nat.reduceLeDiff,Nat.reduceEqDiff,Nat.reduceBEq,Int.reduceToNat,Int.reduceNeg,if_true,if_false,reduceIte,stays,inL,same1,qn,ldN,convN,lenN,cond_true,cond_false,implies_true,Int.reduceEq,Int.reduceNe,Int.reduceLE,Int.reduceLT,forall_eq_or_imp,forall_eq,ne_eq,reduceCtorEq,notInt,numB,tabB,Array.reduceGetElem?,upG,up,nth,lay,rcB,rnm,rnmL,wrB,pcB,res16,Option.isNone,lhB,hx,hy,z1,liB]
    repeat (refine ⟨by omega, ?_⟩)
    exact fin 0 (by rw [if_neg (fun h => c1 h.1)])
mutual
theorem c16 : ∀ m : Msg, RAt m
  | .mk k f v s d b bs p q key of => c16S k f v s d b bs p q key of (c16L p) (c16Q q)
theorem c16L : ∀ p : List Msg, ∀ m ∈ p, RAt m
  | [], m, hm => by cases hm
  | a :: l, m, hm => (List.mem_cons.1 hm).elim (fun e => e ▸ c16 a) (c16L l m)
theorem c16Q : ∀ q : List (Msg × List Msg), ∀ x ∈ q, RAt x.1 ∧ ∀ m ∈ x.2, RAt m
  | [], x, hx => by cases hx
  | (a, l) :: r, x, hx => (List.mem_cons.1 hx).elim (fun e => e ▸ ⟨c16 a, c16L l⟩) (c16Q r x)
end
end Go.Proofs.Ytgocfglmideobaa

set_option linter.all false
set_option maxRecDepth 40000
namespace Go.Proofs.Ytgocfglmideobaa
open Go Go.Sx
theorem res106 : Try.f106.results.toList = [.tmp 4] := rfl
theorem res113 : Try.f113.results.toList = [.tmp 4] := rfl
set_option maxHeartbeats 4000000 in
theorem c113 (B : List By) (k : Nat) (v : BitVec 64) (h : List Chunk) (hk : lookH h k = .row true B.length 1 (fun i => .int .u8 (nat (B.getD i 0)))) (hlen : B.length ≤ 70368744177664) (K : Tok → SV → List Chunk → Prop) (hK : Out (fun j => j = k) h (B ++ leb v.toNat) K) :
    callP Try.prog 113 [.osl k 0 0 1 B.length, .int .u64 (nat v)] h K := by
  have hv10 := leb_64 v
  refine callP_of_code tabOk Try.func113 (by kernel_rfl) rfl (Nat.le_of_ble_eq_true rfl) (codeP_of_vc (pl := np) tabOk follows_mixed (by kernel_rfl) ?_)
  rw [Try.ntmps113]
  simp -implicitDefEqProofs (maxSteps := 1000000) (disch := omega) only [↓vcB,↓gd,↓opP,↓qv,↓ef,↓bslS,↓stS,↓mkS,↓rangeS,↓nextS,↓entryS,↓delS,↓mupS,↓appS,↓s2bS,↓resS,evB,Sx.look,slot,↓lkL,putS,putO,argsL,↓reduceIte,ofV,of1,lookH,putH,List.replicate,List.append,convS,fldA,nthT,idxA,idxS,fldS,oslN,bnd,slS,unS,valI,lenS,lookS,takeC,psB,asRow,csB,rdF,Ent.row,ldS,sz,szL,wrF,bldF,plT,bldS,srcS,nilS,nilEq,mapC,binH,binS2,structS,eqL,eqF,binS,arrS,isI,tupS,stor,storL,Value.oneCell',minS,maxS,capS,Nat.reduceAdd,Nat.reduceSub,Nat.reduceMul,Nat.reduceLT,Nat.reduceLeDiff,Nat.reduceEqDiff,Nat.reduceBEq,Int.reduceToNat,Int.reduceNeg,if_true,if_false,reduceIte,stays,inL,same1,qn,ldN,convN,lenN,cond_true,cond_false,implies_true,Int.reduceEq,Int.reduceNe,Int.reduceLE,Int.reduceLT,forall_eq_or_imp,forall_eq,ne_eq,reduceCtorEq,notInt,numB,tabB,Array.reduceGetElem?,upG,up,nth,lay,rcB,rnm,rnmL,wrB,pcB,res106,res113,Option.isNone,lhB,liB]
  repeat (refine ⟨by omega, ?_⟩)
  refine codeP_loop (pl := np) tabOk follows_mixed (by kernel_rfl) (fun z st => ∃ (D : List By) (u : BitVec 64) (H : List Chunk) (m : Nat) (j : Nat → Value), z = u.toNat ∧ D ++ leb u.toNat = B ++ leb v.toNat ∧ Ext (fun j => j = k) h H ∧ (m = k ∨ h.length ≤ m) ∧ lookH H m = .row true D.length 1 (fun i => .int .u8 (nat (D.getD i 0))) ∧ st = ⟨⟨21, [(0, .osl m 0 0 1 D.length), (1, .int .u64 (nat u)), (4, .v (.slice none 0 0))], j⟩, H, []⟩) ?_ ?_
  · exact into_keep [(0, .osl k 0 0 1 B.length), (1, .int .u64 (nat v)), (4, .v (.slice none 0 0))] (by simp [sameT, slot, lkL]) fun j => ⟨v.toNat, B, v, h, k, j, rfl, rfl, Ext.refl _ _, .inl rfl, hk, rfl⟩
  · rintro z st ⟨D, u, H, m, j, rfl, hD, hE, hm, hrow, rfl⟩
    have hl := congrArg List.length hD
    rw [List.length_append, List.length_append] at hl
    have hlt : m < H.length := lookH_lt hrow (by simp)
    have hhl := hE.1
    by_cases c : u.toNat < 128
    · have z1 : decide (nat u ≥ 128) = false := decide_eq_false (by unfold nat; omega)
      simp -implicitDefEqProofs (maxSteps := 1000000) (disch := omega) only [↓vcB,↓gd,↓opP,↓qv,↓ef,↓bslS,↓stS,↓mkS,↓rangeS,↓nextS,↓entryS,↓delS,↓mupS,↓appS,↓s2bS,↓resS,evB,Sx.look,slot,↓lkL,putS,putO,argsL,↓reduceIte,ofV,of1,lookH,putH,List.replicate,List.append,convS,fldA,nthT,idxA,idxS,fldS,oslN,bnd,slS,unS,valI,lenS,lookS,takeC,psB,asRow,csB,rdF,Ent.row,ldS,sz,szL,wrF,bldF,plT,bldS,srcS,nilS,nilEq,mapC,binH,binS2,structS,eqL,eqF,binS,arrS,isI,tupS,stor,storL,Value.oneCell',minS,maxS,capS,Nat.reduceAdd,Nat.reduceSub,Nat.reduceMul,Nat.reduceLT,Nat.reduceLeDiff,Nat.reduceEqDiff,Nat.reduceBEq,Int.reduceToNat,Int.reduceNeg,if_true,if_false,reduceIte,stays,inL,same1,qn,ldN,convN,lenN,cond_true,cond_false,implies_true,Int.reduceEq,Int.reduceNe,Int.reduceLE,Int.reduceLT,forall_eq_or_imp,forall_eq,ne_eq,reduceCtorEq,notInt,numB,tabB,Array.reduceGetElem?,upG,up,nth,lay,rcB,rnm,rnmL,wrB,pcB,res106,res113,Option.isNone,lhB,z1,hrow,byte_one,lookH_at,liB]
      repeat (refine ⟨by omega, ?_⟩)
      rw [leb_lt c] at hD
      rw [← hD] at hK
      have hd : D.length + 1 = (D ++ [BitVec.ofNat 8 u.toNat]).length := by simp
      refine intoR_sim (row_sim hd fun i hi => app_one hi rfl) ?_
      rw [hd]
      exact intoR_refl (by simp [putH_len]; omega) (hK _ _ (ext_put hE hm _ _) (by omega) (lookH_last (by simp [putH_len])))
    · have z1 : decide (nat u ≥ 128) = true := decide_eq_true (by unfold nat; omega)
      simp -implicitDefEqProofs (maxSteps := 1000000) (disch := omega) only [↓vcB,↓gd,↓opP,↓qv,↓ef,↓bslS,↓stS,↓mkS,↓rangeS,↓nextS,↓entryS,↓delS,↓mupS,↓appS,↓s2bS,↓resS,evB,Sx.look,slot,↓lkL,putS,putO,argsL,↓reduceIte,ofV,of1,lookH,putH,List.replicate,List.append,convS,fldA,nthT,idxA,idxS,fldS,oslN,bnd,slS,unS,valI,lenS,lookS,takeC,psB,asRow,csB,rdF,Ent.row,ldS,sz,szL,wrF,bldF,plT,bldS,srcS,nilS,nilEq,mapC,binH,binS2,structS,eqL,eqF,binS,arrS,isI,tupS,stor,storL,Value.oneCell',minS,maxS,capS,Nat.reduceAdd,Nat.reduceSub,Nat.reduceMul,Nat.reduceLT,Nat.reduceLeDiff,Nat.reduceEqDiff,Nat.reduceBEq,Int.reduceToNat,Int.reduceNeg,if_true,if_false,reduceIte,stays,inL,same1,qn,ldN,convN,lenN,cond_true,cond_false,implies_true,Int.reduceEq,Int.reduceNe,Int.reduceLE,Int.reduceLT,forall_eq_or_imp,forall_eq,ne_eq,reduceCtorEq,notInt,numB,tabB,Array.reduceGetElem?,upG,up,nth,lay,rcB,rnm,rnmL,wrB,pcB,res106,res113,Option.isNone,lhB,z1,hrow,and127,bytes_conv2,lookH_at,liB]
      repeat (refine ⟨by omega, ?_⟩)
      rw [leb_ge c] at hD
      have hd : D.length + 1 = (D ++ [BitVec.ofNat 8 (u.toNat % 128 + 128)]).length := by simp
      refine into_sim (row_sim hd fun i hi => app_one hi rfl) ?_
      rw [hd]
      exact into_keep [(0, .osl (H.length + 1) 0 0 1 (D ++ [BitVec.ofNat 8 (u.toNat % 128 + 128)]).length), (1, .int .u64 (nat (u >>> 7))), (4, .v (.slice none 0 0))] (by simp [sameT, slot, lkL]) fun j => ⟨(u >>> 7).toNat, by rw [shr7]; omega, _, u >>> 7, _, H.length + 1, j, rfl, by rw [shr7, List.append_assoc, ← hD]; rfl, ext_put hE hm _ _, .inr (by omega), lookH_last (by simp [putH_len]), rfl⟩
set_option maxHeartbeats 4000000 in
theorem c106 (B : List By) (k : Nat) (w : Bool) (v : BitVec 64) (h : List Chunk) (hk : lookH h k = .row w B.length 1 (fun i => .int .u8 (nat (B.getD i 0)))) (hlen : B.length ≤ 70368744177664) (K : Tok → SV → List Chunk → Prop) (hK : Out (fun j => False) h (B ++ leb v.toNat) K) :
    callP Try.prog 106 [.osl k 0 0 1 B.length, .int .u64 (nat v)] h K := by
  have hv10 := leb_64 v
  refine callP_of_code tabOk Try.func106 (by kernel_rfl) rfl (Nat.le_of_ble_eq_true rfl) (codeP_of_vc (pl := np) tabOk follows_mixed (by kernel_rfl) ?_)
  rw [Try.ntmps106]
  simp -implicitDefEqProofs (maxSteps := 1000000) (disch := omega) only [↓vcB,↓gd,↓opP,↓qv,↓ef,↓bslS,↓stS,↓mkS,↓rangeS,↓nextS,↓entryS,↓delS,↓mupS,↓appS,↓s2bS,↓resS,evB,Sx.look,slot,↓lkL,putS,putO,argsL,↓reduceIte,ofV,of1,lookH,putH,List.replicate,List.append,convS,fldA,nthT,idxA,idxS,fldS,oslN,bnd,slS,unS,valI,lenS,lookS,takeC,psB,asRow,csB,rdF,Ent.row,ldS,sz,szL,wrF,bldF,plT,bldS,srcS,nilS,nilEq,mapC,binH,binS2,structS,eqL,eqF,binS,arrS,isI,tupS,stor,storL,Value.oneCell',minS,maxS,capS,Nat.reduceAdd,Nat.reduceSub,Nat.reduceMul,Nat.reduceLT,Nat.reduceLeDiff,Nat.reduceEqDiff,Nat.reduceBEq,Int.reduceToNat,Int.reduceNeg,if_true,if_false,reduceIte,stays,inL,same1,qn,ldN,convN,lenN,cond_true,cond_false,implies_true,Int.reduceEq,Int.reduceNe,Int.reduceLE,Int.reduceLT,forall_eq_or_imp,forall_eq,ne_eq,reduceCtorEq,notInt,numB,tabB,Array.reduceGetElem?,upG,up,nth,lay,rcB,rnm,rnmL,wrB,pcB,res106,res113,Option.isNone,lhB,hk,liB]
  repeat (refine ⟨by omega, ?_⟩)
  refine codeP_loop (pl := np) tabOk follows_mixed (by kernel_rfl) (fun z st => ∃ (D : List By) (u : BitVec 64) (H : List Chunk) (m : Nat) (j : Nat → Value), z = u.toNat ∧ D ++ leb u.toNat = B ++ leb v.toNat ∧ Ext (fun j => False) h H ∧ (h.length ≤ m) ∧ lookH H m = .row true D.length 1 (fun i => .int .u8 (nat (D.getD i 0))) ∧ st = ⟨⟨23, [(1, .int .u64 (nat u)), (4, .v (.slice none 0 0)), (5, .osl m 0 0 1 D.length)], j⟩, H, []⟩) ?_ ?_
  · refine into_sim (row_sim rfl fun i _ => rfl) ?_
    exact into_keep [(1, .int .u64 (nat v)), (4, .v (.slice none 0 0)), (5, .osl h.length 0 0 1 B.length)] (by simp [sameT, slot, lkL]) fun j => ⟨v.toNat, B, v, _, h.length, j, rfl, rfl, (Ext.refl _ _).app _, Nat.le_refl _, lookH_end _ _, rfl⟩
  · rintro z st ⟨D, u, H, m, j, rfl, hD, hE, hm, hrow, rfl⟩
    have hl := congrArg List.length hD
    rw [List.length_append, List.length_append] at hl
    have hlt : m < H.length := lookH_lt hrow (by simp)
    have hhl := hE.1
    by_cases c : u.toNat < 128
    · have z1 : decide (nat u ≥ 128) = false := decide_eq_false (by unfold nat; omega)
      simp -implicitDefEqProofs (maxSteps := 1000000) (disch := omega) only [↓vcB,↓gd,↓opP,↓qv,↓ef,↓bslS,↓stS,↓mkS,↓rangeS,↓nextS,↓entryS,↓delS,↓mupS,↓appS,↓s2bS,↓resS,evB,Sx.look,slot,↓lkL,putS,putO,argsL,↓reduceIte,ofV,of1,lookH,putH,List.replicate,List.append,convS,fldA,nthT,idxA,idxS,fldS,oslN,bnd,slS,unS,valI,lenS,lookS,takeC,psB,asRow,csB,rdF,Ent.row,ldS,sz,szL,wrF,bldF,plT,bldS,srcS,nilS,nilEq,mapC,binH,binS2,structS,eqL,eqF,binS,arrS,isI,tupS,stor,storL,Value.oneCell',minS,maxS,capS,Nat.reduceAdd,Nat.reduceSub,Nat.reduceMul,Nat.reduceLT,Nat.reduceLeDiff,Nat.reduceEqDiff,Nat.reduceBEq,Int.reduceToNat,Int.reduceNeg,if_true,if_false,reduceIte,stays,inL,same1,qn,ldN,convN,lenN,cond_true,cond_false,implies_true,Int.reduceEq,Int.reduceNe,Int.reduceLE,Int.reduceLT,forall_eq_or_imp,forall_eq,ne_eq,reduceCtorEq,notInt,numB,tabB,Array.reduceGetElem?,upG,up,nth,lay,rcB,rnm,rnmL,wrB,pcB,res106,res113,Option.isNone,lhB,z1,hrow,byte_one,lookH_at,liB]
      repeat (refine ⟨by omega, ?_⟩)
      rw [leb_lt c] at hD
      rw [← hD] at hK
      have hd : D.length + 1 = (D ++ [BitVec.ofNat 8 u.toNat]).length := by simp
      refine intoR_sim (row_sim hd fun i hi => app_one hi rfl) ?_
      rw [hd]
      exact intoR_refl (by simp [putH_len]; omega) (hK _ _ (((hE.app _).put _ (.inr hm)).app _) (by omega) (lookH_last (by simp [putH_len])))
    · have z1 : decide (nat u ≥ 128) = true := decide_eq_true (by unfold nat; omega)
      simp -implicitDefEqProofs (maxSteps := 1000000) (disch := omega) only [↓vcB,↓gd,↓opP,↓qv,↓ef,↓bslS,↓stS,↓mkS,↓rangeS,↓nextS,↓entryS,↓delS,↓mupS,↓appS,↓s2bS,↓resS,evB,Sx.look,slot,↓lkL,putS,putO,argsL,↓reduceIte,ofV,of1,lookH,putH,List.replicate,List.append,convS,fldA,nthT,idxA,idxS,fldS,oslN,bnd,slS,unS,valI,lenS,lookS,takeC,psB,asRow,csB,rdF,Ent.row,ldS,sz,szL,wrF,bldF,plT,bldS,srcS,nilS,nilEq,mapC,binH,binS2,structS,eqL,eqF,binS,arrS,isI,tupS,stor,storL,Value.oneCell',minS,maxS,capS,Nat.reduceAdd,Nat.reduceSub,Nat.reduceMul,Nat.reduceLT,Nat.reduceLeDiff,Nat.reduceEqDiff,Nat.reduceBEq,Int.reduceToNat,Int.reduceNeg,if_true,if_false,reduceIte,stays,inL,same1,qn,ldN,convN,lenN,cond_true,cond_false,implies_true,Int.reduceEq,Int.reduceNe,Int.reduceLE,Int.reduceLT,forall_eq_or_imp,forall_eq,ne_eq,reduceCtorEq,notInt,numB,tabB,Array.reduceGetElem?,upG,up,nth,lay,rcB,rnm,rnmL,wrB,pcB,res106,res113,Option.isNone,lhB,z1,hrow,bytes_conv,lookH_at,liB]
      repeat (refine ⟨by omega, ?_⟩)
      rw [leb_ge c] at hD
      have hd : D.length + 1 = (D ++ [BitVec.ofNat 8 (u.toNat % 128 + 128)]).length := by simp
      refine into_sim (row_sim hd fun i hi => app_one hi rfl) ?_
      rw [hd]
      exact into_keep [(1, .int .u64 (nat (u >>> 7))), (4, .v (.slice none 0 0)), (5, .osl (H.length + 1) 0 0 1 (D ++ [BitVec.ofNat 8 (u.toNat % 128 + 128)]).length)] (by simp [sameT, slot, lkL]) fun j => ⟨(u >>> 7).toNat, by rw [shr7]; omega, _, u >>> 7, _, H.length + 1, j, rfl, by rw [shr7, List.append_assoc, ← hD]; rfl, ((hE.app _).put _ (.inr hm)).app _, by omega, lookH_last (by simp [putH_len]), rfl⟩
end Go.Proofs.Ytgocfglmideobaa

set_option linter.all false
set_option maxRecDepth 40000
namespace Go.Proofs.Ytgocfglmideobaa
open Go Go.Sx
theorem res101 : Try.f101.results.toList = [.tmp 4] := rfl
theorem res102 : Try.f102.results.toList = [.tmp 4] := rfl
theorem res107 : Try.f107.results.toList = [.tmp 4] := rfl
theorem res114 : Try.f114.results.toList = [.tmp 4] := rfl
set_option maxHeartbeats 4000000 in
theorem c101 (B : List By) (k : Nat) (w : Bool) (n : Int) (hn : rng n) (h : List Chunk) (hk : lookH h k = .row w B.length 1 (fun i => .int .u8 (nat (B.getD i 0)))) (hlen : B.length ≤ 70368744177664) (K : Tok → SV → List Chunk → Prop) (hK : Out (fun j => False) h (B ++ leb (zig n)) K) :
    callP Try.prog 101 [.osl k 0 0 1 B.length, .int .i64 n] h K := by
  have z := zf1 hn
  refine callP_of_code tabOk Try.func101 (by kernel_rfl) rfl (Nat.le_of_ble_eq_true rfl) (codeP_of_vc (pl := np) tabOk follows_mixed (by kernel_rfl) ?_)
  rw [Try.ntmps101]
  simp -implicitDefEqProofs (maxSteps := 1000000) (disch := omega) only [↓vcB,↓gd,↓opP,↓qv,↓ef,↓bslS,↓stS,↓mkS,↓rangeS,↓nextS,↓entryS,↓delS,↓mupS,↓appS,↓s2bS,↓resS,evB,Sx.look,slot,↓lkL,putS,putO,argsL,↓reduceIte,ofV,of1,lookH,putH,List.replicate,List.append,convS,fldA,nthT,idxA,idxS,fldS,oslN,bnd,slS,unS,valI,lenS,lookS,takeC,psB,asRow,csB,rdF,Ent.row,ldS,sz,szL,wrF,bldF,plT,bldS,srcS,nilS,nilEq,mapC,binH,binS2,structS,eqL,eqF,binS,arrS,isI,tupS,stor,storL,Value.oneCell',minS,maxS,capS,Nat.reduceAdd,Nat.reduceSub,Nat.reduceMul,Nat.reduceLT,Nat.reduceLeDiff,Nat.reduceEqDiff,Nat.reduceBEq,Int.reduceToNat,Int.reduceNeg,if_true,if_false,reduceIte,stays,inL,same1,qn,ldN,convN,lenN,cond_true,cond_false,implies_true,Int.reduceEq,Int.reduceNe,Int.reduceLE,Int.reduceLT,forall_eq_or_imp,forall_eq,ne_eq,reduceCtorEq,notInt,numB,tabB,Array.reduceGetElem?,upG,up,nth,lay,rcB,rnm,rnmL,wrB,pcB,res101,res102,res107,res114,Option.isNone,lhB,hk,z,liB]
  repeat (refine ⟨by omega, ?_⟩)
  refine c106 B k w _ h hk hlen _ ?_
  rw [zig_toNat hn]
  obtain ⟨D, hD⟩ : ∃ D, D = B ++ leb (zig n) := ⟨_, rfl⟩
  rw [← hD] at hK ⊢
  intro H m hE hm hrow
  have hhl := hE.1
  simp -implicitDefEqProofs (maxSteps := 1000000) (disch := omega) only [↓vcB,↓gd,↓opP,↓qv,↓ef,↓bslS,↓stS,↓mkS,↓rangeS,↓nextS,↓entryS,↓delS,↓mupS,↓appS,↓s2bS,↓resS,evB,Sx.look,slot,↓lkL,putS,putO,argsL,↓reduceIte,ofV,of1,lookH,putH,List.replicate,List.append,convS,fldA,nthT,idxA,idxS,fldS,oslN,bnd,slS,unS,valI,lenS,lookS,takeC,psB,asRow,csB,rdF,Ent.row,ldS,sz,szL,wrF,bldF,plT,bldS,srcS,nilS,nilEq,mapC,binH,binS2,structS,eqL,eqF,binS,arrS,isI,tupS,stor,storL,Value.oneCell',minS,maxS,capS,Nat.reduceAdd,Nat.reduceSub,Nat.reduceMul,Nat.reduceLT,Nat.reduceLeDiff,Nat.reduceEqDiff,Nat.reduceBEq,Int.reduceToNat,Int.reduceNeg,if_true,if_false,reduceIte,stays,inL,same1,qn,ldN,convN,lenN,cond_true,cond_false,implies_true,Int.reduceEq,Int.reduceNe,Int.reduceLE,Int.reduceLT,forall_eq_or_imp,forall_eq,ne_eq,reduceCtorEq,notInt,numB,tabB,Array.reduceGetElem?,upG,up,nth,lay,rcB,rnm,rnmL,wrB,pcB,res101,res102,res107,res114,Option.isNone,lhB,liB]
  repeat (refine ⟨by omega, ?_⟩)
  exact intoR_refl hhl (hK _ _ hE hm hrow)
set_option maxHeartbeats 4000000 in
theorem c102 (B : List By) (k : Nat) (n : Int) (hn : rng n) (h : List Chunk) (hk : lookH h k = .row true B.length 1 (fun i => .int .u8 (nat (B.getD i 0)))) (hlen : B.length ≤ 70368744177664) (K : Tok → SV → List Chunk → Prop) (hK : Out (fun j => j = k) h (B ++ leb (zig n)) K) :
    callP Try.prog 102 [.osl k 0 0 1 B.length, .int .i64 n] h K := by
  refine callP_of_code tabOk Try.func102 (by kernel_rfl) rfl (Nat.le_of_ble_eq_true rfl) (codeP_of_vc (pl := np) tabOk follows_mixed (by kernel_rfl) ?_)
  rw [Try.ntmps102]
  by_cases c : 0 ≤ n
  · have z1 : decide (n ≥ 0) = true := decide_eq_true c
    have z := zf2 hn c
    simp -implicitDefEqProofs (maxSteps := 1000000) (disch := omega) only [↓vcB,↓gd,↓opP,↓qv,↓ef,↓bslS,↓stS,↓mkS,↓rangeS,↓nextS,↓entryS,↓delS,↓mupS,↓appS,↓s2bS,↓resS,evB,Sx.look,slot,↓lkL,putS,putO,argsL,↓reduceIte,ofV,of1,lookH,putH,List.replicate,List.append,convS,fldA,nthT,idxA,idxS,fldS,oslN,bnd,slS,unS,valI,lenS,lookS,takeC,psB,asRow,csB,rdF,Ent.row,ldS,sz,szL,wrF,bldF,plT,bldS,srcS,nilS,nilEq,mapC,binH,binS2,structS,eqL,eqF,binS,arrS,isI,tupS,stor,storL,Value.oneCell',minS,maxS,capS,Nat.reduceAdd,Nat.reduceSub,Nat.reduceMul,Nat.reduceLT,Nat.reduceLeDiff,Nat.reduceEqDiff,Nat.reduceBEq,Int.reduceToNat,Int.reduceNeg,if_true,if_false,reduceIte,stays,inL,same1,qn,ldN,convN,lenN,cond_true,cond_false,implies_true,Int.reduceEq,Int.reduceNe,Int.reduceLE,Int.reduceLT,forall_eq_or_imp,forall_eq,ne_eq,reduceCtorEq,notInt,numB,tabB,Array.reduceGetElem?,upG,up,nth,lay,rcB,rnm,rnmL,wrB,pcB,res101,res102,res107,res114,Option.isNone,lhB,hk,z1,z,liB]
    repeat (refine ⟨by omega, ?_⟩)
    refine c113 B k _ h hk hlen _ ?_
    rw [zig_toNat hn]
    obtain ⟨D, hD⟩ : ∃ D, D = B ++ leb (zig n) := ⟨_, rfl⟩
    rw [← hD] at hK ⊢
    intro H m hE hm hrow
    have hhl := hE.1
    simp -implicitDefEqProofs (maxSteps := 1000000) (disch := omega) only [↓vcB,↓gd,↓opP,↓qv,↓ef,↓bslS,↓stS,↓mkS,↓rangeS,↓nextS,↓entryS,↓delS,↓mupS,↓appS,↓s2bS,↓resS,evB,Sx.look,slot,↓lkL,putS,putO,argsL,↓reduceIte,ofV,of1,lookH,putH,List.replicate,List.append,convS,fldA,nthT,idxA,idxS,fldS,oslN,bnd,slS,unS,valI,lenS,lookS,takeC,psB,asRow,csB,rdF,Ent.row,ldS,sz,szL,wrF,bldF,plT,bldS,srcS,nilS,nilEq,mapC,binH,binS2,structS,eqL,eqF,binS,arrS,isI,tupS,stor,storL,Value.oneCell',minS,maxS,capS,Nat.reduceAdd,Nat.reduceSub,Nat.reduceMul,Nat.reduceLT,Nat.reduceLeDiff,Nat.reduceEqDiff,Nat.reduceBEq,Int.reduceToNat,Int.reduceNeg,if_true,if_false,reduceIte,stays,inL,same1,qn,ldN,convN,lenN,cond_true,cond_false,implies_true,Int.reduceEq,Int.reduceNe,Int.reduceLE,Int.reduceLT,forall_eq_or_imp,forall_eq,ne_eq,reduceCtorEq,notInt,numB,tabB,Array.reduceGetElem?,upG,up,nth,lay,rcB,rnm,rnmL,wrB,pcB,res101,res102,res107,res114,Option.isNone,lhB,liB]
    repeat (refine ⟨by omega, ?_⟩)
    exact intoR_refl hhl (hK _ _ hE hm hrow)
  · have z1 : decide (n ≥ 0) = false := decide_eq_false c
    have z := zf3 hn c
    simp -implicitDefEqProofs (maxSteps := 1000000) (disch := omega) only [↓vcB,↓gd,↓opP,↓qv,↓ef,↓bslS,↓stS,↓mkS,↓rangeS,↓nextS,↓entryS,↓delS,↓mupS,↓appS,↓s2bS,↓resS,evB,Sx.look,slot,↓lkL,putS,putO,argsL,↓reduceIte,ofV,of1,lookH,putH,List.replicate,List.append,convS,fldA,nthT,idxA,idxS,fldS,oslN,bnd,slS,unS,valI,lenS,lookS,takeC,psB,asRow,csB,rdF,Ent.row,ldS,sz,szL,wrF,bldF,plT,bldS,srcS,nilS,nilEq,mapC,binH,binS2,structS,eqL,eqF,binS,arrS,isI,tupS,stor,storL,Value.oneCell',minS,maxS,capS,Nat.reduceAdd,Nat.reduceSub,Nat.reduceMul,Nat.reduceLT,Nat.reduceLeDiff,Nat.reduceEqDiff,Nat.reduceBEq,Int.reduceToNat,Int.reduceNeg,if_true,if_false,reduceIte,stays,inL,same1,qn,ldN,convN,lenN,cond_true,cond_false,implies_true,Int.reduceEq,Int.reduceNe,Int.reduceLE,Int.reduceLT,forall_eq_or_imp,forall_eq,ne_eq,reduceCtorEq,notInt,numB,tabB,Array.reduceGetElem?,upG,up,nth,lay,rcB,rnm,rnmL,wrB,pcB,res101,res102,res107,res114,Option.isNone,lhB,hk,z1,z,liB]
    repeat (refine ⟨by omega, ?_⟩)
    refine c113 B k _ h hk hlen _ ?_
    rw [zig_toNat hn]
    obtain ⟨D, hD⟩ : ∃ D, D = B ++ leb (zig n) := ⟨_, rfl⟩
    rw [← hD] at hK ⊢
    intro H m hE hm hrow
    have hhl := hE.1
    simp -implicitDefEqProofs (maxSteps := 1000000) (disch := omega) only [↓vcB,↓gd,↓opP,↓qv,↓ef,↓bslS,↓stS,↓mkS,↓rangeS,↓nextS,↓entryS,↓delS,↓mupS,↓appS,↓s2bS,↓resS,evB,Sx.look,slot,↓lkL,putS,putO,argsL,↓reduceIte,ofV,of1,lookH,putH,List.replicate,List.append,convS,fldA,nthT,idxA,idxS,fldS,oslN,bnd,slS,unS,valI,lenS,lookS,takeC,psB,asRow,csB,rdF,Ent.row,ldS,sz,szL,wrF,bldF,plT,bldS,srcS,nilS,nilEq,mapC,binH,binS2,structS,eqL,eqF,binS,arrS,isI,tupS,stor,storL,Value.oneCell',minS,maxS,capS,Nat.reduceAdd,Nat.reduceSub,Nat.reduceMul,Nat.reduceLT,Nat.reduceLeDiff,Nat.reduceEqDiff,Nat.reduceBEq,Int.reduceToNat,Int.reduceNeg,if_true,if_false,reduceIte,stays,inL,same1,qn,ldN,convN,lenN,cond_true,cond_false,implies_true,Int.reduceEq,Int.reduceNe,Int.reduceLE,Int.reduceLT,forall_eq_or_imp,forall_eq,ne_eq,reduceCtorEq,notInt,numB,tabB,Array.reduceGetElem?,upG,up,nth,lay,rcB,rnm,rnmL,wrB,pcB,res101,res102,res107,res114,Option.isNone,lhB,liB]
    repeat (refine ⟨by omega, ?_⟩)
    exact intoR_refl hhl (hK _ _ hE hm hrow)
set_option maxHeartbeats 4000000 in
theorem c107 (B C : List By) (k k2 : Nat) (w w2 : Bool) (h : List Chunk) (hk : lookH h k = .row w B.length 1 (fun i => .int .u8 (nat (B.getD i 0)))) (hk2 : lookH h k2 = .row w2 C.length 1 (fun i => .int .u8 (nat (C.getD i 0)))) (hlen : B.length + C.length ≤ 35184372088832) (K : Tok → SV → List Chunk → Prop) (hK : Out (fun j => False) h (B ++ putB C) K) :
    callP Try.prog 107 [.osl k 0 0 1 B.length, .osl k2 0 0 1 C.length] h K := by
  have hu := len_u64 (n := C.length) (by omega)
  have hu1 := hu.1
  refine callP_of_code tabOk Try.func107 (by kernel_rfl) rfl (Nat.le_of_ble_eq_true rfl) (codeP_of_vc (pl := np) tabOk follows_mixed (by kernel_rfl) ?_)
  rw [Try.ntmps107]
  simp -implicitDefEqProofs (maxSteps := 1000000) (disch := omega) only [↓vcB,↓gd,↓opP,↓qv,↓ef,↓bslS,↓stS,↓mkS,↓rangeS,↓nextS,↓entryS,↓delS,↓mupS,↓appS,↓s2bS,↓resS,evB,Sx.look,slot,↓lkL,putS,putO,argsL,↓reduceIte,ofV,of1,lookH,putH,List.replicate,List.append,convS,fldA,nthT,idxA,idxS,fldS,oslN,bnd,slS,unS,valI,lenS,lookS,takeC,psB,asRow,csB,rdF,Ent.row,ldS,sz,szL,wrF,bldF,plT,bldS,srcS,nilS,nilEq,mapC,binH,binS2,structS,eqL,eqF,binS,arrS,isI,tupS,stor,storL,Value.oneCell',minS,maxS,capS,Nat.reduceAdd,Nat.reduceSub,Nat.reduceMul,Nat.reduceLT,Nat.reduceLeDiff,Nat.reduceEqDiff,Nat.reduceBEq,Int.reduceToNat,Int.reduceNeg,if_true,if_false,reduceIte,stays,inL,same1,qn,ldN,convN,lenN,cond_true,cond_false,implies_true,Int.reduceEq,Int.reduceNe,Int.reduceLE,Int.reduceLT,forall_eq_or_imp,forall_eq,ne_eq,reduceCtorEq,notInt,numB,tabB,Array.reduceGetElem?,upG,up,nth,lay,rcB,rnm,rnmL,wrB,pcB,res101,res102,res107,res114,Option.isNone,lhB,hk,hk2,hu1,liB]
  repeat (refine ⟨by omega, ?_⟩)
  refine c106 B k w _ h hk (by omega) _ ?_
  intro H m hE hm hrow
  rw [hu.2] at hrow ⊢
  have hl10 : (leb C.length).length ≤ 10 := by have := leb_64 (BitVec.ofNat 64 C.length); rwa [hu.2] at this
  obtain ⟨D, hD⟩ : ∃ D, D = B ++ leb C.length := ⟨_, rfl⟩
  have hDl : D.length ≤ B.length + 10 := by rw [hD, List.length_append]; omega
  rw [← hD] at hrow ⊢
  have hrow2 := hE.look hk2 (by simp) (fun h => h)
  have hhl := hE.1
  simp -implicitDefEqProofs (maxSteps := 1000000) (disch := omega) only [↓vcB,↓gd,↓opP,↓qv,↓ef,↓bslS,↓stS,↓mkS,↓rangeS,↓nextS,↓entryS,↓delS,↓mupS,↓appS,↓s2bS,↓resS,evB,Sx.look,slot,↓lkL,putS,putO,argsL,↓reduceIte,ofV,of1,lookH,putH,List.replicate,List.append,convS,fldA,nthT,idxA,idxS,fldS,oslN,bnd,slS,unS,valI,lenS,lookS,takeC,psB,asRow,csB,rdF,Ent.row,ldS,sz,szL,wrF,bldF,plT,bldS,srcS,nilS,nilEq,mapC,binH,binS2,structS,eqL,eqF,binS,arrS,isI,tupS,stor,storL,Value.oneCell',minS,maxS,capS,Nat.reduceAdd,Nat.reduceSub,Nat.reduceMul,Nat.reduceLT,Nat.reduceLeDiff,Nat.reduceEqDiff,Nat.reduceBEq,Int.reduceToNat,Int.reduceNeg,if_true,if_false,reduceIte,stays,inL,same1,qn,ldN,convN,lenN,cond_true,cond_false,implies_true,Int.reduceEq,Int.reduceNe,Int.reduceLE,Int.reduceLT,forall_eq_or_imp,forall_eq,ne_eq,reduceCtorEq,notInt,numB,tabB,Array.reduceGetElem?,upG,up,nth,lay,rcB,rnm,rnmL,wrB,pcB,res101,res102,res107,res114,Option.isNone,lhB,hrow,hrow2,liB]
  repeat (refine ⟨by omega, ?_⟩)
  have hd : D.length + C.length = (B ++ putB C).length := by rw [hD]; unfold putB; simp only [List.length_append]; omega
  refine intoR_sim (row_sim hd fun i hi => ?_) ?_
  · rw [show B ++ putB C = D ++ C by rw [hD]; unfold putB; rw [List.append_assoc]]
    exact app_byte
  rw [hd]
  exact intoR_refl (by simp [putH_len]; omega) (hK _ _ ((hE.put _ (.inr hm)).app _) (by omega) (lookH_last (by simp [putH_len])))
set_option maxHeartbeats 4000000 in
theorem c114 (B C : List By) (k k2 : Nat) (w2 : Bool) (h : List Chunk) (hk : lookH h k = .row true B.length 1 (fun i => .int .u8 (nat (B.getD i 0)))) (hk2 : lookH h k2 = .row w2 C.length 1 (fun i => .int .u8 (nat (C.getD i 0)))) (hne : k2 ≠ k) (hlen : B.length + C.length ≤ 35184372088832) (K : Tok → SV → List Chunk → Prop) (hK : Out (fun j => j = k) h (B ++ putB C) K) :
    callP Try.prog 114 [.osl k 0 0 1 B.length, .osl k2 0 0 1 C.length] h K := by
  have hu := len_u64 (n := C.length) (by omega)
  have hu1 := hu.1
  refine callP_of_code tabOk Try.func114 (by kernel_rfl) rfl (Nat.le_of_ble_eq_true rfl) (codeP_of_vc (pl := np) tabOk follows_mixed (by kernel_rfl) ?_)
  rw [Try.ntmps114]
  simp -implicitDefEqProofs (maxSteps := 1000000) (disch := omega) only [↓vcB,↓gd,↓opP,↓qv,↓ef,↓bslS,↓stS,↓mkS,↓rangeS,↓nextS,↓entryS,↓delS,↓mupS,↓appS,↓s2bS,↓resS,evB,Sx.look,slot,↓lkL,putS,putO,argsL,↓reduceIte,ofV,of1,lookH,putH,List.replicate,List.append,convS,fldA,nthT,idxA,idxS,fldS,oslN,bnd,slS,unS,valI,lenS,lookS,takeC,psB,asRow,csB,rdF,Ent.row,ldS,sz,szL,wrF,bldF,plT,bldS,srcS,nilS,nilEq,mapC,binH,binS2,structS,eqL,eqF,binS,arrS,isI,tupS,stor,storL,Value.oneCell',minS,maxS,capS,Nat.reduceAdd,Nat.reduceSub,Nat.reduceMul,Nat.reduceLT,Nat.reduceLeDiff,Nat.reduceEqDiff,Nat.reduceBEq,Int.reduceToNat,Int.reduceNeg,if_true,if_false,reduceIte,stays,inL,same1,qn,ldN,convN,lenN,cond_true,cond_false,implies_true,Int.reduceEq,Int.reduceNe,Int.reduceLE,Int.reduceLT,forall_eq_or_imp,forall_eq,ne_eq,reduceCtorEq,notInt,numB,tabB,Array.reduceGetElem?,upG,up,nth,lay,rcB,rnm,rnmL,wrB,pcB,res101,res102,res107,res114,Option.isNone,lhB,hk,hk2,hu1,liB]
  repeat (refine ⟨by omega, ?_⟩)
  refine c113 B k _ h hk (by omega) _ ?_
  intro H m hE hm hrow
  rw [hu.2] at hrow ⊢
  have hl10 : (leb C.length).length ≤ 10 := by have := leb_64 (BitVec.ofNat 64 C.length); rwa [hu.2] at this
  obtain ⟨D, hD⟩ : ∃ D, D = B ++ leb C.length := ⟨_, rfl⟩
  have hDl : D.length ≤ B.length + 10 := by rw [hD, List.length_append]; omega
  rw [← hD] at hrow ⊢
  have hrow2 := hE.look hk2 (by simp) (fun h => hne h)
  have hhl := hE.1
  simp -implicitDefEqProofs (maxSteps := 1000000) (disch := omega) only [↓vcB,↓gd,↓opP,↓qv,↓ef,↓bslS,↓stS,↓mkS,↓rangeS,↓nextS,↓entryS,↓delS,↓mupS,↓appS,↓s2bS,↓resS,evB,Sx.look,slot,↓lkL,putS,putO,argsL,↓reduceIte,ofV,of1,lookH,putH,List.replicate,List.append,convS,fldA,nthT,idxA,idxS,fldS,oslN,bnd,slS,unS,valI,lenS,lookS,takeC,psB,asRow,csB,rdF,Ent.row,ldS,sz,szL,wrF,bldF,plT,bldS,srcS,nilS,nilEq,mapC,binH,binS2,structS,eqL,eqF,binS,arrS,isI,tupS,stor,storL,Value.oneCell',minS,maxS,capS,Nat.reduceAdd,Nat.reduceSub,Nat.reduceMul,Nat.reduceLT,Nat.reduceLeDiff,Nat.reduceEqDiff,Nat.reduceBEq,Int.reduceToNat,Int.reduceNeg,if_true,if_false,reduceIte,stays,inL,same1,qn,ldN,convN,lenN,cond_true,cond_false,implies_true,Int.reduceEq,Int.reduceNe,Int.reduceLE,Int.reduceLT,forall_eq_or_imp,forall_eq,ne_eq,reduceCtorEq,notInt,numB,tabB,Array.reduceGetElem?,upG,up,nth,lay,rcB,rnm,rnmL,wrB,pcB,res101,res102,res107,res114,Option.isNone,lhB,hrow,hrow2,liB]
  repeat (refine ⟨by omega, ?_⟩)
  have hd : D.length + C.length = (B ++ putB C).length := by rw [hD]; unfold putB; simp only [List.length_append]; omega
  refine intoR_sim (row_sim hd fun i hi => ?_) ?_
  · rw [show B ++ putB C = D ++ C by rw [hD]; unfold putB; rw [List.append_assoc]]
    exact app_byte
  rw [hd]
  exact intoR_refl (by simp [putH_len]; omega) (hK _ _ ((hE.put _ (.inr hm)).app _) (by omega) (lookH_last (by simp [putH_len])))
end Go.Proofs.Ytgocfglmideobaa
