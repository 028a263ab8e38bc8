/- Texts put together: Contracts of functions that the laws reach, by the symbolic executor of the texts Sxa to Sxt. No condition. -/
import Derived.Test.YtgocfglmideobaaMg
set_option linter.all false
set_option maxRecDepth 40000
namespace Go.Proofs.Ytgocfglmideobaa.S
open Go Go.Sx

/-- The digest of so many bytes. -/
def shaD (len : Nat) (B : Nat → BitVec 8) : Nat → BitVec 8 :=
  dig (blk (blk iv (cat 0 (fun _ => 0) B) (len / 64)) (padF (len - 64 * (len / 64)) (BitVec.ofNat 64 len) fun i => cat 0 (fun _ => 0) B (64 * (len / 64) + i))
    ((len - 64 * (len / 64) + 1 + zs (len - 64 * (len / 64)) + 8) / 64))

theorem res20 : Try.f116.results.toList = [.cell 2 23] := rfl
theorem c20l (m d e len : Nat) (B : Nat → BitVec 8) (hm : e + len ≤ m) (hl : len ≤ 70368744177664) (K : Tok → SV → List Chunk → Prop)
    (hK : K .mk (.fam 32 1 fun i => .int .u8 (nat (shaD len (fun i => B (e + i)) i))) [.row false m 1 fun i => .int .u8 (nat (B i))]) :
    callP Try.prog 116 [.osl 0 d e 1 len] [.row false m 1 fun i => .int .u8 (nat (B i))] K := by
  refine callP_of_code tabOk Try.func116 (by kernel_rfl) rfl (Nat.le_of_ble_eq_true rfl) (codeP_of_vc (pl := np) tabOk follows_mixed (by kernel_rfl) ?_)
  rw [Try.ntmps116]
  simp -implicitDefEqProofs (maxSteps := 1000000) (disch := omega) only [↓vcB,↓gd,↓opP,↓qv,↓ef,↓bslS,↓stS,↓mkS,↓rangeS,↓nextS,↓entryS,↓delS,↓mupS,↓appS,↓s2bS,↓resS,evB,Sx.look,slot,↓lkL,putS,putO,argsL,↓reduceIte,ofV,of1,lookH,putH,List.replicate,List.append,convS,fldA,nthT,idxA,idxS,fldS,oslN,bnd,slS,unS,valI,lenS,lookS,takeC,parts,asRow,single,rdF,Ent.row,ldS,sz,szL,wrF,bldF,plT,bldS,srcS,nilS,nilEq,mapC,binH,binS2,structS,eqL,eqF,binS,arrS,isI,tupS,stor,storL,Value.oneCell',minS,maxS,capS,Nat.reduceAdd,Nat.reduceSub,Nat.reduceMul,Nat.reduceLT,Nat.reduceLeDiff,Nat.reduceEqDiff,Nat.reduceBEq,Int.reduceToNat,Int.reduceNeg,if_true,if_false,reduceIte,stays,inL,same1,qn,ldN,convN,lenN,cond_true,cond_false,implies_true,Int.reduceEq,Int.reduceNe,Int.reduceLE,Int.reduceLT,forall_eq_or_imp,forall_eq,ne_eq,reduceCtorEq,notInt,numB,tabB,Array.reduceGetElem?,res20,liB]
  refine callP_frame (KL := fun _ v h' => v = .ptr 0 0 ∧ h' = [.cells true [.int .u32 (nat (iv 0)), .int .u32 (nat (iv 1)), .int .u32 (nat (iv 2)), .int .u32 (nat (iv 3)), .int .u32 (nat (iv 4)), .int .u32 (nat (iv 5)), .int .u32 (nat (iv 6)), .int .u32 (nat (iv 7)), .osl 1 0 0 1 0, .int .i64 0], .row true 0 1 fun i => .int .u8 0]) [] (c16l _ ⟨rfl, rfl⟩) List.nodup_nil trivial trivial trivial rfl ?_
  rintro v h' ⟨rfl, rfl⟩
  refine ⟨by simp [slot, lkL, fixed, rg, renH, chEq, lookH, eqvL, eqv, eqvF, rnmL, rnm, liveN, Chunk.live, goodH, Chunk.good, okL, ok, sz, szL, storL, stor, renT, okT, has, upG, up, nth, roOk, keepsLive, Chunk.wr, lay, rnmC, putH], trivial, ?_⟩
  simp -implicitDefEqProofs (maxSteps := 1000000) (disch := omega) only [↓vcB,↓gd,↓opP,↓qv,↓ef,↓bslS,↓stS,↓mkS,↓rangeS,↓nextS,↓entryS,↓delS,↓mupS,↓appS,↓s2bS,↓resS,evB,Sx.look,slot,↓lkL,putS,putO,argsL,↓reduceIte,ofV,of1,lookH,putH,List.replicate,List.append,convS,fldA,nthT,idxA,idxS,fldS,oslN,bnd,slS,unS,valI,lenS,lookS,takeC,parts,asRow,single,rdF,Ent.row,ldS,sz,szL,wrF,bldF,plT,bldS,srcS,nilS,nilEq,mapC,binH,binS2,structS,eqL,eqF,binS,arrS,isI,tupS,stor,storL,Value.oneCell',minS,maxS,capS,Nat.reduceAdd,Nat.reduceSub,Nat.reduceMul,Nat.reduceLT,Nat.reduceLeDiff,Nat.reduceEqDiff,Nat.reduceBEq,Int.reduceToNat,Int.reduceNeg,if_true,if_false,reduceIte,stays,inL,same1,qn,ldN,convN,lenN,cond_true,cond_false,implies_true,Int.reduceEq,Int.reduceNe,Int.reduceLE,Int.reduceLT,forall_eq_or_imp,forall_eq,ne_eq,reduceCtorEq,notInt,numB,tabB,Array.reduceGetElem?,res20,upG,up,nth,lay,rnmC,rnm,rnmL,Chunk.wr,liB]
  refine callP_frame (argsL := [.ptr 0 0, .osl 2 d e 1 len]) (KL := fun _ v h' => v = .tup [] ∧ h' = [.cells true [.int .u32 (nat (blk iv (cat 0 (fun _ => 0) fun i => B (e + i)) ((0 + len) / 64) 0)), .int .u32 (nat (blk iv (cat 0 (fun _ => 0) fun i => B (e + i)) ((0 + len) / 64) 1)), .int .u32 (nat (blk iv (cat 0 (fun _ => 0) fun i => B (e + i)) ((0 + len) / 64) 2)), .int .u32 (nat (blk iv (cat 0 (fun _ => 0) fun i => B (e + i)) ((0 + len) / 64) 3)), .int .u32 (nat (blk iv (cat 0 (fun _ => 0) fun i => B (e + i)) ((0 + len) / 64) 4)), .int .u32 (nat (blk iv (cat 0 (fun _ => 0) fun i => B (e + i)) ((0 + len) / 64) 5)), .int .u32 (nat (blk iv (cat 0 (fun _ => 0) fun i => B (e + i)) ((0 + len) / 64) 6)), .int .u32 (nat (blk iv (cat 0 (fun _ => 0) fun i => B (e + i)) ((0 + len) / 64) 7)), .osl 3 0 0 1 (0 + len - 64 * ((0 + len) / 64)), .int .i64 (0 + len : Nat)], .none, .row false m 1 (fun i => .int .u8 (nat (B i))),
      .row true (0 + len - 64 * ((0 + len) / 64)) 1 fun i => .int .u8 (nat (cat 0 (fun _ => 0) (fun i => B (e + i)) (64 * ((0 + len) / 64) + i)))]) [2, 3, 0]
      (c17l iv 0 0 d e len m (fun _ => 0) B hm (by omega) (by omega) _ ⟨rfl, rfl⟩) ?_ ?_ ?_ ?_ ?_ ?_
  · simp
  · simp [slot, lkL, fixed, rg, renH, chEq, lookH, eqvL, eqv, eqvF, rnmL, rnm, liveN, Chunk.live, goodH, Chunk.good, okL, ok, sz, szL, storL, stor, renT, okT, has, upG, up, nth, roOk, keepsLive, Chunk.wr, lay, rnmC, putH]
  · simp [slot, lkL, fixed, rg, renH, chEq, lookH, eqvL, eqv, eqvF, rnmL, rnm, liveN, Chunk.live, goodH, Chunk.good, okL, ok, sz, szL, storL, stor, renT, okT, has, upG, up, nth, roOk, keepsLive, Chunk.wr, lay, rnmC, putH]
  · simp [slot, lkL, fixed, rg, renH, chEq, lookH, eqvL, eqv, eqvF, rnmL, rnm, liveN, Chunk.live, goodH, Chunk.good, okL, ok, sz, szL, storL, stor, renT, okT, has, upG, up, nth, roOk, keepsLive, Chunk.wr, lay, rnmC, putH]
  · simp [slot, lkL, fixed, rg, renH, chEq, lookH, eqvL, eqv, eqvF, rnmL, rnm, liveN, Chunk.live, goodH, Chunk.good, okL, ok, sz, szL, storL, stor, renT, okT, has, upG, up, nth, roOk, keepsLive, Chunk.wr, lay, rnmC, putH]
  · rintro v h' ⟨rfl, rfl⟩
    refine ⟨by simp [slot, lkL, fixed, rg, renH, chEq, lookH, eqvL, eqv, eqvF, rnmL, rnm, liveN, Chunk.live, goodH, Chunk.good, okL, ok, sz, szL, storL, stor, renT, okT, has, upG, up, nth, roOk, keepsLive, Chunk.wr, lay, rnmC, putH], by simp [slot, lkL, fixed, rg, renH, chEq, lookH, eqvL, eqv, eqvF, rnmL, rnm, liveN, Chunk.live, goodH, Chunk.good, okL, ok, sz, szL, storL, stor, renT, okT, has, upG, up, nth, roOk, keepsLive, Chunk.wr, lay, rnmC, putH], ?_⟩
    simp -implicitDefEqProofs (maxSteps := 1000000) (disch := omega) only [↓vcB,↓gd,↓opP,↓qv,↓ef,↓bslS,↓stS,↓mkS,↓rangeS,↓nextS,↓entryS,↓delS,↓mupS,↓appS,↓s2bS,↓resS,evB,Sx.look,slot,↓lkL,putS,putO,argsL,↓reduceIte,ofV,of1,lookH,putH,List.replicate,List.append,convS,fldA,nthT,idxA,idxS,fldS,oslN,bnd,slS,unS,valI,lenS,lookS,takeC,parts,asRow,single,rdF,Ent.row,ldS,sz,szL,wrF,bldF,plT,bldS,srcS,nilS,nilEq,mapC,binH,binS2,structS,eqL,eqF,binS,arrS,isI,tupS,stor,storL,Value.oneCell',minS,maxS,capS,Nat.reduceAdd,Nat.reduceSub,Nat.reduceMul,Nat.reduceLT,Nat.reduceLeDiff,Nat.reduceEqDiff,Nat.reduceBEq,Int.reduceToNat,Int.reduceNeg,if_true,if_false,reduceIte,stays,inL,same1,qn,ldN,convN,lenN,cond_true,cond_false,implies_true,Int.reduceEq,Int.reduceNe,Int.reduceLE,Int.reduceLT,forall_eq_or_imp,forall_eq,ne_eq,reduceCtorEq,notInt,numB,tabB,Array.reduceGetElem?,res20,upG,up,nth,lay,rnmC,rnm,rnmL,Chunk.wr,liB]
    refine callP_frame (argsL := [.ptr 0 0]) (KL := fun _ v h' => v = .fam 32 1 (fun i => .int .u8 (nat (shaD len (fun i => B (e + i)) i))) ∧ h' = [.cells true [.int .u32 (nat (blk iv (cat 0 (fun _ => 0) fun i => B (e + i)) (len / 64) 0)), .int .u32 (nat (blk iv (cat 0 (fun _ => 0) fun i => B (e + i)) (len / 64) 1)), .int .u32 (nat (blk iv (cat 0 (fun _ => 0) fun i => B (e + i)) (len / 64) 2)), .int .u32 (nat (blk iv (cat 0 (fun _ => 0) fun i => B (e + i)) (len / 64) 3)), .int .u32 (nat (blk iv (cat 0 (fun _ => 0) fun i => B (e + i)) (len / 64) 4)), .int .u32 (nat (blk iv (cat 0 (fun _ => 0) fun i => B (e + i)) (len / 64) 5)), .int .u32 (nat (blk iv (cat 0 (fun _ => 0) fun i => B (e + i)) (len / 64) 6)), .int .u32 (nat (blk iv (cat 0 (fun _ => 0) fun i => B (e + i)) (len / 64) 7)), .osl 1 0 0 1 (len - 64 * (len / 64)), .int .i64 (len : Nat)],
      .row true (len - 64 * (len / 64)) 1 fun i => .int .u8 (nat (cat 0 (fun _ => 0) (fun i => B (e + i)) (64 * (len / 64) + i)))]) [2, 4]
      (c19l (blk iv (cat 0 (fun _ => 0) fun i => B (e + i)) (len / 64)) len (len - 64 * (len / 64)) (fun i => cat 0 (fun _ => 0) (fun i => B (e + i)) (64 * (len / 64) + i)) (by omega) (by omega) _ ⟨rfl, rfl⟩) ?_ ?_ ?_ ?_ ?_ ?_
    · simp
    · simp [slot, lkL, fixed, rg, renH, chEq, lookH, eqvL, eqv, eqvF, rnmL, rnm, liveN, Chunk.live, goodH, Chunk.good, okL, ok, sz, szL, storL, stor, renT, okT, has, upG, up, nth, roOk, keepsLive, Chunk.wr, lay, rnmC, putH]
    · simp [slot, lkL, fixed, rg, renH, chEq, lookH, eqvL, eqv, eqvF, rnmL, rnm, liveN, Chunk.live, goodH, Chunk.good, okL, ok, sz, szL, storL, stor, renT, okT, has, upG, up, nth, roOk, keepsLive, Chunk.wr, lay, rnmC, putH]
    · simp [slot, lkL, fixed, rg, renH, chEq, lookH, eqvL, eqv, eqvF, rnmL, rnm, liveN, Chunk.live, goodH, Chunk.good, okL, ok, sz, szL, storL, stor, renT, okT, has, upG, up, nth, roOk, keepsLive, Chunk.wr, lay, rnmC, putH]
    · simp [slot, lkL, fixed, rg, renH, chEq, lookH, eqvL, eqv, eqvF, rnmL, rnm, liveN, Chunk.live, goodH, Chunk.good, okL, ok, sz, szL, storL, stor, renT, okT, has, upG, up, nth, roOk, keepsLive, Chunk.wr, lay, rnmC, putH]
    · rintro v h' ⟨rfl, rfl⟩
      refine ⟨by simp [slot, lkL, fixed, rg, renH, chEq, lookH, eqvL, eqv, eqvF, rnmL, rnm, liveN, Chunk.live, goodH, Chunk.good, okL, ok, sz, szL, storL, stor, renT, okT, has, upG, up, nth, roOk, keepsLive, Chunk.wr, lay, rnmC, putH], by simp [slot, lkL, fixed, rg, renH, chEq, lookH, eqvL, eqv, eqvF, rnmL, rnm, liveN, Chunk.live, goodH, Chunk.good, okL, ok, sz, szL, storL, stor, renT, okT, has, upG, up, nth, roOk, keepsLive, Chunk.wr, lay, rnmC, putH], ?_⟩
      simp -implicitDefEqProofs (maxSteps := 1000000) (disch := omega) only [↓vcB,↓gd,↓opP,↓qv,↓ef,↓bslS,↓stS,↓mkS,↓rangeS,↓nextS,↓entryS,↓delS,↓mupS,↓appS,↓s2bS,↓resS,evB,Sx.look,slot,↓lkL,putS,putO,argsL,↓reduceIte,ofV,of1,lookH,putH,List.replicate,List.append,convS,fldA,nthT,idxA,idxS,fldS,oslN,bnd,slS,unS,valI,lenS,lookS,takeC,parts,asRow,single,rdF,Ent.row,ldS,sz,szL,wrF,bldF,plT,bldS,srcS,nilS,nilEq,mapC,binH,binS2,structS,eqL,eqF,binS,arrS,isI,tupS,stor,storL,Value.oneCell',minS,maxS,capS,Nat.reduceAdd,Nat.reduceSub,Nat.reduceMul,Nat.reduceLT,Nat.reduceLeDiff,Nat.reduceEqDiff,Nat.reduceBEq,Int.reduceToNat,Int.reduceNeg,if_true,if_false,reduceIte,stays,inL,same1,qn,ldN,convN,lenN,cond_true,cond_false,implies_true,Int.reduceEq,Int.reduceNe,Int.reduceLE,Int.reduceLT,forall_eq_or_imp,forall_eq,ne_eq,reduceCtorEq,notInt,numB,tabB,Array.reduceGetElem?,res20,upG,up,nth,lay,rnmC,rnm,rnmL,Chunk.wr,liB]
      exact intoR_take [.row false m 1 fun i => .int .u8 (nat (B i))] rfl rfl (by simp [slot, lkL, fixed, rg, renH, chEq, lookH, eqvL, eqv, eqvF, rnmL, rnm, liveN, Chunk.live, goodH, Chunk.good, okL, ok, sz, szL, storL, stor, renT, okT]) (by simp [slot, lkL, fixed, rg, renH, chEq, lookH, eqvL, eqv, eqvF, rnmL, rnm, liveN, Chunk.live, goodH, Chunk.good, okL, ok, sz, szL, storL, stor, renT, okT]) hK

end Go.Proofs.Ytgocfglmideobaa.S

set_option linter.all false
set_option maxRecDepth 40000
namespace Go.Proofs.Ytgocfglmideobaa.S
open Go Go.Sx

end Go.Proofs.Ytgocfglmideobaa.S

set_option linter.all false
set_option maxRecDepth 40000
namespace Go.Proofs.Ytgocfglmideobaa.S
open Go Go.Sx

theorem c20' (m len : Nat) (B : Nat → BitVec 8) (f : Nat → SV) (hf : ∀ i, i < m → f i = .int .u8 (nat (B i))) (hm : len ≤ m) (hl : len ≤ 70368744177664) {h : List Chunk} {nm : Nat} (wr : Bool) (hh : lookH h nm = .row wr m 1 f) (hnm : nm < h.length) (K : Tok → SV → List Chunk → Prop)
    (hK : K .mk (.fam 32 1 fun i => .int .u8 (nat (shaD len B i))) h) : callP Try.prog 116 [.osl nm 0 0 1 len] h K := by
  refine callP_frame (argsL := [.osl 0 0 0 1 len]) (KL := fun _ v h' => v = .fam 32 1 (fun i => .int .u8 (nat (shaD len (fun i => B (0 + i)) i))) ∧ h' = [.row false m 1 fun i => .int .u8 (nat (B i))]) [nm] (c20l m 0 0 len B (by omega) hl _ ⟨rfl, rfl⟩) ?_ ?_ ?_ ?_ ?_ ?_
  · simp
  · simp only [has, hh, chEq, and_true]
    exact ⟨hnm, by simp, trivial, trivial, fun i hi => by rw [hf i hi]; simp [rnm, eqv]⟩
  · simp [slot, lkL, fixed, rg, renH, chEq, lookH, eqvL, eqv, eqvF, rnmL, rnm, liveN, Chunk.live, goodH, Chunk.good, okL, ok, sz, szL, storL, stor, renT, okT, has, upG, up, nth, roOk, keepsLive, Chunk.wr, lay, rnmC, putH]
  · simp [slot, lkL, fixed, rg, renH, chEq, lookH, eqvL, eqv, eqvF, rnmL, rnm, liveN, Chunk.live, goodH, Chunk.good, okL, ok, sz, szL, storL, stor, renT, okT, has, upG, up, nth, roOk, keepsLive, Chunk.wr, lay, rnmC, putH]
  · simp [slot, lkL, fixed, rg, renH, chEq, lookH, eqvL, eqv, eqvF, rnmL, rnm, liveN, Chunk.live, goodH, Chunk.good, okL, ok, sz, szL, storL, stor, renT, okT, has, upG, up, nth, roOk, keepsLive, Chunk.wr, lay, rnmC, putH]
  · rintro v h' ⟨rfl, rfl⟩
    refine ⟨by simp [slot, lkL, fixed, rg, renH, chEq, lookH, eqvL, eqv, eqvF, rnmL, rnm, liveN, Chunk.live, goodH, Chunk.good, okL, ok, sz, szL, storL, stor, renT, okT, has, upG, up, nth, roOk, keepsLive, Chunk.wr, lay, rnmC, putH], by simp [slot, lkL, fixed, rg, renH, chEq, lookH, eqvL, eqv, eqvF, rnmL, rnm, liveN, Chunk.live, goodH, Chunk.good, okL, ok, sz, szL, storL, stor, renT, okT, has, upG, up, nth, roOk, keepsLive, Chunk.wr, lay, rnmC, putH], ?_⟩
    simpa [rnm, lay, Chunk.wr] using hK

end Go.Proofs.Ytgocfglmideobaa.S

set_option linter.all false
set_option maxRecDepth 40000
namespace Go.Proofs.Ytgocfglmideobaa.S
open Go Go.Sx


def mT (x y : BitVec 64) : BitVec 64 := (x >>> 32) * (y &&& 4294967295#64) + ((x &&& 4294967295#64) * (y &&& 4294967295#64)) >>> 32
def mulHi (x y : BitVec 64) : BitVec 64 :=
  (x >>> 32) * (y >>> 32) + mT x y >>> 32 + ((mT x y &&& 4294967295#64) + (x &&& 4294967295#64) * (y >>> 32)) >>> 32
theorem andM (x : BitVec 64) : bits .and .u64 (nat x) 4294967295 = nat (x &&& 4294967295#64) := and64 x 4294967295#64
theorem res69 : Try.f167.results.toList = [.tmp 4, .tmp 5] := rfl
theorem c69 (x y : BitVec 64) (h : List Chunk) (K : Tok → SV → List Chunk → Prop) (hK : K .mk (.tup [.int .u64 (nat (mulHi x y)), .int .u64 (nat (x * y))]) h) : callP Try.prog 167 [.int .u64 (nat x), .int .u64 (nat y)] h K := by
  refine callP_of_code tabOk Try.func167 (by kernel_rfl) rfl (Nat.le_of_ble_eq_true rfl) (codeP_of_vc (pl := np) tabOk follows_mixed (by kernel_rfl) ?_)
  rw [Try.ntmps167]
  simp -implicitDefEqProofs (maxSteps := 1000000) (disch := omega) only [↓vcB,↓gd,↓opP,↓qv,↓ef,↓bslS,↓stS,↓mkS,↓rangeS,↓nextS,↓entryS,↓delS,↓mupS,↓appS,↓s2bS,↓resS,evB,Sx.look,slot,↓lkL,putS,putO,argsL,↓reduceIte,ofV,of1,lookH,putH,List.replicate,List.append,convS,fldA,nthT,idxA,idxS,fldS,oslN,bnd,slS,unS,valI,lenS,lookS,takeC,parts,asRow,single,rdF,Ent.row,ldS,sz,szL,wrF,bldF,plT,bldS,srcS,nilS,nilEq,mapC,binH,binS2,structS,eqL,eqF,binS,arrS,isI,tupS,stor,storL,Value.oneCell',minS,maxS,capS,Nat.reduceAdd,Nat.reduceSub,Nat.reduceMul,Nat.reduceLT,Nat.reduceLeDiff,Nat.reduceEqDiff,Nat.reduceBEq,Int.reduceToNat,Int.reduceNeg,if_true,if_false,reduceIte,stays,inL,same1,qn,ldN,convN,lenN,cond_true,cond_false,implies_true,Int.reduceEq,Int.reduceNe,Int.reduceLE,Int.reduceLT,forall_eq_or_imp,forall_eq,ne_eq,reduceCtorEq,notInt,numB,tabB,Array.reduceGetElem?,res69,andM,liB]
  exact intoR_refl (Nat.le_refl _) hK

def rTest (p y : BitVec 64) : Bool :=
  let top := mulHi (y * y) y + mulHi y y * y
  decide (nat top < nat (p <<< 32)) || (nat top == nat (p <<< 32) && nat (y * y * y) == 0)
def rootX (p : BitVec 64) : Nat → BitVec 64
  | 0 => 0
  | k + 1 => if rTest p (rootX p k ||| 1#64 <<< (34 - k)) then rootX p k ||| 1#64 <<< (34 - k) else rootX p k
theorem res56 : Try.f152.results.toList = [.tmp 2] := rfl
theorem c56l (p : BitVec 64) (K : Tok → SV → List Chunk → Prop) (hK : K .mk (.int .u32 (nat ((rootX p 35).setWidth 32))) []) : callP Try.prog 152 [.int .u64 (nat p)] [] K := by
  refine callP_of_code tabOk Try.func152 (by kernel_rfl) rfl (Nat.le_of_ble_eq_true rfl) (codeP_of_vc (pl := np) tabOk follows_mixed (by kernel_rfl) ?_)
  rw [Try.ntmps152]
  simp -implicitDefEqProofs (maxSteps := 1000000) (disch := omega) only [↓vcB,↓gd,↓opP,↓qv,↓ef,↓bslS,↓stS,↓mkS,↓rangeS,↓nextS,↓entryS,↓delS,↓mupS,↓appS,↓s2bS,↓resS,evB,Sx.look,slot,↓lkL,putS,putO,argsL,↓reduceIte,ofV,of1,lookH,putH,List.replicate,List.append,convS,fldA,nthT,idxA,idxS,fldS,oslN,bnd,slS,unS,valI,lenS,lookS,takeC,parts,asRow,single,rdF,Ent.row,ldS,sz,szL,wrF,bldF,plT,bldS,srcS,nilS,nilEq,mapC,binH,binS2,structS,eqL,eqF,binS,arrS,isI,tupS,stor,storL,Value.oneCell',minS,maxS,capS,Nat.reduceAdd,Nat.reduceSub,Nat.reduceMul,Nat.reduceLT,Nat.reduceLeDiff,Nat.reduceEqDiff,Nat.reduceBEq,Int.reduceToNat,Int.reduceNeg,if_true,if_false,reduceIte,stays,inL,same1,qn,ldN,convN,lenN,cond_true,cond_false,implies_true,Int.reduceEq,Int.reduceNe,Int.reduceLE,Int.reduceLT,forall_eq_or_imp,forall_eq,ne_eq,reduceCtorEq,notInt,numB,tabB,Array.reduceGetElem?,res56,liB]
  refine codeP_loop (pl := np) tabOk follows_mixed (by kernel_rfl) (fun m s => ∃ (k : Nat) (j : Nat → Value), k + m = 35 ∧ s = ⟨⟨53, [(0, .int .u64 (nat p)), (3, .int .u64 (nat (rootX p k))), (4, .int .i64 (34 - (k : Nat)))], j⟩, [], []⟩) ?_ ?_
  · refine into_mk [] [(0, .int .u64 (nat p)), (3, .int .u64 (nat (rootX p 0))), (4, .int .i64 (34 - (0 : Nat)))] [] ?_ ?_ ?_ ?_ ?_ ?_ ?_ ?_
    · simp [slot, lkL, fixed, rg, renH, chEq, lookH, eqvL, eqv, eqvF, rnmL, rnm, liveN, Chunk.live, goodH, Chunk.good, okL, ok, sz, szL, storL, stor, renT, okT]
    · simp [slot, lkL, fixed, rg, renH, chEq, lookH, eqvL, eqv, eqvF, rnmL, rnm, liveN, Chunk.live, goodH, Chunk.good, okL, ok, sz, szL, storL, stor, renT, okT]
    · simp [slot, lkL, fixed, rg, renH, chEq, lookH, eqvL, eqv, eqvF, rnmL, rnm, liveN, Chunk.live, goodH, Chunk.good, okL, ok, sz, szL, storL, stor, renT, okT]
    · simp [slot, lkL, fixed, rg, renH, chEq, lookH, eqvL, eqv, eqvF, rnmL, rnm, liveN, Chunk.live, goodH, Chunk.good, okL, ok, sz, szL, storL, stor, renT, okT]
    · simp [slot, lkL, fixed, rg, renH, chEq, lookH, eqvL, eqv, eqvF, rnmL, rnm, liveN, Chunk.live, goodH, Chunk.good, okL, ok, sz, szL, storL, stor, renT, okT]
    · simp [slot, lkL, fixed, rg, renH, chEq, lookH, eqvL, eqv, eqvF, rnmL, rnm, liveN, Chunk.live, goodH, Chunk.good, okL, ok, sz, szL, storL, stor, renT, okT]
      rfl
    · simp [slot, lkL, fixed, rg, renH, chEq, lookH, eqvL, eqv, eqvF, rnmL, rnm, liveN, Chunk.live, goodH, Chunk.good, okL, ok, sz, szL, storL, stor, renT, okT]
    · intro j
      exact ⟨35, 0, j, by omega, rfl⟩
  · rintro m s ⟨k, j, hk, rfl⟩
    by_cases hk35 : k = 35
    · subst hk35
      have f3 : (decide ((34 - ((35 : Nat) : Int)) ≥ 0)) = false := by decide
      simp -implicitDefEqProofs (maxSteps := 1000000) (disch := omega) only [↓vcB,↓gd,↓opP,↓qv,↓ef,↓bslS,↓stS,↓mkS,↓rangeS,↓nextS,↓entryS,↓delS,↓mupS,↓appS,↓s2bS,↓resS,evB,Sx.look,slot,↓lkL,putS,putO,argsL,↓reduceIte,ofV,of1,lookH,putH,List.replicate,List.append,convS,fldA,nthT,idxA,idxS,fldS,oslN,bnd,slS,unS,valI,lenS,lookS,takeC,parts,asRow,single,rdF,Ent.row,ldS,sz,szL,wrF,bldF,plT,bldS,srcS,nilS,nilEq,mapC,binH,binS2,structS,eqL,eqF,binS,arrS,isI,tupS,stor,storL,Value.oneCell',minS,maxS,capS,Nat.reduceAdd,Nat.reduceSub,Nat.reduceMul,Nat.reduceLT,Nat.reduceLeDiff,Nat.reduceEqDiff,Nat.reduceBEq,Int.reduceToNat,Int.reduceNeg,if_true,if_false,reduceIte,stays,inL,same1,qn,ldN,convN,lenN,cond_true,cond_false,implies_true,Int.reduceEq,Int.reduceNe,Int.reduceLE,Int.reduceLT,forall_eq_or_imp,forall_eq,ne_eq,reduceCtorEq,notInt,numB,tabB,Array.reduceGetElem?,res56,f3,liB]
      exact intoR_take [] rfl rfl trivial (by simp [slot, lkL, fixed, rg, renH, chEq, lookH, eqvL, eqv, eqvF, rnmL, rnm, liveN, Chunk.live, goodH, Chunk.good, okL, ok, sz, szL, storL, stor, renT, okT]) hK
    · have f3 : (decide ((34 - (k : Int)) ≥ 0)) = true := by simp; omega
      have f4 : IntKind.u64.wrap (34 - (k : Int)) = ((34 - k : Nat) : Int) := by
        rw [show (34 : Int) - k = ((34 - k : Nat) : Int) by omega]
        exact Go.Sx.wrap_small (k := .u64) rfl (by omega) (by rw [show IntKind.u64.bits = 64 from rfl]; omega)
      have f5 : shlS .u64 1 ((34 - k : Nat) : Int) = nat (1#64 <<< (34 - k)) := shl64 1#64 (34 - k) (by omega)
      have f6 : IntKind.i64.wrap (34 - (k : Int) - 1) = 34 - ((k + 1 : Nat) : Int) := by rw [wrap64 (by omega) (by omega)]; omega
      simp -implicitDefEqProofs (maxSteps := 1000000) (disch := omega) only [↓vcB,↓gd,↓opP,↓qv,↓ef,↓bslS,↓stS,↓mkS,↓rangeS,↓nextS,↓entryS,↓delS,↓mupS,↓appS,↓s2bS,↓resS,evB,Sx.look,slot,↓lkL,putS,putO,argsL,↓reduceIte,ofV,of1,lookH,putH,List.replicate,List.append,convS,fldA,nthT,idxA,idxS,fldS,oslN,bnd,slS,unS,valI,lenS,lookS,takeC,parts,asRow,single,rdF,Ent.row,ldS,sz,szL,wrF,bldF,plT,bldS,srcS,nilS,nilEq,mapC,binH,binS2,structS,eqL,eqF,binS,arrS,isI,tupS,stor,storL,Value.oneCell',minS,maxS,capS,Nat.reduceAdd,Nat.reduceSub,Nat.reduceMul,Nat.reduceLT,Nat.reduceLeDiff,Nat.reduceEqDiff,Nat.reduceBEq,Int.reduceToNat,Int.reduceNeg,if_true,if_false,reduceIte,stays,inL,same1,qn,ldN,convN,lenN,cond_true,cond_false,implies_true,Int.reduceEq,Int.reduceNe,Int.reduceLE,Int.reduceLT,forall_eq_or_imp,forall_eq,ne_eq,reduceCtorEq,notInt,numB,tabB,Array.reduceGetElem?,res56,f3,f4,f5,f6,liB]
      refine ⟨by omega, c69 _ _ _ _ ?_⟩
      simp -implicitDefEqProofs (maxSteps := 1000000) (disch := omega) only [↓vcB,↓gd,↓opP,↓qv,↓ef,↓bslS,↓stS,↓mkS,↓rangeS,↓nextS,↓entryS,↓delS,↓mupS,↓appS,↓s2bS,↓resS,evB,Sx.look,slot,↓lkL,putS,putO,argsL,↓reduceIte,ofV,of1,lookH,putH,List.replicate,List.append,convS,fldA,nthT,idxA,idxS,fldS,oslN,bnd,slS,unS,valI,lenS,lookS,takeC,parts,asRow,single,rdF,Ent.row,ldS,sz,szL,wrF,bldF,plT,bldS,srcS,nilS,nilEq,mapC,binH,binS2,structS,eqL,eqF,binS,arrS,isI,tupS,stor,storL,Value.oneCell',minS,maxS,capS,Nat.reduceAdd,Nat.reduceSub,Nat.reduceMul,Nat.reduceLT,Nat.reduceLeDiff,Nat.reduceEqDiff,Nat.reduceBEq,Int.reduceToNat,Int.reduceNeg,if_true,if_false,reduceIte,stays,inL,same1,qn,ldN,convN,lenN,cond_true,cond_false,implies_true,Int.reduceEq,Int.reduceNe,Int.reduceLE,Int.reduceLT,forall_eq_or_imp,forall_eq,ne_eq,reduceCtorEq,notInt,numB,tabB,Array.reduceGetElem?,res56,f3,f4,f5,f6,liB]
      refine c69 _ _ _ _ ?_
      simp -implicitDefEqProofs (maxSteps := 1000000) (disch := omega) only [↓vcB,↓gd,↓opP,↓qv,↓ef,↓bslS,↓stS,↓mkS,↓rangeS,↓nextS,↓entryS,↓delS,↓mupS,↓appS,↓s2bS,↓resS,evB,Sx.look,slot,↓lkL,putS,putO,argsL,↓reduceIte,ofV,of1,lookH,putH,List.replicate,List.append,convS,fldA,nthT,idxA,idxS,fldS,oslN,bnd,slS,unS,valI,lenS,lookS,takeC,parts,asRow,single,rdF,Ent.row,ldS,sz,szL,wrF,bldF,plT,bldS,srcS,nilS,nilEq,mapC,binH,binS2,structS,eqL,eqF,binS,arrS,isI,tupS,stor,storL,Value.oneCell',minS,maxS,capS,Nat.reduceAdd,Nat.reduceSub,Nat.reduceMul,Nat.reduceLT,Nat.reduceLeDiff,Nat.reduceEqDiff,Nat.reduceBEq,Int.reduceToNat,Int.reduceNeg,if_true,if_false,reduceIte,stays,inL,same1,qn,ldN,convN,lenN,cond_true,cond_false,implies_true,Int.reduceEq,Int.reduceNe,Int.reduceLE,Int.reduceLT,forall_eq_or_imp,forall_eq,ne_eq,reduceCtorEq,notInt,numB,tabB,Array.reduceGetElem?,res56,f3,f4,f5,f6,liB]
      obtain ⟨y, hy⟩ : ∃ y, y = rootX p k ||| 1#64 <<< (34 - k) := ⟨_, rfl⟩
      simp only [← hy]
      have hx : rootX p (k + 1) = if rTest p y then y else rootX p k := by rw [hy]; rfl
      simp only [rTest] at hx
      clear hy
      refine ⟨Sx.imp_intro fun hA => ⟨Sx.imp_intro fun hB => ⟨Sx.imp_intro fun hC => ?_, Sx.imp_intro fun hC => ?_⟩, Sx.imp_intro fun hB => ?_⟩, Sx.imp_intro fun hA => ?_⟩
      all_goals
        simp only [*, Bool.true_or, Bool.false_or, Bool.true_and, Bool.false_and, Bool.and_true, if_true, Bool.false_eq_true, if_false] at hx
        refine into_mk [] [(0, .int .u64 (nat p)), (3, .int .u64 (nat (rootX p (k + 1)))), (4, .int .i64 (34 - (k + 1 : Nat)))] [] ?_ ?_ ?_ ?_ ?_ ?_ ?_ ?_
        · simp [slot, lkL, fixed, rg, renH, chEq, lookH, eqvL, eqv, eqvF, rnmL, rnm, liveN, Chunk.live, goodH, Chunk.good, okL, ok, sz, szL, storL, stor, renT, okT]
        · simp [slot, lkL, fixed, rg, renH, chEq, lookH, eqvL, eqv, eqvF, rnmL, rnm, liveN, Chunk.live, goodH, Chunk.good, okL, ok, sz, szL, storL, stor, renT, okT]
        · simp [slot, lkL, fixed, rg, renH, chEq, lookH, eqvL, eqv, eqvF, rnmL, rnm, liveN, Chunk.live, goodH, Chunk.good, okL, ok, sz, szL, storL, stor, renT, okT]
        · simp [slot, lkL, fixed, rg, renH, chEq, lookH, eqvL, eqv, eqvF, rnmL, rnm, liveN, Chunk.live, goodH, Chunk.good, okL, ok, sz, szL, storL, stor, renT, okT]
        · simp [slot, lkL, fixed, rg, renH, chEq, lookH, eqvL, eqv, eqvF, rnmL, rnm, liveN, Chunk.live, goodH, Chunk.good, okL, ok, sz, szL, storL, stor, renT, okT]
        · simp [slot, lkL, fixed, rg, renH, chEq, lookH, eqvL, eqv, eqvF, rnmL, rnm, liveN, Chunk.live, goodH, Chunk.good, okL, ok, sz, szL, storL, stor, renT, okT]
          rw [hx]
        · simp [slot, lkL, fixed, rg, renH, chEq, lookH, eqvL, eqv, eqvF, rnmL, rnm, liveN, Chunk.live, goodH, Chunk.good, okL, ok, sz, szL, storL, stor, renT, okT]
        · intro j
          exact ⟨m - 1, by omega, k + 1, j, by omega, rfl⟩
theorem c56 (p : BitVec 64) {h : List Chunk} (K : Tok → SV → List Chunk → Prop) (hK : K .mk (.int .u32 (nat ((rootX p 35).setWidth 32))) h) : callP Try.prog 152 [.int .u64 (nat p)] h K := by
  refine callP_frame (argsL := [.int .u64 (nat p)]) (KL := fun _ v h' => v = .int .u32 (nat ((rootX p 35).setWidth 32)) ∧ h' = []) [] (c56l p _ ⟨rfl, rfl⟩) List.nodup_nil trivial trivial (by simp [slot, lkL, fixed, rg, renH, chEq, lookH, eqvL, eqv, eqvF, rnmL, rnm, liveN, Chunk.live, goodH, Chunk.good, okL, ok, sz, szL, storL, stor, renT, okT, has, upG, up, nth, roOk, keepsLive, Chunk.wr, lay, rnmC, putH]) rfl ?_
  rintro v h' ⟨rfl, rfl⟩
  refine ⟨by simp [slot, lkL, fixed, rg, renH, chEq, lookH, eqvL, eqv, eqvF, rnmL, rnm, liveN, Chunk.live, goodH, Chunk.good, okL, ok, sz, szL, storL, stor, renT, okT, has, upG, up, nth, roOk, keepsLive, Chunk.wr, lay, rnmC, putH], trivial, ?_⟩
  simpa [rnm, lay] using hK
def primeL : List (BitVec 64) := [2, 3, 5, 7, 11, 13, 17, 19, 23, 29, 31, 37, 41, 43, 47, 53, 59, 61, 67, 71, 73, 79, 83, 89, 97, 101, 103, 107, 109, 113, 127, 131, 137, 139, 149, 151, 157, 163, 167, 173, 179, 181, 191, 193, 197, 199, 211, 223, 227, 229, 233, 239, 241, 251, 257, 263, 269, 271, 277, 281, 283, 293, 307, 311]
def primeB (i : Nat) : BitVec 64 := primeL.getD i 0
end Go.Proofs.Ytgocfglmideobaa.S

set_option linter.all false
set_option maxRecDepth 40000
namespace Go.Proofs.Ytgocfglmideobaa.S
open Go Go.Sx

/-- How many of the primes lie below. -/
def cntP (p : Nat) : Nat := (primeL.filter fun q => decide (q.toNat < p)).length
def allP (p k : Nat) : Bool := decide (∀ q, q < k → p % (primeB q).toNat ≠ 0)
theorem prime_yes : ∀ p, p < 312 → 2 ≤ p → allP p (cntP p) = true → (primeB (cntP p)).toNat = p ∧ cntP (p + 1) = cntP p + 1 := by decide +kernel
theorem prime_no : ∀ p, p < 312 → 2 ≤ p → allP p (cntP p) = false → cntP (p + 1) = cntP p := by decide +kernel
theorem prime_more : ∀ p, p < 312 → cntP p < 64 := by decide +kernel
theorem prime_end : cntP 312 = 64 := by decide +kernel
theorem prime_pos : ∀ i, i < 64 → 0 < (primeB i).toNat := by decide +kernel
theorem cnt2 : cntP 2 = 0 := by decide +kernel
theorem res55 : Try.f151.results.toList = [.cell 0 180] := rfl
set_option maxHeartbeats 4000000 in
theorem c55l (K : Tok → SV → List Chunk → Prop) (hK : K .mk (.fam 64 1 fun i => .int .u64 (nat (primeB i))) []) : callP Try.prog 151 [] [] K := by
  refine callP_of_code tabOk Try.func151 (by kernel_rfl) rfl (Nat.le_of_ble_eq_true rfl) (codeP_of_vc (pl := np) tabOk follows_mixed (by kernel_rfl) ?_)
  rw [Try.ntmps151]
  simp -implicitDefEqProofs (maxSteps := 1000000) (disch := omega) only [↓vcB,↓gd,↓opP,↓qv,↓ef,↓bslS,↓stS,↓mkS,↓rangeS,↓nextS,↓entryS,↓delS,↓mupS,↓appS,↓s2bS,↓resS,evB,Sx.look,slot,↓lkL,putS,putO,argsL,↓reduceIte,ofV,of1,lookH,putH,List.replicate,List.append,convS,fldA,nthT,idxA,idxS,fldS,oslN,bnd,slS,unS,valI,lenS,lookS,takeC,parts,asRow,single,rdF,Ent.row,ldS,sz,szL,wrF,bldF,plT,bldS,srcS,nilS,nilEq,mapC,binH,binS2,structS,eqL,eqF,binS,arrS,isI,tupS,stor,storL,Value.oneCell',minS,maxS,capS,Nat.reduceAdd,Nat.reduceSub,Nat.reduceMul,Nat.reduceLT,Nat.reduceLeDiff,Nat.reduceEqDiff,Nat.reduceBEq,Int.reduceToNat,Int.reduceNeg,if_true,if_false,reduceIte,stays,inL,same1,qn,ldN,convN,lenN,cond_true,cond_false,implies_true,Int.reduceEq,Int.reduceNe,Int.reduceLE,Int.reduceLT,forall_eq_or_imp,forall_eq,ne_eq,reduceCtorEq,notInt,numB,tabB,Array.reduceGetElem?,res55,liB]
  refine codeP_loop (pl := np) tabOk follows_mixed (by kernel_rfl) (fun m s => ∃ (p : Nat) (j : Nat → Value), p + m = 312 ∧ 2 ≤ p ∧ s = ⟨⟨33, [(0, .ptr 0 0), (1, .ptr 1 0), (2, .int .i64 (cntP p : Nat)), (3, .int .u64 (p : Nat))], j⟩, [.cells true [.fam 64 1 fun _ => .int .u64 0], .cells true [.fam 64 1 fun i => .int .u64 (nat (if i < cntP p then primeB i else 0))]], []⟩) ?_ ?_
  · refine into_mk [some 0, some 1] [(0, .ptr 0 0), (1, .ptr 1 0), (2, .int .i64 (cntP 2 : Nat)), (3, .int .u64 (2 : Nat))] [.cells true [.fam 64 1 fun _ => .int .u64 0], .cells true [.fam 64 1 fun i => .int .u64 (nat (if i < cntP 2 then primeB i else 0))]] ?_ ?_ ?_ ?_ ?_ ?_ ?_ ?_
    · simp [slot, lkL, fixed, rg, renH, chEq, lookH, eqvL, eqv, eqvF, rnmL, rnm, liveN, Chunk.live, goodH, Chunk.good, okL, ok, sz, szL, storL, stor, renT, okT]
    · simp [slot, lkL, fixed, rg, renH, chEq, lookH, eqvL, eqv, eqvF, rnmL, rnm, liveN, Chunk.live, goodH, Chunk.good, okL, ok, sz, szL, storL, stor, renT, okT]
    · simp [slot, lkL, fixed, rg, renH, chEq, lookH, eqvL, eqv, eqvF, rnmL, rnm, liveN, Chunk.live, goodH, Chunk.good, okL, ok, sz, szL, storL, stor, renT, okT, cnt2, nat]
    · simp [slot, lkL, fixed, rg, renH, chEq, lookH, eqvL, eqv, eqvF, rnmL, rnm, liveN, Chunk.live, goodH, Chunk.good, okL, ok, sz, szL, storL, stor, renT, okT]
    · simp [slot, lkL, fixed, rg, renH, chEq, lookH, eqvL, eqv, eqvF, rnmL, rnm, liveN, Chunk.live, goodH, Chunk.good, okL, ok, sz, szL, storL, stor, renT, okT]
    · simp [slot, lkL, fixed, rg, renH, chEq, lookH, eqvL, eqv, eqvF, rnmL, rnm, liveN, Chunk.live, goodH, Chunk.good, okL, ok, sz, szL, storL, stor, renT, okT, cnt2]
    · simp [slot, lkL, fixed, rg, renH, chEq, lookH, eqvL, eqv, eqvF, rnmL, rnm, liveN, Chunk.live, goodH, Chunk.good, okL, ok, sz, szL, storL, stor, renT, okT]
    · intro j
      exact ⟨310, 2, j, by omega, by omega, rfl⟩
  · rintro m s ⟨p, j, hp, hp2, rfl⟩
    obtain ⟨N, hN⟩ : ∃ N, N = cntP p := ⟨_, rfl⟩
    rw [← hN]
    simp -implicitDefEqProofs (maxSteps := 1000000) (disch := omega) only [↓vcB,↓gd,↓opP,↓qv,↓ef,↓bslS,↓stS,↓mkS,↓rangeS,↓nextS,↓entryS,↓delS,↓mupS,↓appS,↓s2bS,↓resS,evB,Sx.look,slot,↓lkL,putS,putO,argsL,↓reduceIte,ofV,of1,lookH,putH,List.replicate,List.append,convS,fldA,nthT,idxA,idxS,fldS,oslN,bnd,slS,unS,valI,lenS,lookS,takeC,parts,asRow,single,rdF,Ent.row,ldS,sz,szL,wrF,bldF,plT,bldS,srcS,nilS,nilEq,mapC,binH,binS2,structS,eqL,eqF,binS,arrS,isI,tupS,stor,storL,Value.oneCell',minS,maxS,capS,Nat.reduceAdd,Nat.reduceSub,Nat.reduceMul,Nat.reduceLT,Nat.reduceLeDiff,Nat.reduceEqDiff,Nat.reduceBEq,Int.reduceToNat,Int.reduceNeg,if_true,if_false,reduceIte,stays,inL,same1,qn,ldN,convN,lenN,cond_true,cond_false,implies_true,Int.reduceEq,Int.reduceNe,Int.reduceLE,Int.reduceLT,forall_eq_or_imp,forall_eq,ne_eq,reduceCtorEq,notInt,numB,tabB,Array.reduceGetElem?,res55,liB]
    refine ⟨Sx.imp_intro fun hc => ?_, Sx.imp_intro fun hc => ?_⟩
    · have hN64 : N < 64 := by have := of_decide_eq_true hc; omega
      have hp312 : p < 312 := by
        rcases Nat.lt_or_ge p 312 with h | h
        · exact h
        · have h2 : p = 312 := by omega
          rw [h2, prime_end] at hN
          omega
      have hm0 : 0 < m := by omega
      refine ⟨by omega, ?_⟩
      refine codeP_loop (pl := np) tabOk follows_mixed (by kernel_rfl) (fun m' s => ∃ (k : Nat) (j : Nat → Value), k + m' = N ∧ s = ⟨⟨33, [(0, .ptr 0 0), (1, .ptr 1 0), (2, .int .i64 (N : Nat)), (3, .int .u64 (p : Nat)), (4, .bool (allP p k)), (12, .sl 1 0 0 1 N 64), (13, .int .i64 (N : Nat)), (14, .int .i64 (k : Nat))], j⟩, [.cells true [.fam 64 1 fun _ => .int .u64 0], .cells true [.fam 64 1 fun i => .int .u64 (nat (if i < N then primeB i else 0))]], []⟩) ?_ ?_
      · refine into_mk [some 0, some 1] [(0, .ptr 0 0), (1, .ptr 1 0), (2, .int .i64 (N : Nat)), (3, .int .u64 (p : Nat)), (4, .bool (allP p 0)), (12, .sl 1 0 0 1 N 64), (13, .int .i64 (N : Nat)), (14, .int .i64 (0 : Nat))] [.cells true [.fam 64 1 fun _ => .int .u64 0], .cells true [.fam 64 1 fun i => .int .u64 (nat (if i < N then primeB i else 0))]] ?_ ?_ ?_ ?_ ?_ ?_ ?_ ?_
        · simp [slot, lkL, fixed, rg, renH, chEq, lookH, eqvL, eqv, eqvF, rnmL, rnm, liveN, Chunk.live, goodH, Chunk.good, okL, ok, sz, szL, storL, stor, renT, okT]
        · simp [slot, lkL, fixed, rg, renH, chEq, lookH, eqvL, eqv, eqvF, rnmL, rnm, liveN, Chunk.live, goodH, Chunk.good, okL, ok, sz, szL, storL, stor, renT, okT]
        · simp [slot, lkL, fixed, rg, renH, chEq, lookH, eqvL, eqv, eqvF, rnmL, rnm, liveN, Chunk.live, goodH, Chunk.good, okL, ok, sz, szL, storL, stor, renT, okT]
        · simp [slot, lkL, fixed, rg, renH, chEq, lookH, eqvL, eqv, eqvF, rnmL, rnm, liveN, Chunk.live, goodH, Chunk.good, okL, ok, sz, szL, storL, stor, renT, okT]
        · simp [slot, lkL, fixed, rg, renH, chEq, lookH, eqvL, eqv, eqvF, rnmL, rnm, liveN, Chunk.live, goodH, Chunk.good, okL, ok, sz, szL, storL, stor, renT, okT]
        · simp [slot, lkL, fixed, rg, renH, chEq, lookH, eqvL, eqv, eqvF, rnmL, rnm, liveN, Chunk.live, goodH, Chunk.good, okL, ok, sz, szL, storL, stor, renT, okT, allP]
        · simp [slot, lkL, fixed, rg, renH, chEq, lookH, eqvL, eqv, eqvF, rnmL, rnm, liveN, Chunk.live, goodH, Chunk.good, okL, ok, sz, szL, storL, stor, renT, okT]
        · intro j
          exact ⟨N, 0, j, by omega, rfl⟩
      · rintro m' s ⟨k, j2, hk, rfl⟩
        have a0 : IntKind.i64.wrap ((k : Int) + 1) = ((k + 1 : Nat) : Int) := by rw [wrap64 (by omega) (by omega)]; omega
        have a1 : IntKind.i64.wrap ((N : Int) + 1) = ((N + 1 : Nat) : Int) := by rw [wrap64 (by omega) (by omega)]; omega
        have a2 : IntKind.u64.wrap ((p : Int) + 1) = ((p + 1 : Nat) : Int) := Go.Sx.wrap_small (k := .u64) rfl (by omega) (by rw [show IntKind.u64.bits = 64 from rfl]; omega)
        simp -implicitDefEqProofs (maxSteps := 1000000) (disch := omega) only [↓vcB,↓gd,↓opP,↓qv,↓ef,↓bslS,↓stS,↓mkS,↓rangeS,↓nextS,↓entryS,↓delS,↓mupS,↓appS,↓s2bS,↓resS,evB,Sx.look,slot,↓lkL,putS,putO,argsL,↓reduceIte,ofV,of1,lookH,putH,List.replicate,List.append,convS,fldA,nthT,idxA,idxS,fldS,oslN,bnd,slS,unS,valI,lenS,lookS,takeC,parts,asRow,single,rdF,Ent.row,ldS,sz,szL,wrF,bldF,plT,bldS,srcS,nilS,nilEq,mapC,binH,binS2,structS,eqL,eqF,binS,arrS,isI,tupS,stor,storL,Value.oneCell',minS,maxS,capS,Nat.reduceAdd,Nat.reduceSub,Nat.reduceMul,Nat.reduceLT,Nat.reduceLeDiff,Nat.reduceEqDiff,Nat.reduceBEq,Int.reduceToNat,Int.reduceNeg,if_true,if_false,reduceIte,stays,inL,same1,qn,ldN,convN,lenN,cond_true,cond_false,implies_true,Int.reduceEq,Int.reduceNe,Int.reduceLE,Int.reduceLT,forall_eq_or_imp,forall_eq,ne_eq,reduceCtorEq,notInt,numB,tabB,Array.reduceGetElem?,res55,a0,a1,a2,liB]
        refine ⟨Sx.imp_intro fun hc2 => ?_, Sx.imp_intro fun hc2 => ?_⟩
        · have hkN : k < N := by have := of_decide_eq_true hc2; omega
          have hpos := prime_pos k (by omega)
          have hv : nat (if k < N then primeB k else 0) = ((primeB k).toNat : Int) := by simp only [hkN, if_true]; rfl
          have hr : ((p : Int).tmod (nat (if k < N then primeB k else 0)) != 0) = decide (p % (primeB k).toNat ≠ 0) := by
            rw [hv, Int.tmod_eq_emod_of_nonneg (by omega), ← Int.natCast_emod]
            rw [Bool.eq_iff_iff]
            simp only [bne_iff_ne, ne_eq, decide_eq_true_eq]
            omega
          have hs : allP p (k + 1) = (allP p k && decide (p % (primeB k).toNat ≠ 0)) := by
            rw [Bool.eq_iff_iff]
            simp only [allP, Bool.and_eq_true, decide_eq_true_eq]
            constructor
            · exact fun h => ⟨fun q hq => h q (by omega), h k (by omega)⟩
            · rintro ⟨h1, h2⟩ q hq
              by_cases e : q = k
              · exact e ▸ h2
              · exact h1 q (by omega)
          refine ⟨by omega, by omega, Sx.imp_intro fun hA => ⟨by rw [hv]; omega, ?_⟩, Sx.imp_intro fun hA => ?_⟩
          · rw [hr]
            refine into_mk [some 0, some 1] [(0, .ptr 0 0), (1, .ptr 1 0), (2, .int .i64 (N : Nat)), (3, .int .u64 (p : Nat)), (4, .bool (allP p (k + 1))), (12, .sl 1 0 0 1 N 64), (13, .int .i64 (N : Nat)), (14, .int .i64 (k + 1 : Nat))] [.cells true [.fam 64 1 fun _ => .int .u64 0], .cells true [.fam 64 1 fun i => .int .u64 (nat (if i < N then primeB i else 0))]] ?_ ?_ ?_ ?_ ?_ ?_ ?_ ?_
            · simp [slot, lkL, fixed, rg, renH, chEq, lookH, eqvL, eqv, eqvF, rnmL, rnm, liveN, Chunk.live, goodH, Chunk.good, okL, ok, sz, szL, storL, stor, renT, okT]
            · simp [slot, lkL, fixed, rg, renH, chEq, lookH, eqvL, eqv, eqvF, rnmL, rnm, liveN, Chunk.live, goodH, Chunk.good, okL, ok, sz, szL, storL, stor, renT, okT]
            · simp [slot, lkL, fixed, rg, renH, chEq, lookH, eqvL, eqv, eqvF, rnmL, rnm, liveN, Chunk.live, goodH, Chunk.good, okL, ok, sz, szL, storL, stor, renT, okT]
            · simp [slot, lkL, fixed, rg, renH, chEq, lookH, eqvL, eqv, eqvF, rnmL, rnm, liveN, Chunk.live, goodH, Chunk.good, okL, ok, sz, szL, storL, stor, renT, okT]
            · simp [slot, lkL, fixed, rg, renH, chEq, lookH, eqvL, eqv, eqvF, rnmL, rnm, liveN, Chunk.live, goodH, Chunk.good, okL, ok, sz, szL, storL, stor, renT, okT]
            · simp [slot, lkL, fixed, rg, renH, chEq, lookH, eqvL, eqv, eqvF, rnmL, rnm, liveN, Chunk.live, goodH, Chunk.good, okL, ok, sz, szL, storL, stor, renT, okT, hs, hA]
            · simp [slot, lkL, fixed, rg, renH, chEq, lookH, eqvL, eqv, eqvF, rnmL, rnm, liveN, Chunk.live, goodH, Chunk.good, okL, ok, sz, szL, storL, stor, renT, okT]
            · intro j
              exact ⟨m' - 1, by omega, k + 1, j, by omega, rfl⟩
          · refine into_mk [some 0, some 1] [(0, .ptr 0 0), (1, .ptr 1 0), (2, .int .i64 (N : Nat)), (3, .int .u64 (p : Nat)), (4, .bool (allP p (k + 1))), (12, .sl 1 0 0 1 N 64), (13, .int .i64 (N : Nat)), (14, .int .i64 (k + 1 : Nat))] [.cells true [.fam 64 1 fun _ => .int .u64 0], .cells true [.fam 64 1 fun i => .int .u64 (nat (if i < N then primeB i else 0))]] ?_ ?_ ?_ ?_ ?_ ?_ ?_ ?_
            · simp [slot, lkL, fixed, rg, renH, chEq, lookH, eqvL, eqv, eqvF, rnmL, rnm, liveN, Chunk.live, goodH, Chunk.good, okL, ok, sz, szL, storL, stor, renT, okT]
            · simp [slot, lkL, fixed, rg, renH, chEq, lookH, eqvL, eqv, eqvF, rnmL, rnm, liveN, Chunk.live, goodH, Chunk.good, okL, ok, sz, szL, storL, stor, renT, okT]
            · simp [slot, lkL, fixed, rg, renH, chEq, lookH, eqvL, eqv, eqvF, rnmL, rnm, liveN, Chunk.live, goodH, Chunk.good, okL, ok, sz, szL, storL, stor, renT, okT]
            · simp [slot, lkL, fixed, rg, renH, chEq, lookH, eqvL, eqv, eqvF, rnmL, rnm, liveN, Chunk.live, goodH, Chunk.good, okL, ok, sz, szL, storL, stor, renT, okT]
            · simp [slot, lkL, fixed, rg, renH, chEq, lookH, eqvL, eqv, eqvF, rnmL, rnm, liveN, Chunk.live, goodH, Chunk.good, okL, ok, sz, szL, storL, stor, renT, okT]
            · simp [slot, lkL, fixed, rg, renH, chEq, lookH, eqvL, eqv, eqvF, rnmL, rnm, liveN, Chunk.live, goodH, Chunk.good, okL, ok, sz, szL, storL, stor, renT, okT, hs, hA]
            · simp [slot, lkL, fixed, rg, renH, chEq, lookH, eqvL, eqv, eqvF, rnmL, rnm, liveN, Chunk.live, goodH, Chunk.good, okL, ok, sz, szL, storL, stor, renT, okT]
            · intro j
              exact ⟨m' - 1, by omega, k + 1, j, by omega, rfl⟩
        · have hkN : k = N := by have := of_decide_eq_false hc2; omega
          subst hkN
          refine ⟨Sx.imp_intro fun hA => ⟨by omega, hN64, ?_⟩, Sx.imp_intro fun hA => ?_⟩
          · obtain ⟨h1, h2⟩ := prime_yes p hp312 hp2 (hN ▸ hA)
            rw [← hN] at h1 h2
            refine into_mk [some 0, some 1] [(0, .ptr 0 0), (1, .ptr 1 0), (2, .int .i64 (cntP (p + 1) : Nat)), (3, .int .u64 (p + 1 : Nat))] [.cells true [.fam 64 1 fun _ => .int .u64 0], .cells true [.fam 64 1 fun i => .int .u64 (nat (if i < cntP (p + 1) then primeB i else 0))]] ?_ ?_ ?_ ?_ ?_ ?_ ?_ ?_
            · simp [slot, lkL, fixed, rg, renH, chEq, lookH, eqvL, eqv, eqvF, rnmL, rnm, liveN, Chunk.live, goodH, Chunk.good, okL, ok, sz, szL, storL, stor, renT, okT]
            · simp [slot, lkL, fixed, rg, renH, chEq, lookH, eqvL, eqv, eqvF, rnmL, rnm, liveN, Chunk.live, goodH, Chunk.good, okL, ok, sz, szL, storL, stor, renT, okT]
            · simp [slot, lkL, fixed, rg, renH, chEq, lookH, eqvL, eqv, eqvF, rnmL, rnm, liveN, Chunk.live, goodH, Chunk.good, okL, ok, sz, szL, storL, stor, renT, okT]
              intro i hi
              rw [h2]
              by_cases h : i = k
              · subst h
                have h3 : (p : Int) = nat (primeB i) := by simp only [nat]; omega
                simp [eqv, h3]
              · have e : (i < k + 1) = (i < k) := by simp only [eq_iff_iff]; omega
                simp only [h, if_false, e, eqv]
            · simp [slot, lkL, fixed, rg, renH, chEq, lookH, eqvL, eqv, eqvF, rnmL, rnm, liveN, Chunk.live, goodH, Chunk.good, okL, ok, sz, szL, storL, stor, renT, okT]
            · simp [slot, lkL, fixed, rg, renH, chEq, lookH, eqvL, eqv, eqvF, rnmL, rnm, liveN, Chunk.live, goodH, Chunk.good, okL, ok, sz, szL, storL, stor, renT, okT]
            · simp [slot, lkL, fixed, rg, renH, chEq, lookH, eqvL, eqv, eqvF, rnmL, rnm, liveN, Chunk.live, goodH, Chunk.good, okL, ok, sz, szL, storL, stor, renT, okT, h2]
            · simp [slot, lkL, fixed, rg, renH, chEq, lookH, eqvL, eqv, eqvF, rnmL, rnm, liveN, Chunk.live, goodH, Chunk.good, okL, ok, sz, szL, storL, stor, renT, okT]
            · intro j
              exact ⟨m - 1, by omega, p + 1, j, by omega, by omega, rfl⟩
          · have h2 := prime_no p hp312 hp2 (hN ▸ hA)
            rw [← hN] at h2
            refine into_mk [some 0, some 1] [(0, .ptr 0 0), (1, .ptr 1 0), (2, .int .i64 (cntP (p + 1) : Nat)), (3, .int .u64 (p + 1 : Nat))] [.cells true [.fam 64 1 fun _ => .int .u64 0], .cells true [.fam 64 1 fun i => .int .u64 (nat (if i < cntP (p + 1) then primeB i else 0))]] ?_ ?_ ?_ ?_ ?_ ?_ ?_ ?_
            · simp [slot, lkL, fixed, rg, renH, chEq, lookH, eqvL, eqv, eqvF, rnmL, rnm, liveN, Chunk.live, goodH, Chunk.good, okL, ok, sz, szL, storL, stor, renT, okT]
            · simp [slot, lkL, fixed, rg, renH, chEq, lookH, eqvL, eqv, eqvF, rnmL, rnm, liveN, Chunk.live, goodH, Chunk.good, okL, ok, sz, szL, storL, stor, renT, okT]
            · simp [slot, lkL, fixed, rg, renH, chEq, lookH, eqvL, eqv, eqvF, rnmL, rnm, liveN, Chunk.live, goodH, Chunk.good, okL, ok, sz, szL, storL, stor, renT, okT, h2]
            · simp [slot, lkL, fixed, rg, renH, chEq, lookH, eqvL, eqv, eqvF, rnmL, rnm, liveN, Chunk.live, goodH, Chunk.good, okL, ok, sz, szL, storL, stor, renT, okT]
            · simp [slot, lkL, fixed, rg, renH, chEq, lookH, eqvL, eqv, eqvF, rnmL, rnm, liveN, Chunk.live, goodH, Chunk.good, okL, ok, sz, szL, storL, stor, renT, okT]
            · simp [slot, lkL, fixed, rg, renH, chEq, lookH, eqvL, eqv, eqvF, rnmL, rnm, liveN, Chunk.live, goodH, Chunk.good, okL, ok, sz, szL, storL, stor, renT, okT, h2]
            · simp [slot, lkL, fixed, rg, renH, chEq, lookH, eqvL, eqv, eqvF, rnmL, rnm, liveN, Chunk.live, goodH, Chunk.good, okL, ok, sz, szL, storL, stor, renT, okT]
            · intro j
              exact ⟨m - 1, by omega, p + 1, j, by omega, by omega, rfl⟩
    · have hN64 : N = 64 := by
        have h1 := of_decide_eq_false hc
        rcases Nat.lt_or_ge p 312 with h | h
        · have := prime_more p h
          omega
        · have h2 : p = 312 := by omega
          rw [hN, h2, prime_end]
      subst hN64
      refine intoR_mk [] (.fam 64 1 fun i => .int .u64 (nat (primeB i))) [] ?_ ?_ ?_ ?_ ?_ ?_ ?_ hK
      · simp [slot, lkL, fixed, rg, renH, chEq, lookH, eqvL, eqv, eqvF, rnmL, rnm, liveN, Chunk.live, goodH, Chunk.good, okL, ok, sz, szL, storL, stor, renT, okT]
      · simp [slot, lkL, fixed, rg, renH, chEq, lookH, eqvL, eqv, eqvF, rnmL, rnm, liveN, Chunk.live, goodH, Chunk.good, okL, ok, sz, szL, storL, stor, renT, okT]
      · simp [slot, lkL, fixed, rg, renH, chEq, lookH, eqvL, eqv, eqvF, rnmL, rnm, liveN, Chunk.live, goodH, Chunk.good, okL, ok, sz, szL, storL, stor, renT, okT]
      · simp [slot, lkL, fixed, rg, renH, chEq, lookH, eqvL, eqv, eqvF, rnmL, rnm, liveN, Chunk.live, goodH, Chunk.good, okL, ok, sz, szL, storL, stor, renT, okT]
      · simp [slot, lkL, fixed, rg, renH, chEq, lookH, eqvL, eqv, eqvF, rnmL, rnm, liveN, Chunk.live, goodH, Chunk.good, okL, ok, sz, szL, storL, stor, renT, okT]
      · simp [slot, lkL, fixed, rg, renH, chEq, lookH, eqvL, eqv, eqvF, rnmL, rnm, liveN, Chunk.live, goodH, Chunk.good, okL, ok, sz, szL, storL, stor, renT, okT]
        intro i hi
        simp [hi]
      · simp [slot, lkL, fixed, rg, renH, chEq, lookH, eqvL, eqv, eqvF, rnmL, rnm, liveN, Chunk.live, goodH, Chunk.good, okL, ok, sz, szL, storL, stor, renT, okT]
theorem c55 {h : List Chunk} (K : Tok → SV → List Chunk → Prop) (hK : K .mk (.fam 64 1 fun i => .int .u64 (nat (primeB i))) h) : callP Try.prog 151 [] h K := by
  refine callP_frame (argsL := []) (KL := fun _ v h' => v = .fam 64 1 (fun i => .int .u64 (nat (primeB i))) ∧ h' = []) [] (c55l _ ⟨rfl, rfl⟩) List.nodup_nil trivial trivial (by simp [slot, lkL, fixed, rg, renH, chEq, lookH, eqvL, eqv, eqvF, rnmL, rnm, liveN, Chunk.live, goodH, Chunk.good, okL, ok, sz, szL, storL, stor, renT, okT, has, upG, up, nth, roOk, keepsLive, Chunk.wr, lay, rnmC, putH]) rfl ?_
  rintro v h' ⟨rfl, rfl⟩
  refine ⟨by simp [slot, lkL, fixed, rg, renH, chEq, lookH, eqvL, eqv, eqvF, rnmL, rnm, liveN, Chunk.live, goodH, Chunk.good, okL, ok, sz, szL, storL, stor, renT, okT, has, upG, up, nth, roOk, keepsLive, Chunk.wr, lay, rnmC, putH], trivial, ?_⟩
  simpa [rnm, lay] using hK
end Go.Proofs.Ytgocfglmideobaa.S

set_option linter.all false
set_option maxRecDepth 40000
namespace Go.Proofs.Ytgocfglmideobaa.S
open Go Go.Sx

theorem res57 : Try.f153.results.toList = [.cell 6 183] := rfl
end Go.Proofs.Ytgocfglmideobaa.S

set_option linter.all false
set_option maxRecDepth 40000
namespace Go.Proofs.Ytgocfglmideobaa.S
open Go Go.Sx

end Go.Proofs.Ytgocfglmideobaa.S

set_option linter.all false
set_option maxRecDepth 40000
namespace Go.Proofs.Ytgocfglmideobaa.S
open Go Go.Sx

end Go.Proofs.Ytgocfglmideobaa.S

set_option linter.all false
set_option maxRecDepth 40000
namespace Go.Proofs.Ytgocfglmideobaa.S
open Go Go.Sx

theorem famEq_refl (m : Nat) (f : Nat → SV) : famEq m f f = true := decide_eq_true fun _ _ => rfl
theorem c20F (m len : Nat) (B : Nat → BitVec 8) (f : Nat → SV) (hf : ∀ i, i < m → f i = .int .u8 (nat (B i))) (hm : len ≤ m) (hl : len ≤ 70368744177664) {h : List Chunk} {nm : Nat} (wr : Bool) (hh : lookH h nm = .row wr m 1 f) (hnm : nm < h.length) (F : Nat → SV) (hF : (fun i => SV.int .u8 (nat (shaD len B i))) = F) (K : Tok → SV → List Chunk → Prop)
    (hK : K .mk (.fam 32 1 F) h) : callP Try.prog 116 [.osl nm 0 0 1 len] h K := c20' m len B f hf hm hl wr hh hnm K (hF ▸ hK)
end Go.Proofs.Ytgocfglmideobaa.S

set_option linter.all false
set_option maxRecDepth 40000
namespace Go.Proofs.Ytgocfglmideobaa.S
open Go Go.Sx

/-- The bytes that are signed. -/
def keyB (key : Int) (j : Nat) : BitVec 8 := ((BitVec.ofInt 64 key) >>> (8 * (7 - j))).setWidth 8
def sigH (key : Int) (i : Nat) : BitVec 8 := if i = 0 then 4 else keyB key (i - 1)
def sigT (key : Int) (B : Nat → BitVec 8) (i : Nat) : BitVec 8 := if i < 9 then sigH key i else B (i - 9)
theorem wrap_key (key : Int) : IntKind.u64.wrap key = nat (BitVec.ofInt 64 key) := by
  rw [wrapU rfl]
  simp only [nat, BitVec.toNat_ofInt]
  rw [show (2 : Int) ^ IntKind.u64.bits = ((2 ^ 64 : Nat) : Int) from rfl]
  omega
theorem res25 : Try.f99.results.toList = [.cell 4 29] := rfl
set_option maxHeartbeats 4000000 in
theorem c25l (key : Int) (m len : Nat) (B : Nat → BitVec 8) (hm : len ≤ m) (hl : len ≤ 70368744177000) (K : Tok → SV → List Chunk → Prop)
    (hK : K .mk (.agg [.int .i64 key, .fam 32 1 fun i => .int .u8 (nat (shaD (9 + len) (sigT key B) i))]) [.row false m 1 fun i => .int .u8 (nat (B i))]) :
    callP Try.prog 99 [.int .i64 key, .osl 0 0 0 1 len] [.row false m 1 fun i => .int .u8 (nat (B i))] K := by
  refine callP_of_code tabOk Try.func99 (by kernel_rfl) rfl (Nat.le_of_ble_eq_true rfl) (codeP_of_vc (pl := np) tabOk follows_mixed (by kernel_rfl) ?_)
  rw [Try.ntmps99]
  have f0 := wrap_key key
  simp -implicitDefEqProofs (maxSteps := 1000000) (disch := omega) only [↓vcB,↓gd,↓opP,↓qv,↓ef,↓bslS,↓stS,↓mkS,↓rangeS,↓nextS,↓entryS,↓delS,↓mupS,↓appS,↓s2bS,↓resS,evB,Sx.look,slot,↓lkL,putS,putO,argsL,↓reduceIte,ofV,of1,lookH,putH,List.replicate,List.append,convS,fldA,nthT,idxA,idxS,fldS,oslN,bnd,slS,unS,valI,lenS,lookS,takeC,parts,asRow,single,rdF,Ent.row,ldS,sz,szL,wrF,bldF,plT,bldS,srcS,nilS,nilEq,mapC,binH,binS2,structS,eqL,eqF,binS,arrS,isI,tupS,stor,storL,Value.oneCell',minS,maxS,capS,Nat.reduceAdd,Nat.reduceSub,Nat.reduceMul,Nat.reduceLT,Nat.reduceLeDiff,Nat.reduceEqDiff,Nat.reduceBEq,Int.reduceToNat,Int.reduceNeg,if_true,if_false,reduceIte,stays,inL,same1,qn,ldN,convN,lenN,cond_true,cond_false,implies_true,Int.reduceEq,Int.reduceNe,Int.reduceLE,Int.reduceLT,forall_eq_or_imp,forall_eq,ne_eq,reduceCtorEq,notInt,numB,tabB,Array.reduceGetElem?,res25,liB]
  refine codeP_loop (pl := np) tabOk follows_mixed (by kernel_rfl) (fun k' s => ∃ (k : Nat) (j : Nat → Value), k + k' = 8 ∧ s = ⟨⟨27, [(0, .int .i64 key), (1, .osl 0 0 0 1 len), (4, .ptr 1 0), (5, .osl 2 0 0 1 (1 + k)), (6, .int .i64 (7 - (k : Nat)))], j⟩, [.row false m 1 fun i => .int .u8 (nat (B i)), .cells true [.int .i64 0, .fam 32 1 fun _ => .int .u8 0], .row true (1 + k) 1 fun i => .int .u8 (nat (sigH key i))], []⟩) ?_ ?_
  · refine into_mk [some 0, some 1, some 2] [(0, .int .i64 key), (1, .osl 0 0 0 1 len), (4, .ptr 1 0), (5, .osl 2 0 0 1 (1 + 0)), (6, .int .i64 (7 - (0 : Nat)))] [.row false m 1 fun i => .int .u8 (nat (B i)), .cells true [.int .i64 0, .fam 32 1 fun _ => .int .u8 0], .row true (1 + 0) 1 fun i => .int .u8 (nat (sigH key i))] ?_ ?_ ?_ ?_ ?_ ?_ ?_ ?_
    · simp [slot, lkL, fixed, rg, renH, chEq, lookH, eqvL, eqv, eqvF, rnmL, rnm, liveN, Chunk.live, goodH, Chunk.good, okL, ok, sz, szL, storL, stor, renT, okT]
    · simp [slot, lkL, fixed, rg, renH, chEq, lookH, eqvL, eqv, eqvF, rnmL, rnm, liveN, Chunk.live, goodH, Chunk.good, okL, ok, sz, szL, storL, stor, renT, okT]
    · simp [slot, lkL, fixed, rg, renH, chEq, lookH, eqvL, eqv, eqvF, rnmL, rnm, liveN, Chunk.live, goodH, Chunk.good, okL, ok, sz, szL, storL, stor, renT, okT, sigH, Sx.look, nat]
    · simp [slot, lkL, fixed, rg, renH, chEq, lookH, eqvL, eqv, eqvF, rnmL, rnm, liveN, Chunk.live, goodH, Chunk.good, okL, ok, sz, szL, storL, stor, renT, okT]
    · simp [slot, lkL, fixed, rg, renH, chEq, lookH, eqvL, eqv, eqvF, rnmL, rnm, liveN, Chunk.live, goodH, Chunk.good, okL, ok, sz, szL, storL, stor, renT, okT]
    · simp [slot, lkL, fixed, rg, renH, chEq, lookH, eqvL, eqv, eqvF, rnmL, rnm, liveN, Chunk.live, goodH, Chunk.good, okL, ok, sz, szL, storL, stor, renT, okT]
    · simp [slot, lkL, fixed, rg, renH, chEq, lookH, eqvL, eqv, eqvF, rnmL, rnm, liveN, Chunk.live, goodH, Chunk.good, okL, ok, sz, szL, storL, stor, renT, okT]
    · intro j
      exact ⟨8, 0, j, by omega, rfl⟩
  · rintro k' s ⟨k, j, hk, rfl⟩
    by_cases hk8 : k = 8
    · subst hk8
      have f3 : (decide ((7 - ((8 : Nat) : Int)) ≥ 0)) = false := by decide
      simp -implicitDefEqProofs (maxSteps := 1000000) (disch := omega) only [↓vcB,↓gd,↓opP,↓qv,↓ef,↓bslS,↓stS,↓mkS,↓rangeS,↓nextS,↓entryS,↓delS,↓mupS,↓appS,↓s2bS,↓resS,evB,Sx.look,slot,↓lkL,putS,putO,argsL,↓reduceIte,ofV,of1,lookH,putH,List.replicate,List.append,convS,fldA,nthT,idxA,idxS,fldS,oslN,bnd,slS,unS,valI,lenS,lookS,takeC,parts,asRow,single,rdF,Ent.row,ldS,sz,szL,wrF,bldF,plT,bldS,srcS,nilS,nilEq,mapC,binH,binS2,structS,eqL,eqF,binS,arrS,isI,tupS,stor,storL,Value.oneCell',minS,maxS,capS,Nat.reduceAdd,Nat.reduceSub,Nat.reduceMul,Nat.reduceLT,Nat.reduceLeDiff,Nat.reduceEqDiff,Nat.reduceBEq,Int.reduceToNat,Int.reduceNeg,if_true,if_false,reduceIte,stays,inL,same1,qn,ldN,convN,lenN,cond_true,cond_false,implies_true,Int.reduceEq,Int.reduceNe,Int.reduceLE,Int.reduceLT,forall_eq_or_imp,forall_eq,ne_eq,reduceCtorEq,notInt,numB,tabB,Array.reduceGetElem?,res25,f3,liB]
      have hrow : ∀ i, i < 9 + len → (if i < 9 then SV.int IntKind.u8 (nat (sigH key i)) else SV.int IntKind.u8 (nat (B (i - 9)))) = .int .u8 (nat (sigT key B i)) := fun i _ => by
        simp only [sigT]
        split <;> rfl
      obtain ⟨F, hF⟩ : ∃ F : Nat → SV, (fun i => SV.int .u8 (nat (shaD (9 + len) (sigT key B) i))) = F := ⟨_, rfl⟩
      have hF' : ∀ i, F i = .int .u8 (nat (shaD (9 + len) (sigT key B) i)) := fun i => by rw [← hF]
      rw [hF] at hK
      refine ⟨⟨hm, by omega, by omega⟩, c20F (9 + len) (9 + len) (sigT key B) _ hrow (by omega) (by omega) true rfl (by simp) F hF _ ?_⟩
      simp -implicitDefEqProofs (maxSteps := 1000000) (disch := omega) only [↓vcB,↓gd,↓opP,↓qv,↓ef,↓bslS,↓stS,↓mkS,↓rangeS,↓nextS,↓entryS,↓delS,↓mupS,↓appS,↓s2bS,↓resS,evB,Sx.look,slot,↓lkL,putS,putO,argsL,↓reduceIte,ofV,of1,lookH,putH,List.replicate,List.append,convS,fldA,nthT,idxA,idxS,fldS,oslN,bnd,slS,unS,valI,lenS,lookS,takeC,parts,asRow,single,rdF,Ent.row,ldS,sz,szL,wrF,bldF,plT,bldS,srcS,nilS,nilEq,mapC,binH,binS2,structS,eqL,eqF,binS,arrS,isI,tupS,stor,storL,Value.oneCell',minS,maxS,capS,Nat.reduceAdd,Nat.reduceSub,Nat.reduceMul,Nat.reduceLT,Nat.reduceLeDiff,Nat.reduceEqDiff,Nat.reduceBEq,Int.reduceToNat,Int.reduceNeg,if_true,if_false,reduceIte,stays,inL,same1,qn,ldN,convN,lenN,cond_true,cond_false,implies_true,Int.reduceEq,Int.reduceNe,Int.reduceLE,Int.reduceLT,forall_eq_or_imp,forall_eq,ne_eq,reduceCtorEq,notInt,numB,tabB,Array.reduceGetElem?,res25,hF',liB]
      exact intoR_take [.row false m 1 fun i => .int .u8 (nat (B i))] rfl rfl (by simp [slot, lkL, fixed, rg, renH, chEq, lookH, eqvL, eqv, eqvF, rnmL, rnm, liveN, Chunk.live, goodH, Chunk.good, okL, ok, sz, szL, storL, stor, renT, okT]) (by simp [slot, lkL, fixed, rg, renH, chEq, lookH, eqvL, eqv, eqvF, rnmL, rnm, liveN, Chunk.live, goodH, Chunk.good, okL, ok, sz, szL, storL, stor, renT, okT, hF']) hK
    · have f1' : IntKind.i64.wrap (8 * (7 - (k : Int))) = ((8 * (7 - k) : Nat) : Int) := by rw [wrap64 (by omega) (by omega)]; omega
      have f2 : IntKind.i64.wrap ((7 - (k : Int)) - 1) = 7 - ((k + 1 : Nat) : Int) := by rw [wrap64 (by omega) (by omega)]; omega
      have f3 : (decide ((7 - (k : Int)) ≥ 0)) = true := by simp; omega
      have f5 := shr64 (BitVec.ofInt 64 key) (8 * (7 - k)) (by omega)
      simp -implicitDefEqProofs (maxSteps := 1000000) (disch := omega) only [↓vcB,↓gd,↓opP,↓qv,↓ef,↓bslS,↓stS,↓mkS,↓rangeS,↓nextS,↓entryS,↓delS,↓mupS,↓appS,↓s2bS,↓resS,evB,Sx.look,slot,↓lkL,putS,putO,argsL,↓reduceIte,ofV,of1,lookH,putH,List.replicate,List.append,convS,fldA,nthT,idxA,idxS,fldS,oslN,bnd,slS,unS,valI,lenS,lookS,takeC,parts,asRow,single,rdF,Ent.row,ldS,sz,szL,wrF,bldF,plT,bldS,srcS,nilS,nilEq,mapC,binH,binS2,structS,eqL,eqF,binS,arrS,isI,tupS,stor,storL,Value.oneCell',minS,maxS,capS,Nat.reduceAdd,Nat.reduceSub,Nat.reduceMul,Nat.reduceLT,Nat.reduceLeDiff,Nat.reduceEqDiff,Nat.reduceBEq,Int.reduceToNat,Int.reduceNeg,if_true,if_false,reduceIte,stays,inL,same1,qn,ldN,convN,lenN,cond_true,cond_false,implies_true,Int.reduceEq,Int.reduceNe,Int.reduceLE,Int.reduceLT,forall_eq_or_imp,forall_eq,ne_eq,reduceCtorEq,notInt,numB,tabB,Array.reduceGetElem?,res25,f0,f1',f2,f3,f5,liB]
      and_intros <;> try omega
      refine into_mk [some 0, some 1, some 4] [(0, .int .i64 key), (1, .osl 0 0 0 1 len), (4, .ptr 1 0), (5, .osl 2 0 0 1 (1 + (k + 1))), (6, .int .i64 (7 - (k + 1 : Nat)))] [.row false m 1 fun i => .int .u8 (nat (B i)), .cells true [.int .i64 0, .fam 32 1 fun _ => .int .u8 0], .row true (1 + (k + 1)) 1 fun i => .int .u8 (nat (sigH key i))] ?_ ?_ ?_ ?_ ?_ ?_ ?_ ?_
      · simp [slot, lkL, fixed, rg, renH, chEq, lookH, eqvL, eqv, eqvF, rnmL, rnm, liveN, Chunk.live, goodH, Chunk.good, okL, ok, sz, szL, storL, stor, renT, okT]
      · simp [slot, lkL, fixed, rg, renH, chEq, lookH, eqvL, eqv, eqvF, rnmL, rnm, liveN, Chunk.live, goodH, Chunk.good, okL, ok, sz, szL, storL, stor, renT, okT]
      · simp [slot, lkL, fixed, rg, renH, chEq, lookH, eqvL, eqv, eqvF, rnmL, rnm, liveN, Chunk.live, goodH, Chunk.good, okL, ok, sz, szL, storL, stor, renT, okT]
        refine ⟨by omega, fun i hi => ?_⟩
        by_cases h : i < 1 + k
        · simp [h, eqv]
        · have h2 : i = 1 + k := by omega
          subst h2
          simp [sigH, keyB, eqv, Sx.look]
      · simp [slot, lkL, fixed, rg, renH, chEq, lookH, eqvL, eqv, eqvF, rnmL, rnm, liveN, Chunk.live, goodH, Chunk.good, okL, ok, sz, szL, storL, stor, renT, okT]
      · simp [slot, lkL, fixed, rg, renH, chEq, lookH, eqvL, eqv, eqvF, rnmL, rnm, liveN, Chunk.live, goodH, Chunk.good, okL, ok, sz, szL, storL, stor, renT, okT]
      · simp [slot, lkL, fixed, rg, renH, chEq, lookH, eqvL, eqv, eqvF, rnmL, rnm, liveN, Chunk.live, goodH, Chunk.good, okL, ok, sz, szL, storL, stor, renT, okT]
        try omega
      · simp [slot, lkL, fixed, rg, renH, chEq, lookH, eqvL, eqv, eqvF, rnmL, rnm, liveN, Chunk.live, goodH, Chunk.good, okL, ok, sz, szL, storL, stor, renT, okT]
      · intro j
        exact ⟨k' - 1, by omega, k + 1, j, by omega, rfl⟩
theorem c25 (key : Int) (m len : Nat) (B : Nat → BitVec 8) (f : Nat → SV) (hf : ∀ i, i < m → f i = .int .u8 (nat (B i))) (hm : len ≤ m) (hl : len ≤ 70368744177000) {h : List Chunk} {nm : Nat} (wr : Bool) (hh : lookH h nm = .row wr m 1 f) (hnm : nm < h.length) (F : Nat → SV) (hF : (fun i => SV.int .u8 (nat (shaD (9 + len) (sigT key B) i))) = F) (K : Tok → SV → List Chunk → Prop)
    (hK : K .mk (.agg [.int .i64 key, .fam 32 1 F]) h) : callP Try.prog 99 [.int .i64 key, .osl nm 0 0 1 len] h K := by
  subst hF
  refine callP_frame (argsL := [.int .i64 key, .osl 0 0 0 1 len]) (KL := fun _ v h' => v = .agg [.int .i64 key, .fam 32 1 fun i => .int .u8 (nat (shaD (9 + len) (sigT key B) i))] ∧ h' = [.row false m 1 fun i => .int .u8 (nat (B i))]) [nm] (c25l key m len B hm hl _ ⟨rfl, rfl⟩) ?_ ?_ ?_ ?_ ?_ ?_
  · simp
  · simp only [has, hh, chEq, and_true]
    exact ⟨hnm, by simp, trivial, trivial, fun i hi => by rw [hf i hi]; simp [rnm, eqv]⟩
  · simp [slot, lkL, fixed, rg, renH, chEq, lookH, eqvL, eqv, eqvF, rnmL, rnm, liveN, Chunk.live, goodH, Chunk.good, okL, ok, sz, szL, storL, stor, renT, okT, has, upG, up, nth, roOk, keepsLive, Chunk.wr, lay, rnmC, putH]
  · simp [slot, lkL, fixed, rg, renH, chEq, lookH, eqvL, eqv, eqvF, rnmL, rnm, liveN, Chunk.live, goodH, Chunk.good, okL, ok, sz, szL, storL, stor, renT, okT, has, upG, up, nth, roOk, keepsLive, Chunk.wr, lay, rnmC, putH]
  · simp [slot, lkL, fixed, rg, renH, chEq, lookH, eqvL, eqv, eqvF, rnmL, rnm, liveN, Chunk.live, goodH, Chunk.good, okL, ok, sz, szL, storL, stor, renT, okT, has, upG, up, nth, roOk, keepsLive, Chunk.wr, lay, rnmC, putH]
  · rintro v h' ⟨rfl, rfl⟩
    refine ⟨by simp [slot, lkL, fixed, rg, renH, chEq, lookH, eqvL, eqv, eqvF, rnmL, rnm, liveN, Chunk.live, goodH, Chunk.good, okL, ok, sz, szL, storL, stor, renT, okT, has, upG, up, nth, roOk, keepsLive, Chunk.wr, lay, rnmC, putH], by simp [slot, lkL, fixed, rg, renH, chEq, lookH, eqvL, eqv, eqvF, rnmL, rnm, liveN, Chunk.live, goodH, Chunk.good, okL, ok, sz, szL, storL, stor, renT, okT, has, upG, up, nth, roOk, keepsLive, Chunk.wr, lay, rnmC, putH], ?_⟩
    simpa [rnm, rnmL, lay, Chunk.wr] using hK
end Go.Proofs.Ytgocfglmideobaa.S

set_option linter.all false
set_option maxRecDepth 40000
namespace Go.Proofs.Ytgocfglmideobaa.S
open Go Go.Sx

def pl145 : Nat → Plan
  | 1 => (.q 0 (.q 1 (.q 2 (.q 3 (.q 4 (.q 5 (.q 6 (.q 7 (.q 8 (.q 9 (.q 10 (.q 11 (.q 12 (.q 13 (.q 14 (.e1 15 [13] (.q 16 (.q 17 (.q 18 (.q 19 .nil))))))))))))))))))))
  | _ => .nil

def vOk (key n : Int) (E : Bool) : Bool := decide (key ≥ 0) && (decide (key < n) && E)
theorem res27 : Try.f145.results.toList = [.tmp 6] := rfl
set_option maxHeartbeats 4000000 in
theorem c27l (key n : Int) (D : Nat → BitVec 8) (m len : Nat) (B : Nat → BitVec 8) (hm : len ≤ m) (hl : len ≤ 70368744177000) (K : Tok → SV → List Chunk → Prop)
    (hK : K .mk (.bool (vOk key n (famEq 32 (fun i => .int .u8 (nat (D i))) (fun i => .int .u8 (nat (shaD (9 + len) (sigT key B) i)))))) [.row false m 1 fun i => .int .u8 (nat (B i))]) :
    callP Try.prog 145 [.agg [.int .i64 key, .fam 32 1 fun i => .int .u8 (nat (D i))], .osl 0 0 0 1 len, .int .i64 n] [.row false m 1 fun i => .int .u8 (nat (B i))] K := by
  refine callP_of_code tabOk Try.func145 (by kernel_rfl) rfl (Nat.le_of_ble_eq_true rfl) (codeP_of_vc (pl := pl145) tabOk follows_mixed (by kernel_rfl) ?_)
  rw [Try.ntmps145]
  obtain ⟨F, hF⟩ : ∃ F : Nat → SV, (fun i => SV.int .u8 (nat (shaD (9 + len) (sigT key B) i))) = F := ⟨_, rfl⟩
  have hF' : ∀ i, F i = .int .u8 (nat (shaD (9 + len) (sigT key B) i)) := fun i => by rw [← hF]
  rw [hF] at hK
  simp -implicitDefEqProofs (maxSteps := 1000000) (disch := omega) only [↓vcB,↓gd,↓opP,↓qv,↓ef,↓bslS,↓stS,↓mkS,↓rangeS,↓nextS,↓entryS,↓delS,↓mupS,↓appS,↓s2bS,↓resS,evB,Sx.look,slot,↓lkL,putS,putO,argsL,↓reduceIte,ofV,of1,lookH,putH,List.replicate,List.append,convS,fldA,nthT,idxA,idxS,fldS,oslN,bnd,slS,unS,valI,lenS,lookS,takeC,parts,asRow,single,rdF,Ent.row,ldS,sz,szL,wrF,bldF,plT,bldS,srcS,nilS,nilEq,mapC,binH,binS2,structS,eqL,eqF,binS,arrS,isI,tupS,stor,storL,Value.oneCell',minS,maxS,capS,Nat.reduceAdd,Nat.reduceSub,Nat.reduceMul,Nat.reduceLT,Nat.reduceLeDiff,Nat.reduceEqDiff,Nat.reduceBEq,Int.reduceToNat,Int.reduceNeg,if_true,if_false,reduceIte,stays,inL,same1,qn,ldN,convN,lenN,cond_true,cond_false,implies_true,Int.reduceEq,Int.reduceNe,Int.reduceLE,Int.reduceLT,forall_eq_or_imp,forall_eq,ne_eq,reduceCtorEq,notInt,numB,tabB,Array.reduceGetElem?,res27,pl145,hF',liB]
  have leaf : ∀ b, b = vOk key n (famEq 32 (fun i => SV.int IntKind.u8 (nat (D i))) F) → IntoR 1 (SV.bool b)
      [Chunk.row false m 1 fun i => SV.int IntKind.u8 (nat (B i)),
        Chunk.cells true [SV.int IntKind.i64 key, SV.fam 32 1 fun i => SV.int IntKind.u8 (nat (D i))]] K := fun b hb => by
    subst hb
    exact intoR_take [.row false m 1 fun i => .int .u8 (nat (B i))] rfl rfl (by simp [slot, lkL, fixed, rg, renH, chEq, lookH, eqvL, eqv, eqvF, rnmL, rnm, liveN, Chunk.live, goodH, Chunk.good, okL, ok, sz, szL, storL, stor, renT, okT]) (by simp [slot, lkL, fixed, rg, renH, chEq, lookH, eqvL, eqv, eqvF, rnmL, rnm, liveN, Chunk.live, goodH, Chunk.good, okL, ok, sz, szL, storL, stor, renT, okT]) hK
  refine ⟨Sx.imp_intro fun hA => ⟨Sx.imp_intro fun hB => ?_, Sx.imp_intro fun hB => ?_⟩, Sx.imp_intro fun hA => ?_⟩
  · refine c25 key m len B _ (fun i _ => rfl) hm hl false rfl (by simp) F hF _ ?_
    simp -implicitDefEqProofs (maxSteps := 1000000) (disch := omega) only [↓vcB,↓gd,↓opP,↓qv,↓ef,↓bslS,↓stS,↓mkS,↓rangeS,↓nextS,↓entryS,↓delS,↓mupS,↓appS,↓s2bS,↓resS,evB,Sx.look,slot,↓lkL,putS,putO,argsL,↓reduceIte,ofV,of1,lookH,putH,List.replicate,List.append,convS,fldA,nthT,idxA,idxS,fldS,oslN,bnd,slS,unS,valI,lenS,lookS,takeC,parts,asRow,single,rdF,Ent.row,ldS,sz,szL,wrF,bldF,plT,bldS,srcS,nilS,nilEq,mapC,binH,binS2,structS,eqL,eqF,binS,arrS,isI,tupS,stor,storL,Value.oneCell',minS,maxS,capS,Nat.reduceAdd,Nat.reduceSub,Nat.reduceMul,Nat.reduceLT,Nat.reduceLeDiff,Nat.reduceEqDiff,Nat.reduceBEq,Int.reduceToNat,Int.reduceNeg,if_true,if_false,reduceIte,stays,inL,same1,qn,ldN,convN,lenN,cond_true,cond_false,implies_true,Int.reduceEq,Int.reduceNe,Int.reduceLE,Int.reduceLT,forall_eq_or_imp,forall_eq,ne_eq,reduceCtorEq,notInt,numB,tabB,Array.reduceGetElem?,res27,pl145,hF',beq_self_eq_true,Bool.true_and,Bool.and_true,liB]
    exact leaf _ (by simp only [vOk, hA, hB, Bool.true_and])
  · exact leaf _ (by simp only [vOk, hA, hB, Bool.true_and, Bool.false_and])
  · exact leaf _ (by simp only [vOk, hA, Bool.false_and])
theorem c27 (key n : Int) (D : Nat → BitVec 8) (G : Nat → SV) (hG : (fun i => SV.int .u8 (nat (D i))) = G) (m len : Nat) (B : Nat → BitVec 8) (f : Nat → SV) (hf : ∀ i, i < m → f i = .int .u8 (nat (B i))) (hm : len ≤ m) (hl : len ≤ 70368744177000) {h : List Chunk} {nm : Nat} (wr : Bool) (hh : lookH h nm = .row wr m 1 f) (hnm : nm < h.length) (b : Bool)
    (hb : vOk key n (famEq 32 G (fun i => .int .u8 (nat (shaD (9 + len) (sigT key B) i)))) = b) (K : Tok → SV → List Chunk → Prop) (hK : K .mk (.bool b) h) : callP Try.prog 145 [.agg [.int .i64 key, .fam 32 1 G], .osl nm 0 0 1 len, .int .i64 n] h K := by
  subst hG
  subst hb
  refine callP_frame (argsL := [.agg [.int .i64 key, .fam 32 1 fun i => .int .u8 (nat (D i))], .osl 0 0 0 1 len, .int .i64 n]) (KL := fun _ v h' => v = .bool (vOk key n (famEq 32 (fun i => .int .u8 (nat (D i))) (fun i => .int .u8 (nat (shaD (9 + len) (sigT key B) i))))) ∧ h' = [.row false m 1 fun i => .int .u8 (nat (B i))]) [nm] (c27l key n D m len B hm hl _ ⟨rfl, rfl⟩) ?_ ?_ ?_ ?_ ?_ ?_
  · simp
  · simp only [has, hh, chEq, and_true]
    exact ⟨hnm, by simp, trivial, trivial, fun i hi => by rw [hf i hi]; simp [rnm, eqv]⟩
  · simp [slot, lkL, fixed, rg, renH, chEq, lookH, eqvL, eqv, eqvF, rnmL, rnm, liveN, Chunk.live, goodH, Chunk.good, okL, ok, sz, szL, storL, stor, renT, okT, has, upG, up, nth, roOk, keepsLive, Chunk.wr, lay, rnmC, putH]
  · simp [slot, lkL, fixed, rg, renH, chEq, lookH, eqvL, eqv, eqvF, rnmL, rnm, liveN, Chunk.live, goodH, Chunk.good, okL, ok, sz, szL, storL, stor, renT, okT, has, upG, up, nth, roOk, keepsLive, Chunk.wr, lay, rnmC, putH]
  · simp [slot, lkL, fixed, rg, renH, chEq, lookH, eqvL, eqv, eqvF, rnmL, rnm, liveN, Chunk.live, goodH, Chunk.good, okL, ok, sz, szL, storL, stor, renT, okT, has, upG, up, nth, roOk, keepsLive, Chunk.wr, lay, rnmC, putH]
  · rintro v h' ⟨rfl, rfl⟩
    refine ⟨by simp [slot, lkL, fixed, rg, renH, chEq, lookH, eqvL, eqv, eqvF, rnmL, rnm, liveN, Chunk.live, goodH, Chunk.good, okL, ok, sz, szL, storL, stor, renT, okT, has, upG, up, nth, roOk, keepsLive, Chunk.wr, lay, rnmC, putH], by simp [slot, lkL, fixed, rg, renH, chEq, lookH, eqvL, eqv, eqvF, rnmL, rnm, liveN, Chunk.live, goodH, Chunk.good, okL, ok, sz, szL, storL, stor, renT, okT, has, upG, up, nth, roOk, keepsLive, Chunk.wr, lay, rnmC, putH], ?_⟩
    simpa [rnm, rnmL, lay, Chunk.wr] using hK
end Go.Proofs.Ytgocfglmideobaa.S

set_option linter.all false
set_option maxRecDepth 40000
namespace Go.Proofs.Ytgocfglmideobaa
open Go Go.Sx
theorem res49 : Try.f49.results.toList = [.cell 4 31] := rfl
/-- Four nil slices in a message get names. -/
theorem callP_n4 {f : FuncId} {a b c e D k O : SV} {rest : List SV} {h : List Chunk} {K : Tok → SV → List Chunk → Prop} (ho : ∀ n, okL n [a, b, c, e, D, k, O] ∧ okL n rest)
    (hc : callP Try.prog f (.agg [a, b, c, e, D, .osl h.length 0 0 1 0, .osl (h.length + 1) 0 0 1 0, .osl (h.length + 2) 0 0 73 0, .osl (h.length + 3) 0 0 74 0, k, O] :: rest) (h ++ [.row true 0 1 (bt []), .row true 0 1 fun _ => .bool false, .row true 0 73 fun i => .agg ((fun _ => []) i), .row true 0 74 fun i => .agg ((fun _ => []) i)]) K) :
    callP Try.prog f (.agg [a, b, c, e, D, .v (.slice none 0 0), .v (.slice none 0 0), .v (.slice none 0 0), .v (.slice none 0 0), k, O] :: rest) h K := by
  have ha := ho (h.length + 1)
  have hb := ho (h.length + 2)
  have hd := ho (h.length + 3)
  have he := ho (h.length + 4)
  simp only [okL, and_true] at ha hb hd he
  refine callP_nil (args' := .agg [a, b, c, e, D, .osl h.length 0 0 1 0, .v (.slice none 0 0), .v (.slice none 0 0), .v (.slice none 0 0), k, O] :: rest) 1 (bt []) (fun ρ hρ => ?_) ?_ ?_
  · simp [denL, den, denC, hρ]
  · simp [okL, ok, ha] <;> omega
  refine callP_nil (args' := .agg [a, b, c, e, D, .osl h.length 0 0 1 0, .osl (h.length + 1) 0 0 1 0, .v (.slice none 0 0), .v (.slice none 0 0), k, O] :: rest) 1 (fun _ => .bool false) (fun ρ hρ => ?_) ?_ ?_
  · rw [List.length_append, List.length_singleton] at hρ
    simp [denL, den, denC, hρ]
  · simp [okL, ok, hb] <;> omega
  refine callP_nil (args' := .agg [a, b, c, e, D, .osl h.length 0 0 1 0, .osl (h.length + 1) 0 0 1 0, .osl (h.length + 2) 0 0 73 0, .v (.slice none 0 0), k, O] :: rest) 73 (fun i => .agg ((fun _ => []) i)) (fun ρ hρ => ?_) ?_ ?_
  · have hρ' : ρ (h.length + 2) = ⟨0, 0, 0, true, none⟩ := by rw [← hρ]; congr 1; simp
    simp [denL, den, denC, hρ']
  · simp [okL, ok, hd] <;> omega
  refine callP_nil (args' := .agg [a, b, c, e, D, .osl h.length 0 0 1 0, .osl (h.length + 1) 0 0 1 0, .osl (h.length + 2) 0 0 73 0, .osl (h.length + 3) 0 0 74 0, k, O] :: rest) 74 (fun i => .agg ((fun _ => []) i)) (fun ρ hρ => ?_) ?_ ?_
  · have hρ' : ρ (h.length + 3) = ⟨0, 0, 0, true, none⟩ := by rw [← hρ]; congr 1; simp
    simp [denL, den, denC, hρ']
  · simp [okL, ok, he] <;> omega
  simpa using hc
/-- Two nil slices in a message get names. -/
theorem callP_n2 {f : FuncId} {a b c e D k O : SV} {n1 n2 : Nat} {rest : List SV} {h : List Chunk} {K : Tok → SV → List Chunk → Prop} (ho : ∀ n, okL n [a, b, c, e, D, k, O] ∧ okL n rest) (h1 : n1 < h.length) (h2 : n2 < h.length)
    (hc : callP Try.prog f (.agg [a, b, c, e, D, .osl n1 0 0 1 0, .osl h.length 0 0 1 0, .osl n2 0 0 73 0, .osl (h.length + 1) 0 0 74 0, k, O] :: rest) (h ++ [.row true 0 1 fun _ => .bool false, .row true 0 74 fun i => .agg ((fun _ => []) i)]) K) :
    callP Try.prog f (.agg [a, b, c, e, D, .osl n1 0 0 1 0, .v (.slice none 0 0), .osl n2 0 0 73 0, .v (.slice none 0 0), k, O] :: rest) h K := by
  have ha := ho (h.length + 1)
  have hb := ho (h.length + 2)
  simp only [okL, and_true] at ha hb
  refine callP_nil (args' := .agg [a, b, c, e, D, .osl n1 0 0 1 0, .osl h.length 0 0 1 0, .osl n2 0 0 73 0, .v (.slice none 0 0), k, O] :: rest) 1 (fun _ => .bool false) (fun ρ hρ => ?_) ?_ ?_
  · simp [denL, den, denC, hρ]
  · simp [okL, ok, ha] <;> omega
  refine callP_nil (args' := .agg [a, b, c, e, D, .osl n1 0 0 1 0, .osl h.length 0 0 1 0, .osl n2 0 0 73 0, .osl (h.length + 1) 0 0 74 0, k, O] :: rest) 74 (fun i => .agg ((fun _ => []) i)) (fun ρ hρ => ?_) ?_ ?_
  · rw [List.length_append, List.length_singleton] at hρ
    simp [denL, den, denC, hρ]
  · simp [okL, ok, hb] <;> omega
  simpa using hc
def z32 : Nat → By := fun _ => 0
def mA (key : Int) (of : Nat → By) : Msg := .mk 4 2 0 1 z32 [] [] [] [] key of
theorem mA_H {h : List Chunk} {n1 n2 n3 n4 : Nat} {w1 w2 w3 w4 : Bool} {F2 : Nat → SV} {f3 f4 : Nat → List SV} {key : Int} {of : Nat → By} (h1 : lookH h n1 = .row w1 0 1 (bt [])) (h2 : lookH h n2 = .row w2 0 1 F2) (h3 : lookH h n3 = .row w3 0 73 fun i => .agg (f3 i)) (h4 : lookH h n4 = .row w4 0 74 fun i => .agg (f4 i)) :
    MsgH h (mA key of) [.int .i64 4, .int .i64 2, .int .i64 0, .int .i64 1, .fam 32 1 fun _ => .int .u8 0, .osl n1 0 0 1 0, .osl n2 0 0 1 0, .osl n3 0 0 73 0, .osl n4 0 0 74 0, .int .i64 key, .fam 32 1 fun i => .int .u8 (nat (of i))] := by
  rw [mA, MsgH]
  exact ⟨_, _, n3, w3, f3, n4, w4, f4, rfl, ⟨n1, w1, rfl, h1⟩, ⟨n2, w2, F2, rfl, h2, fun i hi => absurd hi (Nat.not_lt_zero _)⟩, h3, by rw [MsgsH]; trivial, h4, by rw [PrepsH]; trivial⟩
theorem mA_may (key : Int) (of : Nat → By) : may (mA key of) = 0 := by
  rw [mA, may]
  simp [mayHead, mayBuns, mayBs, mayL, mayQ, okFrom, okNum, hView, hSeq, hDig, hBun, hBuns, hProof, hPrep]
theorem mA_wf {key : Int} (hk : rng key) (of : Nat → By) : wfM (mA key of) := by
  rw [mA, wfM]
  refine ⟨?_, ?_, ?_, ?_, hk, by rw [wfL]; trivial, by rw [wfQ]; trivial⟩ <;> (unfold rng; omega)
def bA : List By := body (mA 0 z32)
theorem mA_body (key : Int) (of : Nat → By) : body (mA key of) = bA := by
  rw [bA, mA, mA, body, body]
def sA (i : Nat) : By := S.shaD (9 + bA.length) (S.sigT 2 fun i => bA.getD i 0) i
end Go.Proofs.Ytgocfglmideobaa

set_option linter.all false
set_option maxRecDepth 40000
namespace Go.Proofs.Ytgocfglmideobaa
open Go Go.Sx
theorem z32_nat (i : Nat) : nat (z32 i) = 0 := rfl
set_option maxHeartbeats 8000000 in
theorem c49e (h : List Chunk) (K : Tok → SV → List Chunk → Prop) (hK : ∀ (H' : List Chunk) (n1 n2 : Nat) (f2 : Nat → List SV), Ext (fun _ => False) h H' → lookH H' n1 = .row true 0 1 (bt []) → lookH H' n2 = .row true 0 73 (fun i => .agg (f2 i)) → K .mk (.agg [.int .i64 4, .int .i64 2, .int .i64 0, .int .i64 1, .fam 32 1 fun _ => .int .u8 0, .osl n1 0 0 1 0, .v (.slice none 0 0), .osl n2 0 0 73 0, .v (.slice none 0 0), .int .i64 2, .fam 32 1 fun i => .int .u8 (nat (sA i))]) H') : callP Try.prog 49 [.agg [.int .i64 4, .int .i64 0, .int .i64 0, .int .i64 1, .fam 32 1 fun _ => .int .u8 0, .v (.slice none 0 0), .v (.slice none 0 0), .v (.slice none 0 0), .v (.slice none 0 0), .int .i64 0, .fam 32 1 fun _ => .int .u8 0], .int .i64 2] h K := by
  refine callP_of_code tabOk Try.func49 (by kernel_rfl) rfl (Nat.le_of_ble_eq_true rfl) (codeP_of_vc (pl := np) tabOk follows_mixed (by kernel_rfl) ?_)
  rw [Try.ntmps49]
  have z1 : ((4 : Int) == 1) = false := rfl
  simp -implicitDefEqProofs (maxSteps := 1000000) (disch := omega) only [↓vcB,↓gd,↓opP,↓qv,↓ef,↓bslS,↓stS,↓mkS,↓rangeS,↓nextS,↓entryS,↓delS,↓mupS,↓appS,↓s2bS,↓resS,evB,Sx.look,slot,↓lkL,putS,putO,argsL,↓reduceIte,ofV,of1,lookH,putH,List.replicate,List.append,convS,fldA,nthT,idxA,idxS,fldS,oslN,bnd,slS,unS,valI,lenS,lookS,takeC,psB,asRow,csB,rdF,Ent.row,ldS,sz,szL,wrF,bldF,plT,bldS,srcS,nilS,nilEq,mapC,binH,binS2,structS,eqL,eqF,binS,arrS,isI,tupS,stor,storL,Value.oneCell',minS,maxS,capS,Nat.reduceAdd,Nat.reduceSub,Nat.reduceMul,Nat.reduceLT,Nat.reduceLeDiff,Nat.reduceEqDiff,Nat.reduceBEq,Int.reduceToNat,Int.reduceNeg,if_true,if_false,reduceIte,stays,inL,same1,qn,ldN,convN,lenN,cond_true,cond_false,implies_true,Int.reduceEq,Int.reduceNe,Int.reduceLE,Int.reduceLT,forall_eq_or_imp,forall_eq,ne_eq,reduceCtorEq,notInt,numB,tabB,Array.reduceGetElem?,upG,up,nth,lay,rcB,rnm,rnmL,wrB,pcB,res49,Option.isNone,lhB,z1,liB]
  repeat (refine ⟨by omega, ?_⟩)
  refine callP_n4 (fun n => by simp [okL, ok, sz]) ?_
  refine c15 (mA 0 z32) _ _ (mA_H (lookH_app _ 0 _) (lookH_app _ 1 _) (lookH_app _ 2 _) (lookH_app _ 3 _)) _ ?_
  rw [mA_may]
  have z2 : ((0 : Int) != 0) = false := rfl
  simp -implicitDefEqProofs (maxSteps := 1000000) (disch := omega) only [↓vcB,↓gd,↓opP,↓qv,↓ef,↓bslS,↓stS,↓mkS,↓rangeS,↓nextS,↓entryS,↓delS,↓mupS,↓appS,↓s2bS,↓resS,evB,Sx.look,slot,↓lkL,putS,putO,argsL,↓reduceIte,ofV,of1,lookH,putH,List.replicate,List.append,convS,fldA,nthT,idxA,idxS,fldS,oslN,bnd,slS,unS,valI,lenS,lookS,takeC,psB,asRow,csB,rdF,Ent.row,ldS,sz,szL,wrF,bldF,plT,bldS,srcS,nilS,nilEq,mapC,binH,binS2,structS,eqL,eqF,binS,arrS,isI,tupS,stor,storL,Value.oneCell',minS,maxS,capS,Nat.reduceAdd,Nat.reduceSub,Nat.reduceMul,Nat.reduceLT,Nat.reduceLeDiff,Nat.reduceEqDiff,Nat.reduceBEq,Int.reduceToNat,Int.reduceNeg,if_true,if_false,reduceIte,stays,inL,same1,qn,ldN,convN,lenN,cond_true,cond_false,implies_true,Int.reduceEq,Int.reduceNe,Int.reduceLE,Int.reduceLT,forall_eq_or_imp,forall_eq,ne_eq,reduceCtorEq,notInt,numB,tabB,Array.reduceGetElem?,upG,up,nth,lay,rcB,rnm,rnmL,wrB,pcB,res49,Option.isNone,lhB,z2,lookH_at,putH_at,putH_len,liB]
  repeat (refine ⟨by omega, ?_⟩)
  obtain ⟨H1, hH1⟩ : ∃ H1, H1 = h ++ [.cells true [.int .i64 4, .int .i64 2, .int .i64 0, .int .i64 1, .fam 32 1 fun _ => .int .u8 0, .v (.slice none 0 0), .v (.slice none 0 0), .v (.slice none 0 0), .v (.slice none 0 0), .int .i64 0, .fam 32 1 fun _ => .int .u8 0], Chunk.cells true [.int .i64 0, .int .i64 0, .int .i64 0, .int .i64 0, .fam 32 1 fun _ => .int .u8 0, .v (.slice none 0 0), .v (.slice none 0 0), .v (.slice none 0 0), .v (.slice none 0 0), .int .i64 0, .fam 32 1 fun _ => .int .u8 0], .row true 0 1 (bt []), .row true 0 1 fun _ => .bool false, .row true 0 73 fun i => .agg [], .row true 0 74 fun i => .agg []] := ⟨_, rfl⟩
  have hE1 : Ext (fun _ => False) h H1 := by rw [hH1]; exact (Ext.refl _ _).app _
  have e0 : lookH H1 h.length = .cells true [.int .i64 4, .int .i64 2, .int .i64 0, .int .i64 1, .fam 32 1 fun _ => .int .u8 0, .v (.slice none 0 0), .v (.slice none 0 0), .v (.slice none 0 0), .v (.slice none 0 0), .int .i64 0, .fam 32 1 fun _ => .int .u8 0] := by rw [hH1]; exact lookH_app0 _ _
  have e1 : lookH H1 (h.length + 1) = Chunk.cells true [.int .i64 0, .int .i64 0, .int .i64 0, .int .i64 0, .fam 32 1 fun _ => .int .u8 0, .v (.slice none 0 0), .v (.slice none 0 0), .v (.slice none 0 0), .v (.slice none 0 0), .int .i64 0, .fam 32 1 fun _ => .int .u8 0] := by rw [hH1]; exact lookH_app _ 1 _
  rw [← hH1]
  clear hH1
  refine callP_n4 (fun n => by simp [okL, ok, sz]) ?_
  refine c98e 4 2 0 1 0 z32 z32 _ _ _ _ _ _ _ _ (bt []) _ _ _ _ (lookH_app _ 0 _) (lookH_app _ 1 _) (lookH_app _ 2 _) (lookH_app _ 3 _) _ ?_
  intro H2 n1 n2 f2 hE2 r1 r2
  have hEa : Ext (fun _ => False) H1 H2 := ((Ext.refl _ _).app _).trans hE2
  have g0 := hEa.look e0 (by simp) fun h => h
  have g1 := hEa.look e1 (by simp) fun h => h
  have m0 := lookH_lt g0 (by simp)
  have m1 := lookH_lt g1 (by simp)
  have hE3 := hE1.trans hEa
  clear hE2 hEa e0 e1 hE1
  simp -implicitDefEqProofs (maxSteps := 1000000) (disch := omega) only [↓vcB,↓gd,↓opP,↓qv,↓ef,↓bslS,↓stS,↓mkS,↓rangeS,↓nextS,↓entryS,↓delS,↓mupS,↓appS,↓s2bS,↓resS,evB,Sx.look,slot,↓lkL,putS,putO,argsL,↓reduceIte,ofV,of1,lookH,putH,List.replicate,List.append,convS,fldA,nthT,idxA,idxS,fldS,oslN,bnd,slS,unS,valI,lenS,lookS,takeC,psB,asRow,csB,rdF,Ent.row,ldS,sz,szL,wrF,bldF,plT,bldS,srcS,nilS,nilEq,mapC,binH,binS2,structS,eqL,eqF,binS,arrS,isI,tupS,stor,storL,Value.oneCell',minS,maxS,capS,Nat.reduceAdd,Nat.reduceSub,Nat.reduceMul,Nat.reduceLT,Nat.reduceLeDiff,Nat.reduceEqDiff,Nat.reduceBEq,Int.reduceToNat,Int.reduceNeg,if_true,if_false,reduceIte,stays,inL,same1,qn,ldN,convN,lenN,cond_true,cond_false,implies_true,Int.reduceEq,Int.reduceNe,Int.reduceLE,Int.reduceLT,forall_eq_or_imp,forall_eq,ne_eq,reduceCtorEq,notInt,numB,tabB,Array.reduceGetElem?,upG,up,nth,lay,rcB,rnm,rnmL,wrB,pcB,res49,Option.isNone,lhB,z32_nat,g0,g1,lookH_at,putH_at,putH_len,lookH_put_same,m0,m1,liB]
  repeat (refine ⟨by omega, ?_⟩)
  obtain ⟨H4, hH4⟩ : ∃ H4, H4 = putH H2 h.length (.cells true [.int .i64 4, .int .i64 2, .int .i64 0, .int .i64 1, .fam 32 1 fun _ => .int .u8 0, .osl n1 0 0 1 0, .v (.slice none 0 0), .osl n2 0 0 73 0, .v (.slice none 0 0), .int .i64 0, .fam 32 1 fun _ => .int .u8 0]) := ⟨_, rfl⟩
  have hE4 : Ext (fun _ => False) h H4 := by rw [hH4]; exact hE3.put _ (.inr (Nat.le_refl _))
  have k0 : lookH H4 h.length = .cells true [.int .i64 4, .int .i64 2, .int .i64 0, .int .i64 1, .fam 32 1 fun _ => .int .u8 0, .osl n1 0 0 1 0, .v (.slice none 0 0), .osl n2 0 0 73 0, .v (.slice none 0 0), .int .i64 0, .fam 32 1 fun _ => .int .u8 0] := by rw [hH4]; exact lookH_put_same _ m0
  have k1 : lookH H4 (h.length + 1) = Chunk.cells true [.int .i64 0, .int .i64 0, .int .i64 0, .int .i64 0, .fam 32 1 fun _ => .int .u8 0, .v (.slice none 0 0), .v (.slice none 0 0), .v (.slice none 0 0), .v (.slice none 0 0), .int .i64 0, .fam 32 1 fun _ => .int .u8 0] := by rw [hH4, lookH_put_ne _ (by omega)]; exact g1
  have k2 : lookH H4 n1 = .row true 0 1 (bt []) := by rw [hH4, lookH_put_ne _ fun e => by rw [e, g0] at r1; cases r1]; exact r1
  have k3 : lookH H4 n2 = .row true 0 73 fun i => .agg (f2 i) := by rw [hH4, lookH_put_ne _ fun e => by rw [e, g0] at r2; cases r2]; exact r2
  rw [← hH4]
  have m2 := lookH_lt k2 (by simp)
  have m3 := lookH_lt k3 (by simp)
  refine callP_n2 (fun n => by simp [okL, ok, sz]) m2 m3 ?_
  have hmA := mA_H (h := H4 ++ [.row true 0 1 fun _ => .bool false, .row true 0 74 fun i => .agg ((fun _ => []) i)]) (key := 0) (of := z32) (lookH_old _ _ _ k2 (by simp)) (lookH_app0 _ _) (lookH_old _ _ _ k3 (by simp)) (lookH_app _ 1 _)
  have hw0 : wfM (mA 0 z32) := mA_wf (by unfold rng; omega) z32
  refine c62 (mA 0 z32) hw0 _ _ hmA (Nat.le_trans (body_small hw0 (mA_may 0 z32)) (by decide)) _ ?_
  rw [mA_body]
  intro H5 k5 hE5 hk5 hr5
  simp -implicitDefEqProofs (maxSteps := 1000000) (disch := omega) only [↓vcB,↓gd,↓opP,↓qv,↓ef,↓bslS,↓stS,↓mkS,↓rangeS,↓nextS,↓entryS,↓delS,↓mupS,↓appS,↓s2bS,↓resS,evB,Sx.look,slot,↓lkL,putS,putO,argsL,↓reduceIte,ofV,of1,lookH,putH,List.replicate,List.append,convS,fldA,nthT,idxA,idxS,fldS,oslN,bnd,slS,unS,valI,lenS,lookS,takeC,psB,asRow,csB,rdF,Ent.row,ldS,sz,szL,wrF,bldF,plT,bldS,srcS,nilS,nilEq,mapC,binH,binS2,structS,eqL,eqF,binS,arrS,isI,tupS,stor,storL,Value.oneCell',minS,maxS,capS,Nat.reduceAdd,Nat.reduceSub,Nat.reduceMul,Nat.reduceLT,Nat.reduceLeDiff,Nat.reduceEqDiff,Nat.reduceBEq,Int.reduceToNat,Int.reduceNeg,if_true,if_false,reduceIte,stays,inL,same1,qn,ldN,convN,lenN,cond_true,cond_false,implies_true,Int.reduceEq,Int.reduceNe,Int.reduceLE,Int.reduceLT,forall_eq_or_imp,forall_eq,ne_eq,reduceCtorEq,notInt,numB,tabB,Array.reduceGetElem?,upG,up,nth,lay,rcB,rnm,rnmL,wrB,pcB,res49,Option.isNone,lhB,liB]
  repeat (refine ⟨by omega, ?_⟩)
  have hlen : bA.length ≤ 70368744177000 := Nat.le_trans (body_small hw0 (mA_may 0 z32)) (by decide)
  have hlt5 := lookH_lt hr5 (by simp)
  have hE6 : Ext (fun _ => False) H4 H5 := ((Ext.refl _ _).app _).trans hE5
  have p0 := hE6.look k0 (by simp) fun h => h
  have p1 := hE6.look k1 (by simp) fun h => h
  have p2 := hE6.look k2 (by simp) fun h => h
  have p3 := hE6.look k3 (by simp) fun h => h
  have hE7 := hE4.trans hE6
  clear hE5 hE6 hmA
  refine S.c25 2 bA.length bA.length (fun i => bA.getD i 0) _ (fun i _ => rfl) (Nat.le_refl _) hlen true hr5 hlt5 (fun i => .int .u8 (nat (sA i))) rfl _ ?_
  have q0 := lookH_lt p0 (by simp)
  have q1 := lookH_lt p1 (by simp)
  have n4 : ¬ h.length + 1 = h.length := by omega
  have k4 : lookH (putH H5 h.length (.cells true [.int .i64 4, .int .i64 2, .int .i64 0, .int .i64 1, .fam 32 1 fun _ => .int .u8 0, .osl n1 0 0 1 0, .v (.slice none 0 0), .osl n2 0 0 73 0, .v (.slice none 0 0), .int .i64 2, .fam 32 1 fun i => .int .u8 (nat (sA i))])) (h.length + 1) = Chunk.cells true [.int .i64 0, .int .i64 0, .int .i64 0, .int .i64 0, .fam 32 1 fun _ => .int .u8 0, .v (.slice none 0 0), .v (.slice none 0 0), .v (.slice none 0 0), .v (.slice none 0 0), .int .i64 0, .fam 32 1 fun _ => .int .u8 0] := by rw [lookH_put_ne _ (by omega)]; exact p1
  have m7 : h.length + 1 < (putH H5 h.length (.cells true [.int .i64 4, .int .i64 2, .int .i64 0, .int .i64 1, .fam 32 1 fun _ => .int .u8 0, .osl n1 0 0 1 0, .v (.slice none 0 0), .osl n2 0 0 73 0, .v (.slice none 0 0), .int .i64 2, .fam 32 1 fun i => .int .u8 (nat (sA i))])).length := by rw [putH_len]; exact q1
  simp -implicitDefEqProofs (maxSteps := 1000000) (disch := omega) only [↓vcB,↓gd,↓opP,↓qv,↓ef,↓bslS,↓stS,↓mkS,↓rangeS,↓nextS,↓entryS,↓delS,↓mupS,↓appS,↓s2bS,↓resS,evB,Sx.look,slot,↓lkL,putS,putO,argsL,↓reduceIte,ofV,of1,lookH,putH,List.replicate,List.append,convS,fldA,nthT,idxA,idxS,fldS,oslN,bnd,slS,unS,valI,lenS,lookS,takeC,psB,asRow,csB,rdF,Ent.row,ldS,sz,szL,wrF,bldF,plT,bldS,srcS,nilS,nilEq,mapC,binH,binS2,structS,eqL,eqF,binS,arrS,isI,tupS,stor,storL,Value.oneCell',minS,maxS,capS,Nat.reduceAdd,Nat.reduceSub,Nat.reduceMul,Nat.reduceLT,Nat.reduceLeDiff,Nat.reduceEqDiff,Nat.reduceBEq,Int.reduceToNat,Int.reduceNeg,if_true,if_false,reduceIte,stays,inL,same1,qn,ldN,convN,lenN,cond_true,cond_false,implies_true,Int.reduceEq,Int.reduceNe,Int.reduceLE,Int.reduceLT,forall_eq_or_imp,forall_eq,ne_eq,reduceCtorEq,notInt,numB,tabB,Array.reduceGetElem?,upG,up,nth,lay,rcB,rnm,rnmL,wrB,pcB,res49,Option.isNone,lhB,p0,p1,k4,lookH_at,putH_at,putH_len,lookH_put_same,q0,q1,m7,liB]
  repeat (refine ⟨by omega, ?_⟩)
  have t1 : n1 ≠ h.length := fun e => by rw [e, p0] at p2; cases p2
  have t2 : n1 ≠ h.length + 1 := fun e => by rw [e, p1] at p2; cases p2
  have t3 : n2 ≠ h.length := fun e => by rw [e, p0] at p3; cases p3
  have t4 : n2 ≠ h.length + 1 := fun e => by rw [e, p1] at p3; cases p3
  refine intoR_refl ?_ (hK _ n1 n2 f2 ((hE7.put _ (.inr (Nat.le_refl _))).put _ (.inr (Nat.le_succ _))) ?_ ?_)
  · rw [putH_len, putH_len]
    exact hE7.1
  · rw [lookH_put_ne _ t2, lookH_put_ne _ t1]
    exact p2
  · rw [lookH_put_ne _ t4, lookH_put_ne _ t3]
    exact p3
end Go.Proofs.Ytgocfglmideobaa

set_option linter.all false
set_option maxRecDepth 40000
namespace Go.Proofs.Ytgocfglmideobaa
open Go Go.Sx
theorem res164 : Try.f164.results.toList = [.tmp 2] := rfl
theorem res146 : Try.f146.results.toList = [.tmp 2] := rfl
def pl146 : Nat → Plan
  | 5 => (.q 0 (.q 1 (.q 2 (.q 5 (.q 6 (.e1 3 [2] (.e1 4 [2] (.e1 7 [4, 6] (.q 8 .nil)))))))))
  | _ => .nil

set_option maxHeartbeats 4000000 in
theorem c164e (k : Nat) (w : Bool) (F : Nat → SV) (h : List Chunk) (hk : lookH h k = .row w 0 73 F) (K : Tok → SV → List Chunk → Prop) (hK : ∀ (H : List Chunk) (m : Nat) (G : Nat → SV), Ext (fun _ => False) h H → h.length ≤ m → lookH H m = .row true 0 73 G → K .mk (.osl m 0 0 73 0) H) (hN : K .mk (.v (.slice none 0 0)) h) : callP Try.prog 164 [.osl k 0 0 73 0] h K := by
  refine callP_emp fun a c => ?_
  cases a with
  | none =>
    refine callP_of_code tabOk Try.func164 (by kernel_rfl) rfl (Nat.le_of_ble_eq_true rfl) (codeP_of_vc (pl := np) tabOk follows_mixed (by kernel_rfl) ?_)
    rw [Try.ntmps164]
    simp -implicitDefEqProofs (maxSteps := 1000000) (disch := omega) only [↓vcB,↓gd,↓opP,↓qv,↓ef,↓bslS,↓stS,↓mkS,↓rangeS,↓nextS,↓entryS,↓delS,↓mupS,↓appS,↓s2bS,↓resS,evB,Sx.look,slot,↓lkL,putS,putO,argsL,↓reduceIte,ofV,of1,lookH,putH,List.replicate,List.append,convS,fldA,nthT,idxA,idxS,fldS,oslN,bnd,slS,unS,valI,lenS,lookS,takeC,psB,asRow,csB,rdF,Ent.row,ldS,sz,szL,wrF,bldF,plT,bldS,srcS,nilS,nilEq,mapC,binH,binS2,structS,eqL,eqF,binS,arrS,isI,tupS,stor,storL,Value.oneCell',minS,maxS,capS,Nat.reduceAdd,Nat.reduceSub,Nat.reduceMul,Nat.reduceLT,Nat.reduceLeDiff,Nat.reduceEqDiff,Nat.reduceBEq,Int.reduceToNat,Int.reduceNeg,if_true,if_false,reduceIte,stays,inL,same1,qn,ldN,convN,lenN,cond_true,cond_false,implies_true,Int.reduceEq,Int.reduceNe,Int.reduceLE,Int.reduceLT,forall_eq_or_imp,forall_eq,ne_eq,reduceCtorEq,notInt,numB,tabB,Array.reduceGetElem?,upG,up,nth,lay,rcB,rnm,rnmL,wrB,pcB,res164,res146,Option.isNone,lhB,liB]
    repeat (refine ⟨by omega, ?_⟩)
    exact intoR_refl (Nat.le_refl _) hN
  | some a =>
    refine callP_of_code tabOk Try.func164 (by kernel_rfl) rfl (Nat.le_of_ble_eq_true rfl) (codeP_of_vc (pl := np) tabOk follows_mixed (by kernel_rfl) ?_)
    rw [Try.ntmps164]
    simp -implicitDefEqProofs (maxSteps := 1000000) (disch := omega) only [↓vcB,↓gd,↓opP,↓qv,↓ef,↓bslS,↓stS,↓mkS,↓rangeS,↓nextS,↓entryS,↓delS,↓mupS,↓appS,↓s2bS,↓resS,evB,Sx.look,slot,↓lkL,putS,putO,argsL,↓reduceIte,ofV,of1,lookH,putH,List.replicate,List.append,convS,fldA,nthT,idxA,idxS,fldS,oslN,bnd,slS,unS,valI,lenS,lookS,takeC,psB,asRow,csB,rdF,Ent.row,ldS,sz,szL,wrF,bldF,plT,bldS,srcS,nilS,nilEq,mapC,binH,binS2,structS,eqL,eqF,binS,arrS,isI,tupS,stor,storL,Value.oneCell',minS,maxS,capS,Nat.reduceAdd,Nat.reduceSub,Nat.reduceMul,Nat.reduceLT,Nat.reduceLeDiff,Nat.reduceEqDiff,Nat.reduceBEq,Int.reduceToNat,Int.reduceNeg,if_true,if_false,reduceIte,stays,inL,same1,qn,ldN,convN,lenN,cond_true,cond_false,implies_true,Int.reduceEq,Int.reduceNe,Int.reduceLE,Int.reduceLT,forall_eq_or_imp,forall_eq,ne_eq,reduceCtorEq,notInt,numB,tabB,Array.reduceGetElem?,upG,up,nth,lay,rcB,rnm,rnmL,wrB,pcB,res164,res146,Option.isNone,lhB,liB]
    repeat (refine ⟨by omega, ?_⟩)
    exact ⟨fun x h => h.elim, intoR_refl (by simp) (hK _ _ _ ((Ext.refl _ _).app _) (Nat.le_succ _) (lookH_app _ 1 _))⟩
set_option maxHeartbeats 4000000 in
theorem c146e (h : List Chunk) (n1 n2 n3 n4 : Nat) (w1 w2 w3 w4 : Bool) (F3 : Nat → SV) (f2 f4 : Nat → List SV) (hb : lookH h n1 = .row w1 0 1 (bt [])) (hbs : lookH h n3 = .row w3 0 1 F3) (hp : lookH h n2 = .row w2 0 73 fun i => .agg (f2 i)) (hq : lookH h n4 = .row w4 0 74 fun i => .agg (f4 i)) (K : Tok → SV → List Chunk → Prop) (hK : ∀ (H : List Chunk), Ext (fun _ => False) h H → (∀ m, K .mk (.osl m 0 0 73 0) H) ∧ K .mk (.v (.slice none 0 0)) H) : callP Try.prog 146 [.agg [.int .i64 4, .int .i64 2, .int .i64 0, .int .i64 1, .fam 32 1 fun _ => .int .u8 0, .osl n1 0 0 1 0, .osl n3 0 0 1 0, .osl n2 0 0 73 0, .osl n4 0 0 74 0, .int .i64 2, .fam 32 1 fun i => .int .u8 (nat (sA i))]] h K := by
  have l1 := lookH_lt hb (by simp)
  have l2 := lookH_lt hp (by simp)
  have l3 := lookH_lt hbs (by simp)
  have l4 := lookH_lt hq (by simp)
  refine callP_of_code tabOk Try.func146 (by kernel_rfl) rfl (Nat.le_of_ble_eq_true rfl) (codeP_of_vc (pl := pl146) tabOk follows_mixed (by kernel_rfl) ?_)
  rw [Try.ntmps146]
  simp -implicitDefEqProofs (maxSteps := 1000000) (disch := omega) only [↓vcB,↓gd,↓opP,↓qv,↓ef,↓bslS,↓stS,↓mkS,↓rangeS,↓nextS,↓entryS,↓delS,↓mupS,↓appS,↓s2bS,↓resS,evB,Sx.look,slot,↓lkL,putS,putO,argsL,↓reduceIte,ofV,of1,lookH,putH,List.replicate,List.append,convS,fldA,nthT,idxA,idxS,fldS,oslN,bnd,slS,unS,valI,lenS,lookS,takeC,psB,asRow,csB,rdF,Ent.row,ldS,sz,szL,wrF,bldF,plT,bldS,srcS,nilS,nilEq,mapC,binH,binS2,structS,eqL,eqF,binS,arrS,isI,tupS,stor,storL,Value.oneCell',minS,maxS,capS,Nat.reduceAdd,Nat.reduceSub,Nat.reduceMul,Nat.reduceLT,Nat.reduceLeDiff,Nat.reduceEqDiff,Nat.reduceBEq,Int.reduceToNat,Int.reduceNeg,if_true,if_false,reduceIte,stays,inL,same1,qn,ldN,convN,lenN,cond_true,cond_false,implies_true,Int.reduceEq,Int.reduceNe,Int.reduceLE,Int.reduceLT,forall_eq_or_imp,forall_eq,ne_eq,reduceCtorEq,notInt,numB,tabB,Array.reduceGetElem?,upG,up,nth,lay,rcB,rnm,rnmL,wrB,pcB,res164,res146,Option.isNone,lhB,lookH_at,liB]
  repeat (refine ⟨by omega, ?_⟩)
  obtain ⟨H1, hH1⟩ : ∃ H1, H1 = h ++ [.cells true [.int .i64 4, .int .i64 2, .int .i64 0, .int .i64 1, .fam 32 1 fun _ => .int .u8 0, .osl n1 0 0 1 0, .osl n3 0 0 1 0, .osl n2 0 0 73 0, .osl n4 0 0 74 0, .int .i64 2, .fam 32 1 fun i => .int .u8 (nat (sA i))]] := ⟨_, rfl⟩
  have hE1 : Ext (fun _ => False) h H1 := by rw [hH1]; exact (Ext.refl _ _).app _
  have e0 : lookH H1 h.length = .cells true [.int .i64 4, .int .i64 2, .int .i64 0, .int .i64 1, .fam 32 1 fun _ => .int .u8 0, .osl n1 0 0 1 0, .osl n3 0 0 1 0, .osl n2 0 0 73 0, .osl n4 0 0 74 0, .int .i64 2, .fam 32 1 fun i => .int .u8 (nat (sA i))] := by rw [hH1]; exact lookH_app0 _ _
  rw [← hH1]
  refine c164e n2 w2 _ _ (hE1.look hp (by simp) fun h => h) _ ?_ ?_
  · intro H2 m G hE2 hm hr
    have g0 := hE2.look e0 (by simp) fun h => h
    have m0 := lookH_lt g0 (by simp)
    have hE3 := hE1.trans hE2
    simp -implicitDefEqProofs (maxSteps := 1000000) (disch := omega) only [↓vcB,↓gd,↓opP,↓qv,↓ef,↓bslS,↓stS,↓mkS,↓rangeS,↓nextS,↓entryS,↓delS,↓mupS,↓appS,↓s2bS,↓resS,evB,Sx.look,slot,↓lkL,putS,putO,argsL,↓reduceIte,ofV,of1,lookH,putH,List.replicate,List.append,convS,fldA,nthT,idxA,idxS,fldS,oslN,bnd,slS,unS,valI,lenS,lookS,takeC,psB,asRow,csB,rdF,Ent.row,ldS,sz,szL,wrF,bldF,plT,bldS,srcS,nilS,nilEq,mapC,binH,binS2,structS,eqL,eqF,binS,arrS,isI,tupS,stor,storL,Value.oneCell',minS,maxS,capS,Nat.reduceAdd,Nat.reduceSub,Nat.reduceMul,Nat.reduceLT,Nat.reduceLeDiff,Nat.reduceEqDiff,Nat.reduceBEq,Int.reduceToNat,Int.reduceNeg,if_true,if_false,reduceIte,stays,inL,same1,qn,ldN,convN,lenN,cond_true,cond_false,implies_true,Int.reduceEq,Int.reduceNe,Int.reduceLE,Int.reduceLT,forall_eq_or_imp,forall_eq,ne_eq,reduceCtorEq,notInt,numB,tabB,Array.reduceGetElem?,upG,up,nth,lay,rcB,rnm,rnmL,wrB,pcB,res164,res146,Option.isNone,lhB,g0,liB]
    repeat (refine ⟨by omega, ?_⟩)
    refine codeP_loop (pl := pl146) tabOk follows_mixed (by kernel_rfl) (fun z st => ∃ (j : Nat → Value), st = ⟨⟨26, [(2, .v (.slice none 0 0)), (3, .osl m 0 0 73 0), (10, .osl n4 0 0 74 0), (11, .int .i64 0), (12, .int .i64 0)], j⟩, H2, []⟩) ?_ ?_
    · exact into_keep [(2, .v (.slice none 0 0)), (3, .osl m 0 0 73 0), (10, .osl n4 0 0 74 0), (11, .int .i64 0), (12, .int .i64 0)] (by simp [sameT, slot, lkL]) fun j => ⟨0, j, rfl⟩
    rintro z st ⟨j, rfl⟩
    simp -implicitDefEqProofs (maxSteps := 1000000) (disch := omega) only [↓vcB,↓gd,↓opP,↓qv,↓ef,↓bslS,↓stS,↓mkS,↓rangeS,↓nextS,↓entryS,↓delS,↓mupS,↓appS,↓s2bS,↓resS,evB,Sx.look,slot,↓lkL,putS,putO,argsL,↓reduceIte,ofV,of1,lookH,putH,List.replicate,List.append,convS,fldA,nthT,idxA,idxS,fldS,oslN,bnd,slS,unS,valI,lenS,lookS,takeC,psB,asRow,csB,rdF,Ent.row,ldS,sz,szL,wrF,bldF,plT,bldS,srcS,nilS,nilEq,mapC,binH,binS2,structS,eqL,eqF,binS,arrS,isI,tupS,stor,storL,Value.oneCell',minS,maxS,capS,Nat.reduceAdd,Nat.reduceSub,Nat.reduceMul,Nat.reduceLT,Nat.reduceLeDiff,Nat.reduceEqDiff,Nat.reduceBEq,Int.reduceToNat,Int.reduceNeg,if_true,if_false,reduceIte,stays,inL,same1,qn,ldN,convN,lenN,cond_true,cond_false,implies_true,Int.reduceEq,Int.reduceNe,Int.reduceLE,Int.reduceLT,forall_eq_or_imp,forall_eq,ne_eq,reduceCtorEq,notInt,numB,tabB,Array.reduceGetElem?,upG,up,nth,lay,rcB,rnm,rnmL,wrB,pcB,res164,res146,Option.isNone,lhB,liB]
    repeat (refine ⟨by omega, ?_⟩)
    exact intoR_refl hE3.1 ((hK _ hE3).1 m)
  · simp -implicitDefEqProofs (maxSteps := 1000000) (disch := omega) only [↓vcB,↓gd,↓opP,↓qv,↓ef,↓bslS,↓stS,↓mkS,↓rangeS,↓nextS,↓entryS,↓delS,↓mupS,↓appS,↓s2bS,↓resS,evB,Sx.look,slot,↓lkL,putS,putO,argsL,↓reduceIte,ofV,of1,lookH,putH,List.replicate,List.append,convS,fldA,nthT,idxA,idxS,fldS,oslN,bnd,slS,unS,valI,lenS,lookS,takeC,psB,asRow,csB,rdF,Ent.row,ldS,sz,szL,wrF,bldF,plT,bldS,srcS,nilS,nilEq,mapC,binH,binS2,structS,eqL,eqF,binS,arrS,isI,tupS,stor,storL,Value.oneCell',minS,maxS,capS,Nat.reduceAdd,Nat.reduceSub,Nat.reduceMul,Nat.reduceLT,Nat.reduceLeDiff,Nat.reduceEqDiff,Nat.reduceBEq,Int.reduceToNat,Int.reduceNeg,if_true,if_false,reduceIte,stays,inL,same1,qn,ldN,convN,lenN,cond_true,cond_false,implies_true,Int.reduceEq,Int.reduceNe,Int.reduceLE,Int.reduceLT,forall_eq_or_imp,forall_eq,ne_eq,reduceCtorEq,notInt,numB,tabB,Array.reduceGetElem?,upG,up,nth,lay,rcB,rnm,rnmL,wrB,pcB,res164,res146,Option.isNone,lhB,e0,liB]
    repeat (refine ⟨by omega, ?_⟩)
    refine codeP_loop (pl := pl146) tabOk follows_mixed (by kernel_rfl) (fun z st => ∃ (j : Nat → Value), st = ⟨⟨26, [(2, .v (.slice none 0 0)), (3, .v (.slice none 0 0)), (10, .osl n4 0 0 74 0), (11, .int .i64 0), (12, .int .i64 0)], j⟩, H1, []⟩) ?_ ?_
    · exact into_keep [(2, .v (.slice none 0 0)), (3, .v (.slice none 0 0)), (10, .osl n4 0 0 74 0), (11, .int .i64 0), (12, .int .i64 0)] (by simp [sameT, slot, lkL]) fun j => ⟨0, j, rfl⟩
    rintro z st ⟨j, rfl⟩
    simp -implicitDefEqProofs (maxSteps := 1000000) (disch := omega) only [↓vcB,↓gd,↓opP,↓qv,↓ef,↓bslS,↓stS,↓mkS,↓rangeS,↓nextS,↓entryS,↓delS,↓mupS,↓appS,↓s2bS,↓resS,evB,Sx.look,slot,↓lkL,putS,putO,argsL,↓reduceIte,ofV,of1,lookH,putH,List.replicate,List.append,convS,fldA,nthT,idxA,idxS,fldS,oslN,bnd,slS,unS,valI,lenS,lookS,takeC,psB,asRow,csB,rdF,Ent.row,ldS,sz,szL,wrF,bldF,plT,bldS,srcS,nilS,nilEq,mapC,binH,binS2,structS,eqL,eqF,binS,arrS,isI,tupS,stor,storL,Value.oneCell',minS,maxS,capS,Nat.reduceAdd,Nat.reduceSub,Nat.reduceMul,Nat.reduceLT,Nat.reduceLeDiff,Nat.reduceEqDiff,Nat.reduceBEq,Int.reduceToNat,Int.reduceNeg,if_true,if_false,reduceIte,stays,inL,same1,qn,ldN,convN,lenN,cond_true,cond_false,implies_true,Int.reduceEq,Int.reduceNe,Int.reduceLE,Int.reduceLT,forall_eq_or_imp,forall_eq,ne_eq,reduceCtorEq,notInt,numB,tabB,Array.reduceGetElem?,upG,up,nth,lay,rcB,rnm,rnmL,wrB,pcB,res164,res146,Option.isNone,lhB,liB]
    repeat (refine ⟨by omega, ?_⟩)
    exact intoR_refl hE1.1 (hK _ hE1).2
end Go.Proofs.Ytgocfglmideobaa

set_option linter.all false
set_option maxRecDepth 40000
namespace Go.Proofs.Ytgocfglmideobaa
open Go Go.Sx
theorem res100 : Try.f100.results.toList = [.tmp 4] := rfl
theorem res50 : Try.f50.results.toList = [.tmp 4] := rfl
def pl100 : Nat → Plan
  | 3 => (.q 0 (.q 1 (.q 2 (.q 3 (.q 4 (.q 5 (.q 6 (.q 7 (.q 8 (.q 9 (.q 10 (.q 11 (.q 12 (.q 13 (.q 14 (.q 15 (.q 17 (.e1 16 [15] (.e1 18 [14, 15, 16] (.q 19 (.q 20 .nil)))))))))))))))))))))
  | _ => .nil

theorem sA_eq : famEq 32 (fun i => .int .u8 (nat (sA i))) (fun i => .int .u8 (nat (S.shaD (9 + bA.length) (S.sigT 2 fun i => bA.getD i 0) i))) = true := S.famEq_refl _ _
set_option maxHeartbeats 4000000 in
theorem c100f (h : List Chunk) (n1 n2 n3 n4 : Nat) (w1 w2 w3 w4 : Bool) (F3 : Nat → SV) (f2 f4 : Nat → List SV) (hb : lookH h n1 = .row w1 0 1 (bt [])) (hbs : lookH h n3 = .row w3 0 1 F3) (hp : lookH h n2 = .row w2 0 73 fun i => .agg (f2 i)) (hq : lookH h n4 = .row w4 0 74 fun i => .agg (f4 i)) (K : Tok → SV → List Chunk → Prop) (hK : ∀ (H : List Chunk), Ext (fun _ => False) h H → K .mk (.bool false) H) : callP Try.prog 100 [.agg [.int .i64 4, .int .i64 2, .int .i64 0, .int .i64 1, .fam 32 1 fun _ => .int .u8 0, .osl n1 0 0 1 0, .osl n3 0 0 1 0, .osl n2 0 0 73 0, .osl n4 0 0 74 0, .int .i64 2, .fam 32 1 fun i => .int .u8 (nat (sA i))], .int .i64 2] h K := by
  have l1 := lookH_lt hb (by simp)
  have l2 := lookH_lt hp (by simp)
  have l3 := lookH_lt hbs (by simp)
  have l4 := lookH_lt hq (by simp)
  refine callP_of_code tabOk Try.func100 (by kernel_rfl) rfl (Nat.le_of_ble_eq_true rfl) (codeP_of_vc (pl := pl100) tabOk follows_mixed (by kernel_rfl) ?_)
  rw [Try.ntmps100]
  have z1 : ((4 : Int) == 1) = false := rfl
  have z2 : decide ((2 : Int) ≥ 2) = true := rfl
  simp -implicitDefEqProofs (maxSteps := 1000000) (disch := omega) only [↓vcB,↓gd,↓opP,↓qv,↓ef,↓bslS,↓stS,↓mkS,↓rangeS,↓nextS,↓entryS,↓delS,↓mupS,↓appS,↓s2bS,↓resS,evB,Sx.look,slot,↓lkL,putS,putO,argsL,↓reduceIte,ofV,of1,lookH,putH,List.replicate,List.append,convS,fldA,nthT,idxA,idxS,fldS,oslN,bnd,slS,unS,valI,lenS,lookS,takeC,psB,asRow,csB,rdF,Ent.row,ldS,sz,szL,wrF,bldF,plT,bldS,srcS,nilS,nilEq,mapC,binH,binS2,structS,eqL,eqF,binS,arrS,isI,tupS,stor,storL,Value.oneCell',minS,maxS,capS,Nat.reduceAdd,Nat.reduceSub,Nat.reduceMul,Nat.reduceLT,Nat.reduceLeDiff,Nat.reduceEqDiff,Nat.reduceBEq,Int.reduceToNat,Int.reduceNeg,if_true,if_false,reduceIte,stays,inL,same1,qn,ldN,convN,lenN,cond_true,cond_false,implies_true,Int.reduceEq,Int.reduceNe,Int.reduceLE,Int.reduceLT,forall_eq_or_imp,forall_eq,ne_eq,reduceCtorEq,notInt,numB,tabB,Array.reduceGetElem?,upG,up,nth,lay,rcB,rnm,rnmL,wrB,pcB,res100,res50,pl100,Option.isNone,lhB,z1,z2,lookH_at,liB]
  repeat (refine ⟨by omega, ?_⟩)
  exact intoR_refl (by simp) (hK _ ((Ext.refl _ _).app _))
set_option maxHeartbeats 4000000 in
theorem c100t (h : List Chunk) (n1 n2 n3 n4 : Nat) (w1 w2 w3 w4 : Bool) (F3 : Nat → SV) (f2 f4 : Nat → List SV) (hb : lookH h n1 = .row w1 0 1 (bt [])) (hbs : lookH h n3 = .row w3 0 1 F3) (hp : lookH h n2 = .row w2 0 73 fun i => .agg (f2 i)) (hq : lookH h n4 = .row w4 0 74 fun i => .agg (f4 i)) (K : Tok → SV → List Chunk → Prop) (hK : ∀ (H : List Chunk), Ext (fun _ => False) h H → K .mk (.bool true) H) : callP Try.prog 100 [.agg [.int .i64 4, .int .i64 2, .int .i64 0, .int .i64 1, .fam 32 1 fun _ => .int .u8 0, .osl n1 0 0 1 0, .osl n3 0 0 1 0, .osl n2 0 0 73 0, .osl n4 0 0 74 0, .int .i64 2, .fam 32 1 fun i => .int .u8 (nat (sA i))], .int .i64 4] h K := by
  have l1 := lookH_lt hb (by simp)
  have l2 := lookH_lt hp (by simp)
  have l3 := lookH_lt hbs (by simp)
  have l4 := lookH_lt hq (by simp)
  refine callP_of_code tabOk Try.func100 (by kernel_rfl) rfl (Nat.le_of_ble_eq_true rfl) (codeP_of_vc (pl := pl100) tabOk follows_mixed (by kernel_rfl) ?_)
  rw [Try.ntmps100]
  have z1 : ((4 : Int) == 1) = false := rfl
  have z2 : decide ((2 : Int) ≥ 4) = false := rfl
  have z3 : ((2 : Int) != 2) = false := rfl
  simp -implicitDefEqProofs (maxSteps := 1000000) (disch := omega) only [↓vcB,↓gd,↓opP,↓qv,↓ef,↓bslS,↓stS,↓mkS,↓rangeS,↓nextS,↓entryS,↓delS,↓mupS,↓appS,↓s2bS,↓resS,evB,Sx.look,slot,↓lkL,putS,putO,argsL,↓reduceIte,ofV,of1,lookH,putH,List.replicate,List.append,convS,fldA,nthT,idxA,idxS,fldS,oslN,bnd,slS,unS,valI,lenS,lookS,takeC,psB,asRow,csB,rdF,Ent.row,ldS,sz,szL,wrF,bldF,plT,bldS,srcS,nilS,nilEq,mapC,binH,binS2,structS,eqL,eqF,binS,arrS,isI,tupS,stor,storL,Value.oneCell',minS,maxS,capS,Nat.reduceAdd,Nat.reduceSub,Nat.reduceMul,Nat.reduceLT,Nat.reduceLeDiff,Nat.reduceEqDiff,Nat.reduceBEq,Int.reduceToNat,Int.reduceNeg,if_true,if_false,reduceIte,stays,inL,same1,qn,ldN,convN,lenN,cond_true,cond_false,implies_true,Int.reduceEq,Int.reduceNe,Int.reduceLE,Int.reduceLT,forall_eq_or_imp,forall_eq,ne_eq,reduceCtorEq,notInt,numB,tabB,Array.reduceGetElem?,upG,up,nth,lay,rcB,rnm,rnmL,wrB,pcB,res100,res50,pl100,Option.isNone,lhB,z1,z2,z3,lookH_at,liB]
  repeat (refine ⟨by omega, ?_⟩)
  obtain ⟨H1, hH1⟩ : ∃ H1, H1 = h ++ [.cells true [.int .i64 4, .int .i64 2, .int .i64 0, .int .i64 1, .fam 32 1 fun _ => .int .u8 0, .osl n1 0 0 1 0, .osl n3 0 0 1 0, .osl n2 0 0 73 0, .osl n4 0 0 74 0, .int .i64 2, .fam 32 1 fun i => .int .u8 (nat (sA i))]] := ⟨_, rfl⟩
  have hE1 : Ext (fun _ => False) h H1 := by rw [hH1]; exact (Ext.refl _ _).app _
  have e0 : lookH H1 h.length = .cells true [.int .i64 4, .int .i64 2, .int .i64 0, .int .i64 1, .fam 32 1 fun _ => .int .u8 0, .osl n1 0 0 1 0, .osl n3 0 0 1 0, .osl n2 0 0 73 0, .osl n4 0 0 74 0, .int .i64 2, .fam 32 1 fun i => .int .u8 (nat (sA i))] := by rw [hH1]; exact lookH_app0 _ _
  rw [← hH1]
  have b1 := hE1.look hb (by simp) fun h => h
  have b2 := hE1.look hp (by simp) fun h => h
  have b3 := hE1.look hbs (by simp) fun h => h
  have b4 := hE1.look hq (by simp) fun h => h
  have hw0 : wfM (mA 2 sA) := mA_wf (by unfold rng; omega) sA
  have hlen : bA.length ≤ 70368744177000 := by
    have := body_small hw0 (mA_may 2 sA)
    rw [mA_body] at this
    omega
  refine c62 (mA 2 sA) hw0 _ _ (mA_H b1 b3 b2 b4) (Nat.le_trans (body_small hw0 (mA_may 2 sA)) (by decide)) _ ?_
  rw [mA_body]
  intro H2 k2 hE2 hk2 hr2
  have f0 := hE2.look e0 (by simp) fun h => h
  have hlt2 := lookH_lt hr2 (by simp)
  refine ⟨f0, ?_⟩
  simp -implicitDefEqProofs (maxSteps := 1000000) (disch := omega) only [↓vcB,↓gd,↓opP,↓qv,↓ef,↓bslS,↓stS,↓mkS,↓rangeS,↓nextS,↓entryS,↓delS,↓mupS,↓appS,↓s2bS,↓resS,evB,Sx.look,slot,↓lkL,putS,putO,argsL,↓reduceIte,ofV,of1,lookH,putH,List.replicate,List.append,convS,fldA,nthT,idxA,idxS,fldS,oslN,bnd,slS,unS,valI,lenS,lookS,takeC,psB,asRow,csB,rdF,Ent.row,ldS,sz,szL,wrF,bldF,plT,bldS,srcS,nilS,nilEq,mapC,binH,binS2,structS,eqL,eqF,binS,arrS,isI,tupS,stor,storL,Value.oneCell',minS,maxS,capS,Nat.reduceAdd,Nat.reduceSub,Nat.reduceMul,Nat.reduceLT,Nat.reduceLeDiff,Nat.reduceEqDiff,Nat.reduceBEq,Int.reduceToNat,Int.reduceNeg,if_true,if_false,reduceIte,stays,inL,same1,qn,ldN,convN,lenN,cond_true,cond_false,implies_true,Int.reduceEq,Int.reduceNe,Int.reduceLE,Int.reduceLT,forall_eq_or_imp,forall_eq,ne_eq,reduceCtorEq,notInt,numB,tabB,Array.reduceGetElem?,upG,up,nth,lay,rcB,rnm,rnmL,wrB,pcB,res100,res50,pl100,Option.isNone,lhB,f0,liB]
  repeat (refine ⟨by omega, ?_⟩)
  refine S.c27 2 4 sA (fun i => .int .u8 (nat (sA i))) rfl bA.length bA.length (fun i => bA.getD i 0) _ (fun i _ => rfl) (Nat.le_refl _) hlen true hr2 hlt2 true ?_ _ ?_
  · show S.vOk 2 4 _ = true
    rw [sA_eq]
    rfl
  have hE3 := hE1.trans hE2
  simp -implicitDefEqProofs (maxSteps := 1000000) (disch := omega) only [↓vcB,↓gd,↓opP,↓qv,↓ef,↓bslS,↓stS,↓mkS,↓rangeS,↓nextS,↓entryS,↓delS,↓mupS,↓appS,↓s2bS,↓resS,evB,Sx.look,slot,↓lkL,putS,putO,argsL,↓reduceIte,ofV,of1,lookH,putH,List.replicate,List.append,convS,fldA,nthT,idxA,idxS,fldS,oslN,bnd,slS,unS,valI,lenS,lookS,takeC,psB,asRow,csB,rdF,Ent.row,ldS,sz,szL,wrF,bldF,plT,bldS,srcS,nilS,nilEq,mapC,binH,binS2,structS,eqL,eqF,binS,arrS,isI,tupS,stor,storL,Value.oneCell',minS,maxS,capS,Nat.reduceAdd,Nat.reduceSub,Nat.reduceMul,Nat.reduceLT,Nat.reduceLeDiff,Nat.reduceEqDiff,Nat.reduceBEq,Int.reduceToNat,Int.reduceNeg,if_true,if_false,reduceIte,stays,inL,same1,qn,ldN,convN,lenN,cond_true,cond_false,implies_true,Int.reduceEq,Int.reduceNe,Int.reduceLE,Int.reduceLT,forall_eq_or_imp,forall_eq,ne_eq,reduceCtorEq,notInt,numB,tabB,Array.reduceGetElem?,upG,up,nth,lay,rcB,rnm,rnmL,wrB,pcB,res100,res50,pl100,Option.isNone,lhB,f0,liB]
  repeat (refine ⟨by omega, ?_⟩)
  refine c146e H2 n1 n2 n3 n4 w1 w2 w3 w4 F3 f2 f4 (hE2.look b1 (by simp) fun h => h) (hE2.look b3 (by simp) fun h => h) (hE2.look b2 (by simp) fun h => h) (hE2.look b4 (by simp) fun h => h) _ ?_
  intro H3 hE4
  have hE5 := hE3.trans hE4
  refine ⟨fun m => ?_, ?_⟩
  · simp -implicitDefEqProofs (maxSteps := 1000000) (disch := omega) only [↓vcB,↓gd,↓opP,↓qv,↓ef,↓bslS,↓stS,↓mkS,↓rangeS,↓nextS,↓entryS,↓delS,↓mupS,↓appS,↓s2bS,↓resS,evB,Sx.look,slot,↓lkL,putS,putO,argsL,↓reduceIte,ofV,of1,lookH,putH,List.replicate,List.append,convS,fldA,nthT,idxA,idxS,fldS,oslN,bnd,slS,unS,valI,lenS,lookS,takeC,psB,asRow,csB,rdF,Ent.row,ldS,sz,szL,wrF,bldF,plT,bldS,srcS,nilS,nilEq,mapC,binH,binS2,structS,eqL,eqF,binS,arrS,isI,tupS,stor,storL,Value.oneCell',minS,maxS,capS,Nat.reduceAdd,Nat.reduceSub,Nat.reduceMul,Nat.reduceLT,Nat.reduceLeDiff,Nat.reduceEqDiff,Nat.reduceBEq,Int.reduceToNat,Int.reduceNeg,if_true,if_false,reduceIte,stays,inL,same1,qn,ldN,convN,lenN,cond_true,cond_false,implies_true,Int.reduceEq,Int.reduceNe,Int.reduceLE,Int.reduceLT,forall_eq_or_imp,forall_eq,ne_eq,reduceCtorEq,notInt,numB,tabB,Array.reduceGetElem?,upG,up,nth,lay,rcB,rnm,rnmL,wrB,pcB,res100,res50,pl100,Option.isNone,lhB,liB]
    repeat (refine ⟨by omega, ?_⟩)
    refine codeP_loop (pl := pl100) tabOk follows_mixed (by kernel_rfl) (fun z st => ∃ (j : Nat → Value), st = ⟨⟨43, [(1, .int .i64 4), (2, .ptr h.length 0), (32, .osl m 0 0 73 0), (33, .int .i64 0), (34, .int .i64 0)], j⟩, H3, []⟩) ?_ ?_
    · exact into_keep [(1, .int .i64 4), (2, .ptr h.length 0), (32, .osl m 0 0 73 0), (33, .int .i64 0), (34, .int .i64 0)] (by simp [sameT, slot, lkL]) fun j => ⟨0, j, rfl⟩
    rintro z st ⟨j, rfl⟩
    simp -implicitDefEqProofs (maxSteps := 1000000) (disch := omega) only [↓vcB,↓gd,↓opP,↓qv,↓ef,↓bslS,↓stS,↓mkS,↓rangeS,↓nextS,↓entryS,↓delS,↓mupS,↓appS,↓s2bS,↓resS,evB,Sx.look,slot,↓lkL,putS,putO,argsL,↓reduceIte,ofV,of1,lookH,putH,List.replicate,List.append,convS,fldA,nthT,idxA,idxS,fldS,oslN,bnd,slS,unS,valI,lenS,lookS,takeC,psB,asRow,csB,rdF,Ent.row,ldS,sz,szL,wrF,bldF,plT,bldS,srcS,nilS,nilEq,mapC,binH,binS2,structS,eqL,eqF,binS,arrS,isI,tupS,stor,storL,Value.oneCell',minS,maxS,capS,Nat.reduceAdd,Nat.reduceSub,Nat.reduceMul,Nat.reduceLT,Nat.reduceLeDiff,Nat.reduceEqDiff,Nat.reduceBEq,Int.reduceToNat,Int.reduceNeg,if_true,if_false,reduceIte,stays,inL,same1,qn,ldN,convN,lenN,cond_true,cond_false,implies_true,Int.reduceEq,Int.reduceNe,Int.reduceLE,Int.reduceLT,forall_eq_or_imp,forall_eq,ne_eq,reduceCtorEq,notInt,numB,tabB,Array.reduceGetElem?,upG,up,nth,lay,rcB,rnm,rnmL,wrB,pcB,res100,res50,pl100,Option.isNone,lhB,liB]
    repeat (refine ⟨by omega, ?_⟩)
    exact intoR_refl hE5.1 (hK _ hE5)
  · simp -implicitDefEqProofs (maxSteps := 1000000) (disch := omega) only [↓vcB,↓gd,↓opP,↓qv,↓ef,↓bslS,↓stS,↓mkS,↓rangeS,↓nextS,↓entryS,↓delS,↓mupS,↓appS,↓s2bS,↓resS,evB,Sx.look,slot,↓lkL,putS,putO,argsL,↓reduceIte,ofV,of1,lookH,putH,List.replicate,List.append,convS,fldA,nthT,idxA,idxS,fldS,oslN,bnd,slS,unS,valI,lenS,lookS,takeC,psB,asRow,csB,rdF,Ent.row,ldS,sz,szL,wrF,bldF,plT,bldS,srcS,nilS,nilEq,mapC,binH,binS2,structS,eqL,eqF,binS,arrS,isI,tupS,stor,storL,Value.oneCell',minS,maxS,capS,Nat.reduceAdd,Nat.reduceSub,Nat.reduceMul,Nat.reduceLT,Nat.reduceLeDiff,Nat.reduceEqDiff,Nat.reduceBEq,Int.reduceToNat,Int.reduceNeg,if_true,if_false,reduceIte,stays,inL,same1,qn,ldN,convN,lenN,cond_true,cond_false,implies_true,Int.reduceEq,Int.reduceNe,Int.reduceLE,Int.reduceLT,forall_eq_or_imp,forall_eq,ne_eq,reduceCtorEq,notInt,numB,tabB,Array.reduceGetElem?,upG,up,nth,lay,rcB,rnm,rnmL,wrB,pcB,res100,res50,pl100,Option.isNone,lhB,liB]
    repeat (refine ⟨by omega, ?_⟩)
    refine codeP_loop (pl := pl100) tabOk follows_mixed (by kernel_rfl) (fun z st => ∃ (j : Nat → Value), st = ⟨⟨43, [(1, .int .i64 4), (2, .ptr h.length 0), (32, .v (.slice none 0 0)), (33, .int .i64 0), (34, .int .i64 0)], j⟩, H3, []⟩) ?_ ?_
    · exact into_keep [(1, .int .i64 4), (2, .ptr h.length 0), (32, .v (.slice none 0 0)), (33, .int .i64 0), (34, .int .i64 0)] (by simp [sameT, slot, lkL]) fun j => ⟨0, j, rfl⟩
    rintro z st ⟨j, rfl⟩
    simp -implicitDefEqProofs (maxSteps := 1000000) (disch := omega) only [↓vcB,↓gd,↓opP,↓qv,↓ef,↓bslS,↓stS,↓mkS,↓rangeS,↓nextS,↓entryS,↓delS,↓mupS,↓appS,↓s2bS,↓resS,evB,Sx.look,slot,↓lkL,putS,putO,argsL,↓reduceIte,ofV,of1,lookH,putH,List.replicate,List.append,convS,fldA,nthT,idxA,idxS,fldS,oslN,bnd,slS,unS,valI,lenS,lookS,takeC,psB,asRow,csB,rdF,Ent.row,ldS,sz,szL,wrF,bldF,plT,bldS,srcS,nilS,nilEq,mapC,binH,binS2,structS,eqL,eqF,binS,arrS,isI,tupS,stor,storL,Value.oneCell',minS,maxS,capS,Nat.reduceAdd,Nat.reduceSub,Nat.reduceMul,Nat.reduceLT,Nat.reduceLeDiff,Nat.reduceEqDiff,Nat.reduceBEq,Int.reduceToNat,Int.reduceNeg,if_true,if_false,reduceIte,stays,inL,same1,qn,ldN,convN,lenN,cond_true,cond_false,implies_true,Int.reduceEq,Int.reduceNe,Int.reduceLE,Int.reduceLT,forall_eq_or_imp,forall_eq,ne_eq,reduceCtorEq,notInt,numB,tabB,Array.reduceGetElem?,upG,up,nth,lay,rcB,rnm,rnmL,wrB,pcB,res100,res50,pl100,Option.isNone,lhB,liB]
    repeat (refine ⟨by omega, ?_⟩)
    exact intoR_refl hE5.1 (hK _ hE5)
set_option maxHeartbeats 4000000 in
theorem c50e (n : Int) (r : Bool) (hn : (n = 4 ∧ r = true) ∨ (n = 2 ∧ r = false)) (h : List Chunk) (n1 n2 n3 n4 : Nat) (w1 w2 w3 w4 : Bool) (F3 : Nat → SV) (f2 f4 : Nat → List SV) (hb : lookH h n1 = .row w1 0 1 (bt [])) (hbs : lookH h n3 = .row w3 0 1 F3) (hp : lookH h n2 = .row w2 0 73 fun i => .agg (f2 i)) (hq : lookH h n4 = .row w4 0 74 fun i => .agg (f4 i)) (K : Tok → SV → List Chunk → Prop) (hK : ∀ (H : List Chunk), Ext (fun _ => False) h H → K .mk (.bool r) H) : callP Try.prog 50 [.agg [.int .i64 4, .int .i64 2, .int .i64 0, .int .i64 1, .fam 32 1 fun _ => .int .u8 0, .osl n1 0 0 1 0, .osl n3 0 0 1 0, .osl n2 0 0 73 0, .osl n4 0 0 74 0, .int .i64 2, .fam 32 1 fun i => .int .u8 (nat (sA i))], .int .i64 n] h K := by
  have l1 := lookH_lt hb (by simp)
  have l2 := lookH_lt hp (by simp)
  have l3 := lookH_lt hbs (by simp)
  have l4 := lookH_lt hq (by simp)
  refine callP_of_code tabOk Try.func50 (by kernel_rfl) rfl (Nat.le_of_ble_eq_true rfl) (codeP_of_vc (pl := np) tabOk follows_mixed (by kernel_rfl) ?_)
  rw [Try.ntmps50]
  simp -implicitDefEqProofs (maxSteps := 1000000) (disch := omega) only [↓vcB,↓gd,↓opP,↓qv,↓ef,↓bslS,↓stS,↓mkS,↓rangeS,↓nextS,↓entryS,↓delS,↓mupS,↓appS,↓s2bS,↓resS,evB,Sx.look,slot,↓lkL,putS,putO,argsL,↓reduceIte,ofV,of1,lookH,putH,List.replicate,List.append,convS,fldA,nthT,idxA,idxS,fldS,oslN,bnd,slS,unS,valI,lenS,lookS,takeC,psB,asRow,csB,rdF,Ent.row,ldS,sz,szL,wrF,bldF,plT,bldS,srcS,nilS,nilEq,mapC,binH,binS2,structS,eqL,eqF,binS,arrS,isI,tupS,stor,storL,Value.oneCell',minS,maxS,capS,Nat.reduceAdd,Nat.reduceSub,Nat.reduceMul,Nat.reduceLT,Nat.reduceLeDiff,Nat.reduceEqDiff,Nat.reduceBEq,Int.reduceToNat,Int.reduceNeg,if_true,if_false,reduceIte,stays,inL,same1,qn,ldN,convN,lenN,cond_true,cond_false,implies_true,Int.reduceEq,Int.reduceNe,Int.reduceLE,Int.reduceLT,forall_eq_or_imp,forall_eq,ne_eq,reduceCtorEq,notInt,numB,tabB,Array.reduceGetElem?,upG,up,nth,lay,rcB,rnm,rnmL,wrB,pcB,res100,res50,pl100,Option.isNone,lhB,lookH_at,liB]
  repeat (refine ⟨by omega, ?_⟩)
  obtain ⟨H1, hH1⟩ : ∃ H1, H1 = h ++ [.cells true [.int .i64 4, .int .i64 2, .int .i64 0, .int .i64 1, .fam 32 1 fun _ => .int .u8 0, .osl n1 0 0 1 0, .osl n3 0 0 1 0, .osl n2 0 0 73 0, .osl n4 0 0 74 0, .int .i64 2, .fam 32 1 fun i => .int .u8 (nat (sA i))]] := ⟨_, rfl⟩
  have hE1 : Ext (fun _ => False) h H1 := by rw [hH1]; exact (Ext.refl _ _).app _
  have e0 : lookH H1 h.length = .cells true [.int .i64 4, .int .i64 2, .int .i64 0, .int .i64 1, .fam 32 1 fun _ => .int .u8 0, .osl n1 0 0 1 0, .osl n3 0 0 1 0, .osl n2 0 0 73 0, .osl n4 0 0 74 0, .int .i64 2, .fam 32 1 fun i => .int .u8 (nat (sA i))] := by rw [hH1]; exact lookH_app0 _ _
  rw [← hH1]
  have b1 := hE1.look hb (by simp) fun h => h
  have b2 := hE1.look hp (by simp) fun h => h
  have b3 := hE1.look hbs (by simp) fun h => h
  have b4 := hE1.look hq (by simp) fun h => h
  refine c15 (mA 2 sA) _ _ (mA_H b1 b3 b2 b4) _ ?_
  rw [mA_may]
  have z1 : ((0 : Int) == 0) = true := rfl
  simp -implicitDefEqProofs (maxSteps := 1000000) (disch := omega) only [↓vcB,↓gd,↓opP,↓qv,↓ef,↓bslS,↓stS,↓mkS,↓rangeS,↓nextS,↓entryS,↓delS,↓mupS,↓appS,↓s2bS,↓resS,evB,Sx.look,slot,↓lkL,putS,putO,argsL,↓reduceIte,ofV,of1,lookH,putH,List.replicate,List.append,convS,fldA,nthT,idxA,idxS,fldS,oslN,bnd,slS,unS,valI,lenS,lookS,takeC,psB,asRow,csB,rdF,Ent.row,ldS,sz,szL,wrF,bldF,plT,bldS,srcS,nilS,nilEq,mapC,binH,binS2,structS,eqL,eqF,binS,arrS,isI,tupS,stor,storL,Value.oneCell',minS,maxS,capS,Nat.reduceAdd,Nat.reduceSub,Nat.reduceMul,Nat.reduceLT,Nat.reduceLeDiff,Nat.reduceEqDiff,Nat.reduceBEq,Int.reduceToNat,Int.reduceNeg,if_true,if_false,reduceIte,stays,inL,same1,qn,ldN,convN,lenN,cond_true,cond_false,implies_true,Int.reduceEq,Int.reduceNe,Int.reduceLE,Int.reduceLT,forall_eq_or_imp,forall_eq,ne_eq,reduceCtorEq,notInt,numB,tabB,Array.reduceGetElem?,upG,up,nth,lay,rcB,rnm,rnmL,wrB,pcB,res100,res50,pl100,Option.isNone,lhB,z1,e0,liB]
  repeat (refine ⟨by omega, ?_⟩)
  rcases hn with ⟨rfl, rfl⟩ | ⟨rfl, rfl⟩
  · refine c100t H1 n1 n2 n3 n4 w1 w2 w3 w4 F3 f2 f4 b1 b3 b2 b4 _ ?_
    intro H2 hE2
    have hE3 := hE1.trans hE2
    simp -implicitDefEqProofs (maxSteps := 1000000) (disch := omega) only [↓vcB,↓gd,↓opP,↓qv,↓ef,↓bslS,↓stS,↓mkS,↓rangeS,↓nextS,↓entryS,↓delS,↓mupS,↓appS,↓s2bS,↓resS,evB,Sx.look,slot,↓lkL,putS,putO,argsL,↓reduceIte,ofV,of1,lookH,putH,List.replicate,List.append,convS,fldA,nthT,idxA,idxS,fldS,oslN,bnd,slS,unS,valI,lenS,lookS,takeC,psB,asRow,csB,rdF,Ent.row,ldS,sz,szL,wrF,bldF,plT,bldS,srcS,nilS,nilEq,mapC,binH,binS2,structS,eqL,eqF,binS,arrS,isI,tupS,stor,storL,Value.oneCell',minS,maxS,capS,Nat.reduceAdd,Nat.reduceSub,Nat.reduceMul,Nat.reduceLT,Nat.reduceLeDiff,Nat.reduceEqDiff,Nat.reduceBEq,Int.reduceToNat,Int.reduceNeg,if_true,if_false,reduceIte,stays,inL,same1,qn,ldN,convN,lenN,cond_true,cond_false,implies_true,Int.reduceEq,Int.reduceNe,Int.reduceLE,Int.reduceLT,forall_eq_or_imp,forall_eq,ne_eq,reduceCtorEq,notInt,numB,tabB,Array.reduceGetElem?,upG,up,nth,lay,rcB,rnm,rnmL,wrB,pcB,res100,res50,pl100,Option.isNone,lhB,liB]
    repeat (refine ⟨by omega, ?_⟩)
    exact intoR_refl hE3.1 (hK _ hE3)
  · refine c100f H1 n1 n2 n3 n4 w1 w2 w3 w4 F3 f2 f4 b1 b3 b2 b4 _ ?_
    intro H2 hE2
    have hE3 := hE1.trans hE2
    simp -implicitDefEqProofs (maxSteps := 1000000) (disch := omega) only [↓vcB,↓gd,↓opP,↓qv,↓ef,↓bslS,↓stS,↓mkS,↓rangeS,↓nextS,↓entryS,↓delS,↓mupS,↓appS,↓s2bS,↓resS,evB,Sx.look,slot,↓lkL,putS,putO,argsL,↓reduceIte,ofV,of1,lookH,putH,List.replicate,List.append,convS,fldA,nthT,idxA,idxS,fldS,oslN,bnd,slS,unS,valI,lenS,lookS,takeC,psB,asRow,csB,rdF,Ent.row,ldS,sz,szL,wrF,bldF,plT,bldS,srcS,nilS,nilEq,mapC,binH,binS2,structS,eqL,eqF,binS,arrS,isI,tupS,stor,storL,Value.oneCell',minS,maxS,capS,Nat.reduceAdd,Nat.reduceSub,Nat.reduceMul,Nat.reduceLT,Nat.reduceLeDiff,Nat.reduceEqDiff,Nat.reduceBEq,Int.reduceToNat,Int.reduceNeg,if_true,if_false,reduceIte,stays,inL,same1,qn,ldN,convN,lenN,cond_true,cond_false,implies_true,Int.reduceEq,Int.reduceNe,Int.reduceLE,Int.reduceLT,forall_eq_or_imp,forall_eq,ne_eq,reduceCtorEq,notInt,numB,tabB,Array.reduceGetElem?,upG,up,nth,lay,rcB,rnm,rnmL,wrB,pcB,res100,res50,pl100,Option.isNone,lhB,liB]
    repeat (refine ⟨by omega, ?_⟩)
    exact intoR_refl hE3.1 (hK _ hE3)
end Go.Proofs.Ytgocfglmideobaa

set_option linter.all false
set_option maxRecDepth 40000
namespace Go.Proofs.Ytgocfglmideobaa
open Go Go.Sx
theorem res12 : Try.f12.results.toList = [.tmp 0] := rfl
set_option maxHeartbeats 4000000 in
theorem c12 (h : List Chunk) (K : Tok → SV → List Chunk → Prop) (hK : ∀ (H : List Chunk), Ext (fun _ => False) h H → K .mk (.bool true) H) : callP Try.prog 12 [] h K := by
  refine callP_of_code tabOk Try.func12 (by kernel_rfl) rfl (Nat.le_of_ble_eq_true rfl) (codeP_of_vc (pl := np) tabOk follows_mixed (by kernel_rfl) ?_)
  rw [Try.ntmps12]
  simp -implicitDefEqProofs (maxSteps := 1000000) (disch := omega) only [↓vcB,↓gd,↓opP,↓qv,↓ef,↓bslS,↓stS,↓mkS,↓rangeS,↓nextS,↓entryS,↓delS,↓mupS,↓appS,↓s2bS,↓resS,evB,Sx.look,slot,↓lkL,putS,putO,argsL,↓reduceIte,ofV,of1,lookH,putH,List.replicate,List.append,convS,fldA,nthT,idxA,idxS,fldS,oslN,bnd,slS,unS,valI,lenS,lookS,takeC,psB,asRow,csB,rdF,Ent.row,ldS,sz,szL,wrF,bldF,plT,bldS,srcS,nilS,nilEq,mapC,binH,binS2,structS,eqL,eqF,binS,arrS,isI,tupS,stor,storL,Value.oneCell',minS,maxS,capS,Nat.reduceAdd,Nat.reduceSub,Nat.reduceMul,Nat.reduceLT,Nat.reduceLeDiff,Nat.reduceEqDiff,Nat.reduceBEq,Int.reduceToNat,Int.reduceNeg,if_true,if_false,reduceIte,stays,inL,same1,qn,ldN,convN,lenN,cond_true,cond_false,implies_true,Int.reduceEq,Int.reduceNe,Int.reduceLE,Int.reduceLT,forall_eq_or_imp,forall_eq,ne_eq,reduceCtorEq,notInt,numB,tabB,Array.reduceGetElem?,upG,up,nth,lay,rcB,rnm,rnmL,wrB,pcB,res12,Option.isNone,lhB,liB]
  repeat (refine ⟨by omega, ?_⟩)
  refine c49e h _ ?_
  intro H1 n1 n2 f2 hE1 r1 r2
  simp -implicitDefEqProofs (maxSteps := 1000000) (disch := omega) only [↓vcB,↓gd,↓opP,↓qv,↓ef,↓bslS,↓stS,↓mkS,↓rangeS,↓nextS,↓entryS,↓delS,↓mupS,↓appS,↓s2bS,↓resS,evB,Sx.look,slot,↓lkL,putS,putO,argsL,↓reduceIte,ofV,of1,lookH,putH,List.replicate,List.append,convS,fldA,nthT,idxA,idxS,fldS,oslN,bnd,slS,unS,valI,lenS,lookS,takeC,psB,asRow,csB,rdF,Ent.row,ldS,sz,szL,wrF,bldF,plT,bldS,srcS,nilS,nilEq,mapC,binH,binS2,structS,eqL,eqF,binS,arrS,isI,tupS,stor,storL,Value.oneCell',minS,maxS,capS,Nat.reduceAdd,Nat.reduceSub,Nat.reduceMul,Nat.reduceLT,Nat.reduceLeDiff,Nat.reduceEqDiff,Nat.reduceBEq,Int.reduceToNat,Int.reduceNeg,if_true,if_false,reduceIte,stays,inL,same1,qn,ldN,convN,lenN,cond_true,cond_false,implies_true,Int.reduceEq,Int.reduceNe,Int.reduceLE,Int.reduceLT,forall_eq_or_imp,forall_eq,ne_eq,reduceCtorEq,notInt,numB,tabB,Array.reduceGetElem?,upG,up,nth,lay,rcB,rnm,rnmL,wrB,pcB,res12,Option.isNone,lhB,liB]
  repeat (refine ⟨by omega, ?_⟩)
  obtain ⟨H2, hH2⟩ : ∃ H2, H2 = H1 ++ [.cells true [.int .i64 4, .int .i64 2, .int .i64 0, .int .i64 1, .fam 32 1 fun _ => .int .u8 0, .osl n1 0 0 1 0, .v (.slice none 0 0), .osl n2 0 0 73 0, .v (.slice none 0 0), .int .i64 2, .fam 32 1 fun i => .int .u8 (nat (sA i))]] := ⟨_, rfl⟩
  have hE2 : Ext (fun _ => False) H1 H2 := by rw [hH2]; exact (Ext.refl _ _).app _
  have e0 : lookH H2 H1.length = .cells true [.int .i64 4, .int .i64 2, .int .i64 0, .int .i64 1, .fam 32 1 fun _ => .int .u8 0, .osl n1 0 0 1 0, .v (.slice none 0 0), .osl n2 0 0 73 0, .v (.slice none 0 0), .int .i64 2, .fam 32 1 fun i => .int .u8 (nat (sA i))] := by rw [hH2]; exact lookH_app0 _ _
  have b1 := hE2.look r1 (by simp) fun h => h
  have b2 := hE2.look r2 (by simp) fun h => h
  rw [← hH2]
  have hE3 := hE1.trans hE2
  refine callP_n2 (fun n => by simp [okL, ok, sz]) (lookH_lt b1 (by simp)) (lookH_lt b2 (by simp)) ?_
  refine c50e 4 true (.inl ⟨rfl, rfl⟩) _ n1 n2 _ _ true true true true _ f2 _ (lookH_old _ _ _ b1 (by simp)) (lookH_app0 _ _) (lookH_old _ _ _ b2 (by simp)) (lookH_app _ 1 _) _ ?_
  intro H3 hE4
  have hE5 : Ext (fun _ => False) H2 H3 := ((Ext.refl _ _).app _).trans hE4
  have f0 := hE5.look e0 (by simp) fun h => h
  have b3 := hE5.look b1 (by simp) fun h => h
  have b4 := hE5.look b2 (by simp) fun h => h
  simp -implicitDefEqProofs (maxSteps := 1000000) (disch := omega) only [↓vcB,↓gd,↓opP,↓qv,↓ef,↓bslS,↓stS,↓mkS,↓rangeS,↓nextS,↓entryS,↓delS,↓mupS,↓appS,↓s2bS,↓resS,evB,Sx.look,slot,↓lkL,putS,putO,argsL,↓reduceIte,ofV,of1,lookH,putH,List.replicate,List.append,convS,fldA,nthT,idxA,idxS,fldS,oslN,bnd,slS,unS,valI,lenS,lookS,takeC,psB,asRow,csB,rdF,Ent.row,ldS,sz,szL,wrF,bldF,plT,bldS,srcS,nilS,nilEq,mapC,binH,binS2,structS,eqL,eqF,binS,arrS,isI,tupS,stor,storL,Value.oneCell',minS,maxS,capS,Nat.reduceAdd,Nat.reduceSub,Nat.reduceMul,Nat.reduceLT,Nat.reduceLeDiff,Nat.reduceEqDiff,Nat.reduceBEq,Int.reduceToNat,Int.reduceNeg,if_true,if_false,reduceIte,stays,inL,same1,qn,ldN,convN,lenN,cond_true,cond_false,implies_true,Int.reduceEq,Int.reduceNe,Int.reduceLE,Int.reduceLT,forall_eq_or_imp,forall_eq,ne_eq,reduceCtorEq,notInt,numB,tabB,Array.reduceGetElem?,upG,up,nth,lay,rcB,rnm,rnmL,wrB,pcB,res12,Option.isNone,lhB,f0,liB]
  repeat (refine ⟨by omega, ?_⟩)
  refine callP_n2 (fun n => by simp [okL, ok, sz]) (lookH_lt b3 (by simp)) (lookH_lt b4 (by simp)) ?_
  refine c50e 2 false (.inr ⟨rfl, rfl⟩) _ n1 n2 _ _ true true true true _ f2 _ (lookH_old _ _ _ b3 (by simp)) (lookH_app0 _ _) (lookH_old _ _ _ b4 (by simp)) (lookH_app _ 1 _) _ ?_
  intro H4 hE6
  have hE7 : Ext (fun _ => False) H3 H4 := ((Ext.refl _ _).app _).trans hE6
  have g0 := hE7.look f0 (by simp) fun h => h
  simp -implicitDefEqProofs (maxSteps := 1000000) (disch := omega) only [↓vcB,↓gd,↓opP,↓qv,↓ef,↓bslS,↓stS,↓mkS,↓rangeS,↓nextS,↓entryS,↓delS,↓mupS,↓appS,↓s2bS,↓resS,evB,Sx.look,slot,↓lkL,putS,putO,argsL,↓reduceIte,ofV,of1,lookH,putH,List.replicate,List.append,convS,fldA,nthT,idxA,idxS,fldS,oslN,bnd,slS,unS,valI,lenS,lookS,takeC,psB,asRow,csB,rdF,Ent.row,ldS,sz,szL,wrF,bldF,plT,bldS,srcS,nilS,nilEq,mapC,binH,binS2,structS,eqL,eqF,binS,arrS,isI,tupS,stor,storL,Value.oneCell',minS,maxS,capS,Nat.reduceAdd,Nat.reduceSub,Nat.reduceMul,Nat.reduceLT,Nat.reduceLeDiff,Nat.reduceEqDiff,Nat.reduceBEq,Int.reduceToNat,Int.reduceNeg,if_true,if_false,reduceIte,stays,inL,same1,qn,ldN,convN,lenN,cond_true,cond_false,implies_true,Int.reduceEq,Int.reduceNe,Int.reduceLE,Int.reduceLT,forall_eq_or_imp,forall_eq,ne_eq,reduceCtorEq,notInt,numB,tabB,Array.reduceGetElem?,upG,up,nth,lay,rcB,rnm,rnmL,wrB,pcB,res12,Option.isNone,lhB,g0,liB]
  repeat (refine ⟨by omega, ?_⟩)
  have hE8 := hE3.trans (hE5.trans hE7)
  exact intoR_refl (v := .bool true) hE8.1 (hK _ hE8)
end Go.Proofs.Ytgocfglmideobaa

set_option linter.all false
set_option maxRecDepth 40000
namespace Go.Proofs.Ytgocfglmideobaa
open Go Go.Sx
theorem res3 : Try.f3.results.toList = [.tmp 2] := rfl
def pl3 : Nat → Plan
  | 5 => (.q 0 (.q 2 (.e1 1 [0] (.e1 3 [0, 1, 2] (.q 4 (.q 5 (.q 6 (.q 9 (.e1 7 [3, 6] (.q 8 (.e1 10 [3, 6, 7, 9] (.q 11 (.q 12 (.q 13 (.q 14 (.q 15 (.q 16 (.q 17 (.q 18 (.q 19 (.q 20 (.q 21 (.q 22 (.q 23 (.q 24 (.q 25 (.q 26 (.e1 27 [] (.q 28 (.q 29 .nil))))))))))))))))))))))))))))))
  | _ => .nil

set_option maxHeartbeats 8000000 in
theorem c3 (m : Msg) (ho : wfM m) (hsz : blkM m ≤ 1048576) (l : List SV) (h : List Chunk) (hm : MsgH h m l) (K : Tok → SV → List Chunk → Prop) (hK : ∀ H, K .mk (.bool true) H) : callP Try.prog 3 [.agg l] h K := by
  obtain ⟨xk, xf, xv, xs, xd, xkb, xnb, xkbs, xnbs, xkp, xnp, xkq, xnq, xkey, xof, rfl⟩ := hm.open
  have hE0 : Ext (fun _ => False) h (h ++ [Chunk.cells true [.int .i64 xk, .int .i64 xf, .int .i64 xv, .int .i64 xs, .fam 32 1 fun i => .int .u8 (nat (xd i)), .osl xkb 0 0 1 xnb, .osl xkbs 0 0 1 xnbs, .osl xkp 0 0 73 xnp, .osl xkq 0 0 74 xnq, .int .i64 xkey, .fam 32 1 fun i => .int .u8 (nat (xof i))]]) := (Ext.refl _ _).app _
  refine callP_of_code tabOk Try.func3 (by kernel_rfl) rfl (Nat.le_of_ble_eq_true rfl) (codeP_of_vc (pl := pl3) tabOk follows_mixed (by kernel_rfl) ?_)
  rw [Try.ntmps3]
  simp -implicitDefEqProofs (maxSteps := 1000000) (disch := omega) only [↓vcB,↓gd,↓opP,↓qv,↓ef,↓bslS,↓stS,↓mkS,↓rangeS,↓nextS,↓entryS,↓delS,↓mupS,↓appS,↓s2bS,↓resS,evB,Sx.look,slot,↓lkL,putS,putO,argsL,↓reduceIte,ofV,of1,lookH,putH,List.replicate,List.append,convS,fldA,nthT,idxA,idxS,fldS,oslN,bnd,slS,unS,valI,lenS,lookS,takeC,psB,asRow,csB,rdF,Ent.row,ldS,sz,szL,wrF,bldF,plT,bldS,srcS,nilS,nilEq,mapC,binH,binS2,structS,eqL,eqF,binS,arrS,isI,tupS,stor,storL,Value.oneCell',minS,maxS,capS,Nat.reduceAdd,Nat.reduceSub,Nat.reduceMul,Nat.reduceLT,Nat.reduceLeDiff,Nat.reduceEqDiff,Nat.reduceBEq,Int.reduceToNat,Int.reduceNeg,if_true,if_false,reduceIte,stays,inL,same1,qn,ldN,convN,lenN,cond_true,cond_false,implies_true,Int.reduceEq,Int.reduceNe,Int.reduceLE,Int.reduceLT,forall_eq_or_imp,forall_eq,ne_eq,reduceCtorEq,notInt,numB,tabB,Array.reduceGetElem?,upG,up,nth,lay,rcB,rnm,rnmL,wrB,pcB,res3,pl3,Option.isNone,lhB,liB]
  repeat (refine ⟨by omega, ?_⟩)
  refine c11 m hsz _ _ (hm.ext hE0) _ ?_
  cases hl : (cntM 1 m 0).isSome with
  | false =>
    simp -implicitDefEqProofs (maxSteps := 1000000) (disch := omega) only [↓vcB,↓gd,↓opP,↓qv,↓ef,↓bslS,↓stS,↓mkS,↓rangeS,↓nextS,↓entryS,↓delS,↓mupS,↓appS,↓s2bS,↓resS,evB,Sx.look,slot,↓lkL,putS,putO,argsL,↓reduceIte,ofV,of1,lookH,putH,List.replicate,List.append,convS,fldA,nthT,idxA,idxS,fldS,oslN,bnd,slS,unS,valI,lenS,lookS,takeC,psB,asRow,csB,rdF,Ent.row,ldS,sz,szL,wrF,bldF,plT,bldS,srcS,nilS,nilEq,mapC,binH,binS2,structS,eqL,eqF,binS,arrS,isI,tupS,stor,storL,Value.oneCell',minS,maxS,capS,Nat.reduceAdd,Nat.reduceSub,Nat.reduceMul,Nat.reduceLT,Nat.reduceLeDiff,Nat.reduceEqDiff,Nat.reduceBEq,Int.reduceToNat,Int.reduceNeg,if_true,if_false,reduceIte,stays,inL,same1,qn,ldN,convN,lenN,cond_true,cond_false,implies_true,Int.reduceEq,Int.reduceNe,Int.reduceLE,Int.reduceLT,forall_eq_or_imp,forall_eq,ne_eq,reduceCtorEq,notInt,numB,tabB,Array.reduceGetElem?,upG,up,nth,lay,rcB,rnm,rnmL,wrB,pcB,res3,pl3,Option.isNone,lhB,liB]
    repeat (refine ⟨by omega, ?_⟩)
    refine c12 _ _ ?_
    intro H1 hE1
    simp -implicitDefEqProofs (maxSteps := 1000000) (disch := omega) only [↓vcB,↓gd,↓opP,↓qv,↓ef,↓bslS,↓stS,↓mkS,↓rangeS,↓nextS,↓entryS,↓delS,↓mupS,↓appS,↓s2bS,↓resS,evB,Sx.look,slot,↓lkL,putS,putO,argsL,↓reduceIte,ofV,of1,lookH,putH,List.replicate,List.append,convS,fldA,nthT,idxA,idxS,fldS,oslN,bnd,slS,unS,valI,lenS,lookS,takeC,psB,asRow,csB,rdF,Ent.row,ldS,sz,szL,wrF,bldF,plT,bldS,srcS,nilS,nilEq,mapC,binH,binS2,structS,eqL,eqF,binS,arrS,isI,tupS,stor,storL,Value.oneCell',minS,maxS,capS,Nat.reduceAdd,Nat.reduceSub,Nat.reduceMul,Nat.reduceLT,Nat.reduceLeDiff,Nat.reduceEqDiff,Nat.reduceBEq,Int.reduceToNat,Int.reduceNeg,if_true,if_false,reduceIte,stays,inL,same1,qn,ldN,convN,lenN,cond_true,cond_false,implies_true,Int.reduceEq,Int.reduceNe,Int.reduceLE,Int.reduceLT,forall_eq_or_imp,forall_eq,ne_eq,reduceCtorEq,notInt,numB,tabB,Array.reduceGetElem?,upG,up,nth,lay,rcB,rnm,rnmL,wrB,pcB,res3,pl3,Option.isNone,lhB,liB]
    repeat (refine ⟨by omega, ?_⟩)
    exact intoR_refl (hE0.trans hE1).1 (hK _)
  | true =>
    simp -implicitDefEqProofs (maxSteps := 1000000) (disch := omega) only [↓vcB,↓gd,↓opP,↓qv,↓ef,↓bslS,↓stS,↓mkS,↓rangeS,↓nextS,↓entryS,↓delS,↓mupS,↓appS,↓s2bS,↓resS,evB,Sx.look,slot,↓lkL,putS,putO,argsL,↓reduceIte,ofV,of1,lookH,putH,List.replicate,List.append,convS,fldA,nthT,idxA,idxS,fldS,oslN,bnd,slS,unS,valI,lenS,lookS,takeC,psB,asRow,csB,rdF,Ent.row,ldS,sz,szL,wrF,bldF,plT,bldS,srcS,nilS,nilEq,mapC,binH,binS2,structS,eqL,eqF,binS,arrS,isI,tupS,stor,storL,Value.oneCell',minS,maxS,capS,Nat.reduceAdd,Nat.reduceSub,Nat.reduceMul,Nat.reduceLT,Nat.reduceLeDiff,Nat.reduceEqDiff,Nat.reduceBEq,Int.reduceToNat,Int.reduceNeg,if_true,if_false,reduceIte,stays,inL,same1,qn,ldN,convN,lenN,cond_true,cond_false,implies_true,Int.reduceEq,Int.reduceNe,Int.reduceLE,Int.reduceLT,forall_eq_or_imp,forall_eq,ne_eq,reduceCtorEq,notInt,numB,tabB,Array.reduceGetElem?,upG,up,nth,lay,rcB,rnm,rnmL,wrB,pcB,res3,pl3,Option.isNone,lhB,liB]
    repeat (refine ⟨by omega, ?_⟩)
    have ha : (may m == may m) = true := beq_self_eq_true _
    refine c13 m ho _ _ (hm.ext hE0) _ (fun e => ?_) (fun e c => ?_) (fun e c H1 k1 hE1 hk1 hr1 => ?_)
    · simp -implicitDefEqProofs (maxSteps := 1000000) (disch := omega) only [↓vcB,↓gd,↓opP,↓qv,↓ef,↓bslS,↓stS,↓mkS,↓rangeS,↓nextS,↓entryS,↓delS,↓mupS,↓appS,↓s2bS,↓resS,evB,Sx.look,slot,↓lkL,putS,putO,argsL,↓reduceIte,ofV,of1,lookH,putH,List.replicate,List.append,convS,fldA,nthT,idxA,idxS,fldS,oslN,bnd,slS,unS,valI,lenS,lookS,takeC,psB,asRow,csB,rdF,Ent.row,ldS,sz,szL,wrF,bldF,plT,bldS,srcS,nilS,nilEq,mapC,binH,binS2,structS,eqL,eqF,binS,arrS,isI,tupS,stor,storL,Value.oneCell',minS,maxS,capS,Nat.reduceAdd,Nat.reduceSub,Nat.reduceMul,Nat.reduceLT,Nat.reduceLeDiff,Nat.reduceEqDiff,Nat.reduceBEq,Int.reduceToNat,Int.reduceNeg,if_true,if_false,reduceIte,stays,inL,same1,qn,ldN,convN,lenN,cond_true,cond_false,implies_true,Int.reduceEq,Int.reduceNe,Int.reduceLE,Int.reduceLT,forall_eq_or_imp,forall_eq,ne_eq,reduceCtorEq,notInt,numB,tabB,Array.reduceGetElem?,upG,up,nth,lay,rcB,rnm,rnmL,wrB,pcB,res3,pl3,Option.isNone,lhB,liB]
      repeat (refine ⟨by omega, ?_⟩)
      refine c14 m ho _ _ (hm.ext hE0) _ (fun _ => ?_) (fun e2 _ => absurd e2 e) (fun e2 => absurd e2 e)
      simp -implicitDefEqProofs (maxSteps := 1000000) (disch := omega) only [↓vcB,↓gd,↓opP,↓qv,↓ef,↓bslS,↓stS,↓mkS,↓rangeS,↓nextS,↓entryS,↓delS,↓mupS,↓appS,↓s2bS,↓resS,evB,Sx.look,slot,↓lkL,putS,putO,argsL,↓reduceIte,ofV,of1,lookH,putH,List.replicate,List.append,convS,fldA,nthT,idxA,idxS,fldS,oslN,bnd,slS,unS,valI,lenS,lookS,takeC,psB,asRow,csB,rdF,Ent.row,ldS,sz,szL,wrF,bldF,plT,bldS,srcS,nilS,nilEq,mapC,binH,binS2,structS,eqL,eqF,binS,arrS,isI,tupS,stor,storL,Value.oneCell',minS,maxS,capS,Nat.reduceAdd,Nat.reduceSub,Nat.reduceMul,Nat.reduceLT,Nat.reduceLeDiff,Nat.reduceEqDiff,Nat.reduceBEq,Int.reduceToNat,Int.reduceNeg,if_true,if_false,reduceIte,stays,inL,same1,qn,ldN,convN,lenN,cond_true,cond_false,implies_true,Int.reduceEq,Int.reduceNe,Int.reduceLE,Int.reduceLT,forall_eq_or_imp,forall_eq,ne_eq,reduceCtorEq,notInt,numB,tabB,Array.reduceGetElem?,upG,up,nth,lay,rcB,rnm,rnmL,wrB,pcB,res3,pl3,Option.isNone,lhB,liB]
      repeat (refine ⟨by omega, ?_⟩)
      refine c15 m _ _ (hm.ext hE0) _ ?_
      refine ⟨lookH_app0 _ _, ?_⟩
      simp -implicitDefEqProofs (maxSteps := 1000000) (disch := omega) only [↓vcB,↓gd,↓opP,↓qv,↓ef,↓bslS,↓stS,↓mkS,↓rangeS,↓nextS,↓entryS,↓delS,↓mupS,↓appS,↓s2bS,↓resS,evB,Sx.look,slot,↓lkL,putS,putO,argsL,↓reduceIte,ofV,of1,lookH,putH,List.replicate,List.append,convS,fldA,nthT,idxA,idxS,fldS,oslN,bnd,slS,unS,valI,lenS,lookS,takeC,psB,asRow,csB,rdF,Ent.row,ldS,sz,szL,wrF,bldF,plT,bldS,srcS,nilS,nilEq,mapC,binH,binS2,structS,eqL,eqF,binS,arrS,isI,tupS,stor,storL,Value.oneCell',minS,maxS,capS,Nat.reduceAdd,Nat.reduceSub,Nat.reduceMul,Nat.reduceLT,Nat.reduceLeDiff,Nat.reduceEqDiff,Nat.reduceBEq,Int.reduceToNat,Int.reduceNeg,if_true,if_false,reduceIte,stays,inL,same1,qn,ldN,convN,lenN,cond_true,cond_false,implies_true,Int.reduceEq,Int.reduceNe,Int.reduceLE,Int.reduceLT,forall_eq_or_imp,forall_eq,ne_eq,reduceCtorEq,notInt,numB,tabB,Array.reduceGetElem?,upG,up,nth,lay,rcB,rnm,rnmL,wrB,pcB,res3,pl3,Option.isNone,lhB,liB]
      repeat (refine ⟨by omega, ?_⟩)
      refine c16 m _ _ (hm.ext hE0) _ ?_
      simp -implicitDefEqProofs (maxSteps := 1000000) (disch := omega) only [↓vcB,↓gd,↓opP,↓qv,↓ef,↓bslS,↓stS,↓mkS,↓rangeS,↓nextS,↓entryS,↓delS,↓mupS,↓appS,↓s2bS,↓resS,evB,Sx.look,slot,↓lkL,putS,putO,argsL,↓reduceIte,ofV,of1,lookH,putH,List.replicate,List.append,convS,fldA,nthT,idxA,idxS,fldS,oslN,bnd,slS,unS,valI,lenS,lookS,takeC,psB,asRow,csB,rdF,Ent.row,ldS,sz,szL,wrF,bldF,plT,bldS,srcS,nilS,nilEq,mapC,binH,binS2,structS,eqL,eqF,binS,arrS,isI,tupS,stor,storL,Value.oneCell',minS,maxS,capS,Nat.reduceAdd,Nat.reduceSub,Nat.reduceMul,Nat.reduceLT,Nat.reduceLeDiff,Nat.reduceEqDiff,Nat.reduceBEq,Int.reduceToNat,Int.reduceNeg,if_true,if_false,reduceIte,stays,inL,same1,qn,ldN,convN,lenN,cond_true,cond_false,implies_true,Int.reduceEq,Int.reduceNe,Int.reduceLE,Int.reduceLT,forall_eq_or_imp,forall_eq,ne_eq,reduceCtorEq,notInt,numB,tabB,Array.reduceGetElem?,upG,up,nth,lay,rcB,rnm,rnmL,wrB,pcB,res3,pl3,Option.isNone,lhB,ha,liB]
      repeat (refine ⟨by omega, ?_⟩)
      refine c17 m ho _ _ (hm.ext hE0) _ (fun _ => ?_) (fun e2 => absurd e2 e)
      refine ⟨lookH_app0 _ _, ?_⟩
      simp -implicitDefEqProofs (maxSteps := 1000000) (disch := omega) only [↓vcB,↓gd,↓opP,↓qv,↓ef,↓bslS,↓stS,↓mkS,↓rangeS,↓nextS,↓entryS,↓delS,↓mupS,↓appS,↓s2bS,↓resS,evB,Sx.look,slot,↓lkL,putS,putO,argsL,↓reduceIte,ofV,of1,lookH,putH,List.replicate,List.append,convS,fldA,nthT,idxA,idxS,fldS,oslN,bnd,slS,unS,valI,lenS,lookS,takeC,psB,asRow,csB,rdF,Ent.row,ldS,sz,szL,wrF,bldF,plT,bldS,srcS,nilS,nilEq,mapC,binH,binS2,structS,eqL,eqF,binS,arrS,isI,tupS,stor,storL,Value.oneCell',minS,maxS,capS,Nat.reduceAdd,Nat.reduceSub,Nat.reduceMul,Nat.reduceLT,Nat.reduceLeDiff,Nat.reduceEqDiff,Nat.reduceBEq,Int.reduceToNat,Int.reduceNeg,if_true,if_false,reduceIte,stays,inL,same1,qn,ldN,convN,lenN,cond_true,cond_false,implies_true,Int.reduceEq,Int.reduceNe,Int.reduceLE,Int.reduceLT,forall_eq_or_imp,forall_eq,ne_eq,reduceCtorEq,notInt,numB,tabB,Array.reduceGetElem?,upG,up,nth,lay,rcB,rnm,rnmL,wrB,pcB,res3,pl3,Option.isNone,lhB,liB]
      repeat (refine ⟨by omega, ?_⟩)
      refine c18 m ho _ _ (hm.ext hE0) _ (fun _ => ?_) (fun e2 => absurd e2 e)
      refine ⟨lookH_app0 _ _, ?_⟩
      simp -implicitDefEqProofs (maxSteps := 1000000) (disch := omega) only [↓vcB,↓gd,↓opP,↓qv,↓ef,↓bslS,↓stS,↓mkS,↓rangeS,↓nextS,↓entryS,↓delS,↓mupS,↓appS,↓s2bS,↓resS,evB,Sx.look,slot,↓lkL,putS,putO,argsL,↓reduceIte,ofV,of1,lookH,putH,List.replicate,List.append,convS,fldA,nthT,idxA,idxS,fldS,oslN,bnd,slS,unS,valI,lenS,lookS,takeC,psB,asRow,csB,rdF,Ent.row,ldS,sz,szL,wrF,bldF,plT,bldS,srcS,nilS,nilEq,mapC,binH,binS2,structS,eqL,eqF,binS,arrS,isI,tupS,stor,storL,Value.oneCell',minS,maxS,capS,Nat.reduceAdd,Nat.reduceSub,Nat.reduceMul,Nat.reduceLT,Nat.reduceLeDiff,Nat.reduceEqDiff,Nat.reduceBEq,Int.reduceToNat,Int.reduceNeg,if_true,if_false,reduceIte,stays,inL,same1,qn,ldN,convN,lenN,cond_true,cond_false,implies_true,Int.reduceEq,Int.reduceNe,Int.reduceLE,Int.reduceLT,forall_eq_or_imp,forall_eq,ne_eq,reduceCtorEq,notInt,numB,tabB,Array.reduceGetElem?,upG,up,nth,lay,rcB,rnm,rnmL,wrB,pcB,res3,pl3,Option.isNone,lhB,beq_self_eq_true,liB]
      repeat (refine ⟨by omega, ?_⟩)
      refine c12 _ _ ?_
      intro H5 hE5
      refine ⟨hE5.look (lookH_app0 _ _) (by simp) fun h => h, ?_⟩
      simp -implicitDefEqProofs (maxSteps := 1000000) (disch := omega) only [↓vcB,↓gd,↓opP,↓qv,↓ef,↓bslS,↓stS,↓mkS,↓rangeS,↓nextS,↓entryS,↓delS,↓mupS,↓appS,↓s2bS,↓resS,evB,Sx.look,slot,↓lkL,putS,putO,argsL,↓reduceIte,ofV,of1,lookH,putH,List.replicate,List.append,convS,fldA,nthT,idxA,idxS,fldS,oslN,bnd,slS,unS,valI,lenS,lookS,takeC,psB,asRow,csB,rdF,Ent.row,ldS,sz,szL,wrF,bldF,plT,bldS,srcS,nilS,nilEq,mapC,binH,binS2,structS,eqL,eqF,binS,arrS,isI,tupS,stor,storL,Value.oneCell',minS,maxS,capS,Nat.reduceAdd,Nat.reduceSub,Nat.reduceMul,Nat.reduceLT,Nat.reduceLeDiff,Nat.reduceEqDiff,Nat.reduceBEq,Int.reduceToNat,Int.reduceNeg,if_true,if_false,reduceIte,stays,inL,same1,qn,ldN,convN,lenN,cond_true,cond_false,implies_true,Int.reduceEq,Int.reduceNe,Int.reduceLE,Int.reduceLT,forall_eq_or_imp,forall_eq,ne_eq,reduceCtorEq,notInt,numB,tabB,Array.reduceGetElem?,upG,up,nth,lay,rcB,rnm,rnmL,wrB,pcB,res3,pl3,Option.isNone,lhB,liB]
      repeat (refine ⟨by omega, ?_⟩)
      exact intoR_refl (hE0.trans hE5).1 (hK _)
    · simp -implicitDefEqProofs (maxSteps := 1000000) (disch := omega) only [↓vcB,↓gd,↓opP,↓qv,↓ef,↓bslS,↓stS,↓mkS,↓rangeS,↓nextS,↓entryS,↓delS,↓mupS,↓appS,↓s2bS,↓resS,evB,Sx.look,slot,↓lkL,putS,putO,argsL,↓reduceIte,ofV,of1,lookH,putH,List.replicate,List.append,convS,fldA,nthT,idxA,idxS,fldS,oslN,bnd,slS,unS,valI,lenS,lookS,takeC,psB,asRow,csB,rdF,Ent.row,ldS,sz,szL,wrF,bldF,plT,bldS,srcS,nilS,nilEq,mapC,binH,binS2,structS,eqL,eqF,binS,arrS,isI,tupS,stor,storL,Value.oneCell',minS,maxS,capS,Nat.reduceAdd,Nat.reduceSub,Nat.reduceMul,Nat.reduceLT,Nat.reduceLeDiff,Nat.reduceEqDiff,Nat.reduceBEq,Int.reduceToNat,Int.reduceNeg,if_true,if_false,reduceIte,stays,inL,same1,qn,ldN,convN,lenN,cond_true,cond_false,implies_true,Int.reduceEq,Int.reduceNe,Int.reduceLE,Int.reduceLT,forall_eq_or_imp,forall_eq,ne_eq,reduceCtorEq,notInt,numB,tabB,Array.reduceGetElem?,upG,up,nth,lay,rcB,rnm,rnmL,wrB,pcB,res3,pl3,Option.isNone,lhB,liB]
      repeat (refine ⟨by omega, ?_⟩)
      refine c14 m ho _ _ (hm.ext hE0) _ (fun e2 => absurd e e2) (fun _ _ => ?_) (fun _ c2 => absurd c (by omega))
      simp -implicitDefEqProofs (maxSteps := 1000000) (disch := omega) only [↓vcB,↓gd,↓opP,↓qv,↓ef,↓bslS,↓stS,↓mkS,↓rangeS,↓nextS,↓entryS,↓delS,↓mupS,↓appS,↓s2bS,↓resS,evB,Sx.look,slot,↓lkL,putS,putO,argsL,↓reduceIte,ofV,of1,lookH,putH,List.replicate,List.append,convS,fldA,nthT,idxA,idxS,fldS,oslN,bnd,slS,unS,valI,lenS,lookS,takeC,psB,asRow,csB,rdF,Ent.row,ldS,sz,szL,wrF,bldF,plT,bldS,srcS,nilS,nilEq,mapC,binH,binS2,structS,eqL,eqF,binS,arrS,isI,tupS,stor,storL,Value.oneCell',minS,maxS,capS,Nat.reduceAdd,Nat.reduceSub,Nat.reduceMul,Nat.reduceLT,Nat.reduceLeDiff,Nat.reduceEqDiff,Nat.reduceBEq,Int.reduceToNat,Int.reduceNeg,if_true,if_false,reduceIte,stays,inL,same1,qn,ldN,convN,lenN,cond_true,cond_false,implies_true,Int.reduceEq,Int.reduceNe,Int.reduceLE,Int.reduceLT,forall_eq_or_imp,forall_eq,ne_eq,reduceCtorEq,notInt,numB,tabB,Array.reduceGetElem?,upG,up,nth,lay,rcB,rnm,rnmL,wrB,pcB,res3,pl3,Option.isNone,lhB,liB]
      repeat (refine ⟨by omega, ?_⟩)
      refine c15 m _ _ (hm.ext hE0) _ ?_
      refine ⟨lookH_app0 _ _, ?_⟩
      simp -implicitDefEqProofs (maxSteps := 1000000) (disch := omega) only [↓vcB,↓gd,↓opP,↓qv,↓ef,↓bslS,↓stS,↓mkS,↓rangeS,↓nextS,↓entryS,↓delS,↓mupS,↓appS,↓s2bS,↓resS,evB,Sx.look,slot,↓lkL,putS,putO,argsL,↓reduceIte,ofV,of1,lookH,putH,List.replicate,List.append,convS,fldA,nthT,idxA,idxS,fldS,oslN,bnd,slS,unS,valI,lenS,lookS,takeC,psB,asRow,csB,rdF,Ent.row,ldS,sz,szL,wrF,bldF,plT,bldS,srcS,nilS,nilEq,mapC,binH,binS2,structS,eqL,eqF,binS,arrS,isI,tupS,stor,storL,Value.oneCell',minS,maxS,capS,Nat.reduceAdd,Nat.reduceSub,Nat.reduceMul,Nat.reduceLT,Nat.reduceLeDiff,Nat.reduceEqDiff,Nat.reduceBEq,Int.reduceToNat,Int.reduceNeg,if_true,if_false,reduceIte,stays,inL,same1,qn,ldN,convN,lenN,cond_true,cond_false,implies_true,Int.reduceEq,Int.reduceNe,Int.reduceLE,Int.reduceLT,forall_eq_or_imp,forall_eq,ne_eq,reduceCtorEq,notInt,numB,tabB,Array.reduceGetElem?,upG,up,nth,lay,rcB,rnm,rnmL,wrB,pcB,res3,pl3,Option.isNone,lhB,liB]
      repeat (refine ⟨by omega, ?_⟩)
      refine c16 m _ _ (hm.ext hE0) _ ?_
      simp -implicitDefEqProofs (maxSteps := 1000000) (disch := omega) only [↓vcB,↓gd,↓opP,↓qv,↓ef,↓bslS,↓stS,↓mkS,↓rangeS,↓nextS,↓entryS,↓delS,↓mupS,↓appS,↓s2bS,↓resS,evB,Sx.look,slot,↓lkL,putS,putO,argsL,↓reduceIte,ofV,of1,lookH,putH,List.replicate,List.append,convS,fldA,nthT,idxA,idxS,fldS,oslN,bnd,slS,unS,valI,lenS,lookS,takeC,psB,asRow,csB,rdF,Ent.row,ldS,sz,szL,wrF,bldF,plT,bldS,srcS,nilS,nilEq,mapC,binH,binS2,structS,eqL,eqF,binS,arrS,isI,tupS,stor,storL,Value.oneCell',minS,maxS,capS,Nat.reduceAdd,Nat.reduceSub,Nat.reduceMul,Nat.reduceLT,Nat.reduceLeDiff,Nat.reduceEqDiff,Nat.reduceBEq,Int.reduceToNat,Int.reduceNeg,if_true,if_false,reduceIte,stays,inL,same1,qn,ldN,convN,lenN,cond_true,cond_false,implies_true,Int.reduceEq,Int.reduceNe,Int.reduceLE,Int.reduceLT,forall_eq_or_imp,forall_eq,ne_eq,reduceCtorEq,notInt,numB,tabB,Array.reduceGetElem?,upG,up,nth,lay,rcB,rnm,rnmL,wrB,pcB,res3,pl3,Option.isNone,lhB,ha,liB]
      repeat (refine ⟨by omega, ?_⟩)
      refine c17 m ho _ _ (hm.ext hE0) _ (fun e2 => absurd e e2) (fun _ H3 k3 hE3 hk3 hr3 => ?_)
      have q3 : lookH H3 h.length = Chunk.cells true [.int .i64 xk, .int .i64 xf, .int .i64 xv, .int .i64 xs, .fam 32 1 fun i => .int .u8 (nat (xd i)), .osl xkb 0 0 1 xnb, .osl xkbs 0 0 1 xnbs, .osl xkp 0 0 73 xnp, .osl xkq 0 0 74 xnq, .int .i64 xkey, .fam 32 1 fun i => .int .u8 (nat (xof i))] := hE3.look (lookH_app0 _ _) (by simp) fun h => h
      refine ⟨q3, ?_⟩
      simp -implicitDefEqProofs (maxSteps := 1000000) (disch := omega) only [↓vcB,↓gd,↓opP,↓qv,↓ef,↓bslS,↓stS,↓mkS,↓rangeS,↓nextS,↓entryS,↓delS,↓mupS,↓appS,↓s2bS,↓resS,evB,Sx.look,slot,↓lkL,putS,putO,argsL,↓reduceIte,ofV,of1,lookH,putH,List.replicate,List.append,convS,fldA,nthT,idxA,idxS,fldS,oslN,bnd,slS,unS,valI,lenS,lookS,takeC,psB,asRow,csB,rdF,Ent.row,ldS,sz,szL,wrF,bldF,plT,bldS,srcS,nilS,nilEq,mapC,binH,binS2,structS,eqL,eqF,binS,arrS,isI,tupS,stor,storL,Value.oneCell',minS,maxS,capS,Nat.reduceAdd,Nat.reduceSub,Nat.reduceMul,Nat.reduceLT,Nat.reduceLeDiff,Nat.reduceEqDiff,Nat.reduceBEq,Int.reduceToNat,Int.reduceNeg,if_true,if_false,reduceIte,stays,inL,same1,qn,ldN,convN,lenN,cond_true,cond_false,implies_true,Int.reduceEq,Int.reduceNe,Int.reduceLE,Int.reduceLT,forall_eq_or_imp,forall_eq,ne_eq,reduceCtorEq,notInt,numB,tabB,Array.reduceGetElem?,upG,up,nth,lay,rcB,rnm,rnmL,wrB,pcB,res3,pl3,Option.isNone,lhB,q3,hr3,liB]
      repeat (refine ⟨by omega, ?_⟩)
      refine c18 m ho _ _ (hm.ext (hE0.trans hE3)) _ (fun e2 => absurd e e2) (fun _ H4 k4 hE4 hk4 hr4 => ?_)
      have q4 : lookH H4 h.length = Chunk.cells true [.int .i64 xk, .int .i64 xf, .int .i64 xv, .int .i64 xs, .fam 32 1 fun i => .int .u8 (nat (xd i)), .osl xkb 0 0 1 xnb, .osl xkbs 0 0 1 xnbs, .osl xkp 0 0 73 xnp, .osl xkq 0 0 74 xnq, .int .i64 xkey, .fam 32 1 fun i => .int .u8 (nat (xof i))] := hE4.look q3 (by simp) fun h => h
      have q5 := hE4.look hr3 (by simp) fun h => h
      refine ⟨⟨q5, q4⟩, ?_⟩
      simp -implicitDefEqProofs (maxSteps := 1000000) (disch := omega) only [↓vcB,↓gd,↓opP,↓qv,↓ef,↓bslS,↓stS,↓mkS,↓rangeS,↓nextS,↓entryS,↓delS,↓mupS,↓appS,↓s2bS,↓resS,evB,Sx.look,slot,↓lkL,putS,putO,argsL,↓reduceIte,ofV,of1,lookH,putH,List.replicate,List.append,convS,fldA,nthT,idxA,idxS,fldS,oslN,bnd,slS,unS,valI,lenS,lookS,takeC,psB,asRow,csB,rdF,Ent.row,ldS,sz,szL,wrF,bldF,plT,bldS,srcS,nilS,nilEq,mapC,binH,binS2,structS,eqL,eqF,binS,arrS,isI,tupS,stor,storL,Value.oneCell',minS,maxS,capS,Nat.reduceAdd,Nat.reduceSub,Nat.reduceMul,Nat.reduceLT,Nat.reduceLeDiff,Nat.reduceEqDiff,Nat.reduceBEq,Int.reduceToNat,Int.reduceNeg,if_true,if_false,reduceIte,stays,inL,same1,qn,ldN,convN,lenN,cond_true,cond_false,implies_true,Int.reduceEq,Int.reduceNe,Int.reduceLE,Int.reduceLT,forall_eq_or_imp,forall_eq,ne_eq,reduceCtorEq,notInt,numB,tabB,Array.reduceGetElem?,upG,up,nth,lay,rcB,rnm,rnmL,wrB,pcB,res3,pl3,Option.isNone,lhB,q4,hr4,q5,beq_self_eq_true,liB]
      repeat (refine ⟨by omega, ?_⟩)
      refine c12 _ _ ?_
      intro H5 hE5
      refine ⟨⟨hE5.look hr4 (by simp) fun h => h, hE5.look q5 (by simp) fun h => h, hE5.look q4 (by simp) fun h => h⟩, ?_⟩
      simp -implicitDefEqProofs (maxSteps := 1000000) (disch := omega) only [↓vcB,↓gd,↓opP,↓qv,↓ef,↓bslS,↓stS,↓mkS,↓rangeS,↓nextS,↓entryS,↓delS,↓mupS,↓appS,↓s2bS,↓resS,evB,Sx.look,slot,↓lkL,putS,putO,argsL,↓reduceIte,ofV,of1,lookH,putH,List.replicate,List.append,convS,fldA,nthT,idxA,idxS,fldS,oslN,bnd,slS,unS,valI,lenS,lookS,takeC,psB,asRow,csB,rdF,Ent.row,ldS,sz,szL,wrF,bldF,plT,bldS,srcS,nilS,nilEq,mapC,binH,binS2,structS,eqL,eqF,binS,arrS,isI,tupS,stor,storL,Value.oneCell',minS,maxS,capS,Nat.reduceAdd,Nat.reduceSub,Nat.reduceMul,Nat.reduceLT,Nat.reduceLeDiff,Nat.reduceEqDiff,Nat.reduceBEq,Int.reduceToNat,Int.reduceNeg,if_true,if_false,reduceIte,stays,inL,same1,qn,ldN,convN,lenN,cond_true,cond_false,implies_true,Int.reduceEq,Int.reduceNe,Int.reduceLE,Int.reduceLT,forall_eq_or_imp,forall_eq,ne_eq,reduceCtorEq,notInt,numB,tabB,Array.reduceGetElem?,upG,up,nth,lay,rcB,rnm,rnmL,wrB,pcB,res3,pl3,Option.isNone,lhB,liB]
      repeat (refine ⟨by omega, ?_⟩)
      exact intoR_refl (((hE0.trans hE3).trans hE4).trans hE5).1 (hK _)
    · have f0 : lookH H1 h.length = Chunk.cells true [.int .i64 xk, .int .i64 xf, .int .i64 xv, .int .i64 xs, .fam 32 1 fun i => .int .u8 (nat (xd i)), .osl xkb 0 0 1 xnb, .osl xkbs 0 0 1 xnbs, .osl xkp 0 0 73 xnp, .osl xkq 0 0 74 xnq, .int .i64 xkey, .fam 32 1 fun i => .int .u8 (nat (xof i))] := hE1.look (lookH_app0 _ _) (by simp) fun h => h
      simp -implicitDefEqProofs (maxSteps := 1000000) (disch := omega) only [↓vcB,↓gd,↓opP,↓qv,↓ef,↓bslS,↓stS,↓mkS,↓rangeS,↓nextS,↓entryS,↓delS,↓mupS,↓appS,↓s2bS,↓resS,evB,Sx.look,slot,↓lkL,putS,putO,argsL,↓reduceIte,ofV,of1,lookH,putH,List.replicate,List.append,convS,fldA,nthT,idxA,idxS,fldS,oslN,bnd,slS,unS,valI,lenS,lookS,takeC,psB,asRow,csB,rdF,Ent.row,ldS,sz,szL,wrF,bldF,plT,bldS,srcS,nilS,nilEq,mapC,binH,binS2,structS,eqL,eqF,binS,arrS,isI,tupS,stor,storL,Value.oneCell',minS,maxS,capS,Nat.reduceAdd,Nat.reduceSub,Nat.reduceMul,Nat.reduceLT,Nat.reduceLeDiff,Nat.reduceEqDiff,Nat.reduceBEq,Int.reduceToNat,Int.reduceNeg,if_true,if_false,reduceIte,stays,inL,same1,qn,ldN,convN,lenN,cond_true,cond_false,implies_true,Int.reduceEq,Int.reduceNe,Int.reduceLE,Int.reduceLT,forall_eq_or_imp,forall_eq,ne_eq,reduceCtorEq,notInt,numB,tabB,Array.reduceGetElem?,upG,up,nth,lay,rcB,rnm,rnmL,wrB,pcB,res3,pl3,Option.isNone,lhB,f0,liB]
      repeat (refine ⟨by omega, ?_⟩)
      refine c14 m ho _ _ (hm.ext (hE0.trans hE1)) _ (fun e2 => absurd e e2) (fun _ c2 => absurd c2 (by omega)) (fun _ _ H2 k2 hE2 hk2 hr2 => ?_)
      have g0 := hE2.look f0 (by simp) fun h => h
      simp -implicitDefEqProofs (maxSteps := 1000000) (disch := omega) only [↓vcB,↓gd,↓opP,↓qv,↓ef,↓bslS,↓stS,↓mkS,↓rangeS,↓nextS,↓entryS,↓delS,↓mupS,↓appS,↓s2bS,↓resS,evB,Sx.look,slot,↓lkL,putS,putO,argsL,↓reduceIte,ofV,of1,lookH,putH,List.replicate,List.append,convS,fldA,nthT,idxA,idxS,fldS,oslN,bnd,slS,unS,valI,lenS,lookS,takeC,psB,asRow,csB,rdF,Ent.row,ldS,sz,szL,wrF,bldF,plT,bldS,srcS,nilS,nilEq,mapC,binH,binS2,structS,eqL,eqF,binS,arrS,isI,tupS,stor,storL,Value.oneCell',minS,maxS,capS,Nat.reduceAdd,Nat.reduceSub,Nat.reduceMul,Nat.reduceLT,Nat.reduceLeDiff,Nat.reduceEqDiff,Nat.reduceBEq,Int.reduceToNat,Int.reduceNeg,if_true,if_false,reduceIte,stays,inL,same1,qn,ldN,convN,lenN,cond_true,cond_false,implies_true,Int.reduceEq,Int.reduceNe,Int.reduceLE,Int.reduceLT,forall_eq_or_imp,forall_eq,ne_eq,reduceCtorEq,notInt,numB,tabB,Array.reduceGetElem?,upG,up,nth,lay,rcB,rnm,rnmL,wrB,pcB,res3,pl3,Option.isNone,lhB,g0,liB]
      repeat (refine ⟨by omega, ?_⟩)
      refine c15 m _ _ (hm.ext ((hE0.trans hE1).trans hE2)) _ ?_
      refine ⟨g0, ?_⟩
      simp -implicitDefEqProofs (maxSteps := 1000000) (disch := omega) only [↓vcB,↓gd,↓opP,↓qv,↓ef,↓bslS,↓stS,↓mkS,↓rangeS,↓nextS,↓entryS,↓delS,↓mupS,↓appS,↓s2bS,↓resS,evB,Sx.look,slot,↓lkL,putS,putO,argsL,↓reduceIte,ofV,of1,lookH,putH,List.replicate,List.append,convS,fldA,nthT,idxA,idxS,fldS,oslN,bnd,slS,unS,valI,lenS,lookS,takeC,psB,asRow,csB,rdF,Ent.row,ldS,sz,szL,wrF,bldF,plT,bldS,srcS,nilS,nilEq,mapC,binH,binS2,structS,eqL,eqF,binS,arrS,isI,tupS,stor,storL,Value.oneCell',minS,maxS,capS,Nat.reduceAdd,Nat.reduceSub,Nat.reduceMul,Nat.reduceLT,Nat.reduceLeDiff,Nat.reduceEqDiff,Nat.reduceBEq,Int.reduceToNat,Int.reduceNeg,if_true,if_false,reduceIte,stays,inL,same1,qn,ldN,convN,lenN,cond_true,cond_false,implies_true,Int.reduceEq,Int.reduceNe,Int.reduceLE,Int.reduceLT,forall_eq_or_imp,forall_eq,ne_eq,reduceCtorEq,notInt,numB,tabB,Array.reduceGetElem?,upG,up,nth,lay,rcB,rnm,rnmL,wrB,pcB,res3,pl3,Option.isNone,lhB,g0,liB]
      repeat (refine ⟨by omega, ?_⟩)
      refine c16 m _ _ (hm.ext ((hE0.trans hE1).trans hE2)) _ ?_
      simp -implicitDefEqProofs (maxSteps := 1000000) (disch := omega) only [↓vcB,↓gd,↓opP,↓qv,↓ef,↓bslS,↓stS,↓mkS,↓rangeS,↓nextS,↓entryS,↓delS,↓mupS,↓appS,↓s2bS,↓resS,evB,Sx.look,slot,↓lkL,putS,putO,argsL,↓reduceIte,ofV,of1,lookH,putH,List.replicate,List.append,convS,fldA,nthT,idxA,idxS,fldS,oslN,bnd,slS,unS,valI,lenS,lookS,takeC,psB,asRow,csB,rdF,Ent.row,ldS,sz,szL,wrF,bldF,plT,bldS,srcS,nilS,nilEq,mapC,binH,binS2,structS,eqL,eqF,binS,arrS,isI,tupS,stor,storL,Value.oneCell',minS,maxS,capS,Nat.reduceAdd,Nat.reduceSub,Nat.reduceMul,Nat.reduceLT,Nat.reduceLeDiff,Nat.reduceEqDiff,Nat.reduceBEq,Int.reduceToNat,Int.reduceNeg,if_true,if_false,reduceIte,stays,inL,same1,qn,ldN,convN,lenN,cond_true,cond_false,implies_true,Int.reduceEq,Int.reduceNe,Int.reduceLE,Int.reduceLT,forall_eq_or_imp,forall_eq,ne_eq,reduceCtorEq,notInt,numB,tabB,Array.reduceGetElem?,upG,up,nth,lay,rcB,rnm,rnmL,wrB,pcB,res3,pl3,Option.isNone,lhB,ha,g0,liB]
      repeat (refine ⟨by omega, ?_⟩)
      refine c17 m ho _ _ (hm.ext ((hE0.trans hE1).trans hE2)) _ (fun e2 => absurd e e2) (fun _ H3 k3 hE3 hk3 hr3 => ?_)
      have q3 : lookH H3 h.length = Chunk.cells true [.int .i64 xk, .int .i64 xf, .int .i64 xv, .int .i64 xs, .fam 32 1 fun i => .int .u8 (nat (xd i)), .osl xkb 0 0 1 xnb, .osl xkbs 0 0 1 xnbs, .osl xkp 0 0 73 xnp, .osl xkq 0 0 74 xnq, .int .i64 xkey, .fam 32 1 fun i => .int .u8 (nat (xof i))] := hE3.look g0 (by simp) fun h => h
      refine ⟨q3, ?_⟩
      simp -implicitDefEqProofs (maxSteps := 1000000) (disch := omega) only [↓vcB,↓gd,↓opP,↓qv,↓ef,↓bslS,↓stS,↓mkS,↓rangeS,↓nextS,↓entryS,↓delS,↓mupS,↓appS,↓s2bS,↓resS,evB,Sx.look,slot,↓lkL,putS,putO,argsL,↓reduceIte,ofV,of1,lookH,putH,List.replicate,List.append,convS,fldA,nthT,idxA,idxS,fldS,oslN,bnd,slS,unS,valI,lenS,lookS,takeC,psB,asRow,csB,rdF,Ent.row,ldS,sz,szL,wrF,bldF,plT,bldS,srcS,nilS,nilEq,mapC,binH,binS2,structS,eqL,eqF,binS,arrS,isI,tupS,stor,storL,Value.oneCell',minS,maxS,capS,Nat.reduceAdd,Nat.reduceSub,Nat.reduceMul,Nat.reduceLT,Nat.reduceLeDiff,Nat.reduceEqDiff,Nat.reduceBEq,Int.reduceToNat,Int.reduceNeg,if_true,if_false,reduceIte,stays,inL,same1,qn,ldN,convN,lenN,cond_true,cond_false,implies_true,Int.reduceEq,Int.reduceNe,Int.reduceLE,Int.reduceLT,forall_eq_or_imp,forall_eq,ne_eq,reduceCtorEq,notInt,numB,tabB,Array.reduceGetElem?,upG,up,nth,lay,rcB,rnm,rnmL,wrB,pcB,res3,pl3,Option.isNone,lhB,q3,hr3,liB]
      repeat (refine ⟨by omega, ?_⟩)
      refine c18 m ho _ _ (hm.ext (((hE0.trans hE1).trans hE2).trans hE3)) _ (fun e2 => absurd e e2) (fun _ H4 k4 hE4 hk4 hr4 => ?_)
      have q4 : lookH H4 h.length = Chunk.cells true [.int .i64 xk, .int .i64 xf, .int .i64 xv, .int .i64 xs, .fam 32 1 fun i => .int .u8 (nat (xd i)), .osl xkb 0 0 1 xnb, .osl xkbs 0 0 1 xnbs, .osl xkp 0 0 73 xnp, .osl xkq 0 0 74 xnq, .int .i64 xkey, .fam 32 1 fun i => .int .u8 (nat (xof i))] := hE4.look q3 (by simp) fun h => h
      have q5 := hE4.look hr3 (by simp) fun h => h
      refine ⟨⟨q5, q4⟩, ?_⟩
      have q6 := ((hE2.trans hE3).trans hE4).look hr1 (by simp) fun h => h
      have q7 := (hE3.trans hE4).look hr2 (by simp) fun h => h
      simp -implicitDefEqProofs (maxSteps := 1000000) (disch := omega) only [↓vcB,↓gd,↓opP,↓qv,↓ef,↓bslS,↓stS,↓mkS,↓rangeS,↓nextS,↓entryS,↓delS,↓mupS,↓appS,↓s2bS,↓resS,evB,Sx.look,slot,↓lkL,putS,putO,argsL,↓reduceIte,ofV,of1,lookH,putH,List.replicate,List.append,convS,fldA,nthT,idxA,idxS,fldS,oslN,bnd,slS,unS,valI,lenS,lookS,takeC,psB,asRow,csB,rdF,Ent.row,ldS,sz,szL,wrF,bldF,plT,bldS,srcS,nilS,nilEq,mapC,binH,binS2,structS,eqL,eqF,binS,arrS,isI,tupS,stor,storL,Value.oneCell',minS,maxS,capS,Nat.reduceAdd,Nat.reduceSub,Nat.reduceMul,Nat.reduceLT,Nat.reduceLeDiff,Nat.reduceEqDiff,Nat.reduceBEq,Int.reduceToNat,Int.reduceNeg,if_true,if_false,reduceIte,stays,inL,same1,qn,ldN,convN,lenN,cond_true,cond_false,implies_true,Int.reduceEq,Int.reduceNe,Int.reduceLE,Int.reduceLT,forall_eq_or_imp,forall_eq,ne_eq,reduceCtorEq,notInt,numB,tabB,Array.reduceGetElem?,upG,up,nth,lay,rcB,rnm,rnmL,wrB,pcB,res3,pl3,Option.isNone,lhB,q4,hr4,q5,q6,q7,beq_self_eq_true,liB]
      repeat (refine ⟨by omega, ?_⟩)
      refine c12 _ _ ?_
      intro H5 hE5
      refine ⟨⟨hE5.look q7 (by simp) fun h => h, hE5.look q6 (by simp) fun h => h, hE5.look hr4 (by simp) fun h => h, hE5.look q5 (by simp) fun h => h, hE5.look q4 (by simp) fun h => h⟩, ?_⟩
      simp -implicitDefEqProofs (maxSteps := 1000000) (disch := omega) only [↓vcB,↓gd,↓opP,↓qv,↓ef,↓bslS,↓stS,↓mkS,↓rangeS,↓nextS,↓entryS,↓delS,↓mupS,↓appS,↓s2bS,↓resS,evB,Sx.look,slot,↓lkL,putS,putO,argsL,↓reduceIte,ofV,of1,lookH,putH,List.replicate,List.append,convS,fldA,nthT,idxA,idxS,fldS,oslN,bnd,slS,unS,valI,lenS,lookS,takeC,psB,asRow,csB,rdF,Ent.row,ldS,sz,szL,wrF,bldF,plT,bldS,srcS,nilS,nilEq,mapC,binH,binS2,structS,eqL,eqF,binS,arrS,isI,tupS,stor,storL,Value.oneCell',minS,maxS,capS,Nat.reduceAdd,Nat.reduceSub,Nat.reduceMul,Nat.reduceLT,Nat.reduceLeDiff,Nat.reduceEqDiff,Nat.reduceBEq,Int.reduceToNat,Int.reduceNeg,if_true,if_false,reduceIte,stays,inL,same1,qn,ldN,convN,lenN,cond_true,cond_false,implies_true,Int.reduceEq,Int.reduceNe,Int.reduceLE,Int.reduceLT,forall_eq_or_imp,forall_eq,ne_eq,reduceCtorEq,notInt,numB,tabB,Array.reduceGetElem?,upG,up,nth,lay,rcB,rnm,rnmL,wrB,pcB,res3,pl3,Option.isNone,lhB,liB]
      repeat (refine ⟨by omega, ?_⟩)
      exact intoR_refl (((((hE0.trans hE1).trans hE2).trans hE3).trans hE4).trans hE5).1 (hK _)
end Go.Proofs.Ytgocfglmideobaa
