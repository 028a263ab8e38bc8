/- The law ShaApart returns true for every input, and each argument reads afterwards as it did. No condition. -/
import Derived.Test.YtbjelfgclhmedaaRows
import Derived.Test.YtbjelfgclhmedaaU27
import Derived.Test.YtbjelfgclhmedaaSxt
import Derived.WalkKit
import Derived.ProofKit
import Derived.OpenShut
import Derived.ShutString
import Derived.ChangeOld
import Derived.Below
set_option linter.all false
namespace Go.Proofs.Ytbjelfgclhmedaa
open Go.ChangeShapes Go.WideShapes Go.ChangeAt Go.RowKit
open Go.ChangeMaps (open_string shut_string)
open Go.Sx

theorem try_own : ownKnob Try.prog.godebug = none := by kernel_rfl
theorem try_laidOut : laidOutB Try.prog = true := by kernel_rfl

/-- The start, where two rows came in. -/
theorem models_row2 {W : World} {ρ : Env} {pl pl2 : Sx.Place} {n n2 : Nat} {f f2 : Nat → SV} (hk : ρ 0 = pl) (hk2 : ρ 1 = pl2) (hh : Holds ρ W 0 (.row false n 1 f)) (hh2 : Holds ρ W 1 (.row false n2 1 f2))
    (hf : ∀ i, i < n → sz (f i) = 1 ∧ ok 0 (f i) ∧ stor (f i)) (hf2 : ∀ i, i < n2 → sz (f2 i) = 1 ∧ ok 0 (f2 i) ∧ stor (f2 i)) (hlt : pl.nil = false → pl.b < W.heap.size) (hlt2 : pl2.nil = false → pl2.b < W.heap.size) :
    Models (Ctx.start W ρ 2) ρ [.row false n 1 f, .row false n2 1 f2] W where
  keep := Keep.refl _ _
  agree := fun _ _ => rfl
  len := Nat.le_refl _
  holds := fun k c h => by
    rcases k with _ | _ | k
    · cases h; exact hh
    · cases h; exact hh2
    · simp at h
  okc := fun k c h => by
    rcases k with _ | _ | k
    · cases h
      exact ⟨fun i hi => ⟨(hf i hi).1, ok_mono (Nat.zero_le _) _ (hf i hi).2.1⟩, fun i hi => (hf i hi).2.2⟩
    · cases h
      exact ⟨fun i hi => ⟨(hf2 i hi).1, ok_mono (Nat.zero_le _) _ (hf2 i hi).2.1⟩, fun i hi => (hf2 i hi).2.2⟩
    · simp at h
  size := fun k c h hr => by
    rcases k with _ | _ | k
    · rw [hk]; exact hlt (by rw [← hk]; exact hr.2)
    · show (ρ 1).b < _
      rw [hk2]; exact hlt2 (by rw [← hk2]; exact hr.2)
    · simp at h
  wr := fun k c h hr => by
    rcases k with _ | _ | k
    · cases h; exact absurd hr.1 (by simp [Chunk.wr])
    · cases h; exact absurd hr.1 (by simp [Chunk.wr])
    · simp at h
  sep := fun k k' c c' h h' hne hr _ => by
    rcases k with _ | _ | k
    · cases h; exact absurd hr.1 (by simp [Chunk.wr])
    · cases h; exact absurd hr.1 (by simp [Chunk.wr])
    · simp at h
theorem rows_good {w : World} {n : Nat} {V : Nat → Value} {len : Nat → Nat} {B : Nat → Nat → BitVec 8} (hV : ∀ i, i < n → BRow w (V i) (len i) (B i) ∧ ∃ a l c, V i = .slice a l c) : ∀ i, i < n → sz (SV.v (V i)) = 1 ∧ ok 0 (SV.v (V i)) ∧ stor (SV.v (V i)) := fun i hi => by
  obtain ⟨_, a, l, c, h⟩ := hV i hi
  rw [h]
  exact ⟨rfl, trivial, rfl⟩
theorem shaApart_walk (v : Value) (pl : Sx.Place) (n : Nat) (V : Nat → Value) (len : Nat → Nat) (B : Nat → Nat → BitVec 8) (v2 : Value) (pl2 : Sx.Place) (n2 : Nat) (V2 : Nat → Value) (len2 : Nat → Nat) (B2 : Nat → Nat → BitVec 8) (w : World)
    (hD : ∀ ρ k, ρ k = pl → v = den ρ (.osl k 0 0 1 n) ∧ Holds ρ w k (.row false n 1 fun i => .v (V i))) (hlt : pl.nil = false → pl.b < w.heap.size)
    (hV : ∀ i, i < n → BRow w (V i) (len i) (B i) ∧ ∃ a l c, V i = .slice a l c) (hn : n ≤ 9223372036854775807)
    (hD2 : ∀ ρ k, ρ k = pl2 → v2 = den ρ (.osl k 0 0 1 n2) ∧ Holds ρ w k (.row false n2 1 fun i => .v (V2 i))) (hlt2 : pl2.nil = false → pl2.b < w.heap.size)
    (hV2 : ∀ i, i < n2 → BRow w (V2 i) (len2 i) (B2 i) ∧ ∃ a l c, V2 i = .slice a l c) (hn2 : n2 ≤ 9223372036854775807) :
    Calls Try.prog 4 #[v, v2] w fun e w' => e = .returned (.bool true) ∧ Below w.heap.size w w' := by
  obtain ⟨c, hb⟩ : ∃ c, Try.f4.body = some c := ⟨_, rfl⟩
  obtain ⟨ρ, h0, h1⟩ : ∃ ρ : Env, ρ 0 = pl ∧ ρ 1 = pl2 := ⟨fun k => if k = 0 then pl else pl2, rfl, rfl⟩
  have h := calls_of_codeA (h := [.row false n 1 (fun i => .v (V i)), .row false n2 1 fun i => .v (V2 i)]) (ρ := ρ) (w := w) (b := true) tabOk Try.func4 hb (models_row2 h0 h1 (hD ρ 0 h0).2 (hD2 ρ 1 h1).2 (rows_good hV) (rows_good hV2) hlt hlt2)
    (args := [.osl 0 0 0 1 n, .osl 1 0 0 1 n2]) (by simp [okL, ok]) (Nat.le_of_ble_eq_true rfl) (c4l w ρ n n2 hn hn2 V V2 len len2 B B2 hV hV2 c hb)
  rw [(hD ρ 0 h0).1, (hD2 ρ 1 h1).1]
  exact h

set_option maxRecDepth 100000 in
theorem shaApart_lifted (os : Os) (started : os.Started) (H : Type) (enc : TypeId × Value → H) :
    ReturnsInHanded {} Try.checked os 4 .any (Rows.shaApartSpec.pre6 enc Try.prog Try.f4 Rows.shaApartRow.domain false) (Rows.shaApartSpec.post enc Try.prog Try.f4 false true false false) := by
  refine returnsInHanded_of_change (C := Try.checked) try_own started (by kernel_rfl) Try.func4
    (ChangeSpec.witness6 (enc := enc) (C := Try.checked) false ⟨#[], #[.slice none 0 0, .slice none 0 0], []⟩ 8 (by kernel_rfl) (by kernel_rfl) (by kernel_rfl) (by kernel_rfl)) ?_
  intro W base args ds gs before hval0 hW hcnd _
  have hval : ∀ (j : Nat) t v, Try.f4.params[j]? = some t → args[j]? = some v → Value.okWide Try.prog W .any base t v := hval0
  have hW' := hW
  obtain ⟨p, q, hA0, hV, rfl, hfz, hnd⟩ := hW
  have hA : DataW.TrodAll enc Try.prog W 0 (fun _ => true) true Try.f4.params.toList args.toList ds p := hA0
  rw [Try.params4] at hA hval
  obtain ⟨v0, vs0, d0, ds0, p0, q0, hargs, rfl, rfl, h0, r0⟩ := trodAll_cons hA
  obtain ⟨v1, vs1, d1, ds1, p1, q1, rfl, rfl, rfl, h1, r1⟩ := trodAll_cons r0
  obtain ⟨rfl, rfl, rfl⟩ := trodAll_nil r1
  obtain rfl : args = #[v0, v1] := by cases args; simp_all
  obtain ⟨rfl, rfl⟩ := trodVars_none hV
  have k0 := h0
  have lt0 : ∀ x ∈ p0, x.block < W.heap.size := by obtain ⟨m, hm⟩ := k0; exact DataW.trod_lt m _ _ _ hm
  obtain ⟨pl0, n0, V0, len0, B0, hD0, hlt0, hV0, hn0⟩ := open_rows Try.underlying22 Try.underlying25 Try.underlying5 (by kernel_rfl) (by kernel_rfl) (hval 0 22 v0 rfl rfl) h0
  have k1 := h1
  have lt1 : ∀ x ∈ p1, x.block < W.heap.size := by obtain ⟨m, hm⟩ := k1; exact DataW.trod_lt m _ _ _ hm
  obtain ⟨pl1, n1, V1, len1, B1, hD1, hlt1, hV1, hn1⟩ := open_rows Try.underlying22 Try.underlying25 Try.underlying5 (by kernel_rfl) (by kernel_rfl) (hval 1 22 v1 rfl rfl) h1
  clear hA0 hval0
  refine (shaApart_walk v0 pl0 n0 V0 len0 B0 v1 pl1 n1 V1 len1 B1 W hD0 hlt0 hV0 hn0 hD1 hlt1 hV1 hn1).mono fun e W' ⟨he, bel⟩ => ?_
  subst he
  exact ⟨_, rfl, _, _, _, [], _, [], hW', trodAll_mk1 (shut_bool Try.underlying4 _), (trodAll_cons_mk (Below.trod try_laidOut (by kernel_rfl) (of_decide_eq_true (by kernel_rfl)) k0 bel lt0) (trodAll_cons_mk (Below.trod try_laidOut (by kernel_rfl) (of_decide_eq_true (by kernel_rfl)) k1 bel lt1) trodAll_mk0)), rfl, bel.frame _, fun h => by cases h⟩
theorem shaApart_over : Rows.shaApartRow.holds Try.pinned (OpenSpec.ofChange Rows.shaApartSpec) :=
  OpenClaim.holds_of_wide 4 Try.f4 rfl rfl rfl rfl rfl rfl rfl ⟨rfl, rfl, rfl, rfl, rfl⟩ rfl rfl rfl rfl rfl (by kernel_rfl) Try.func4 (by kernel_rfl)
    (of_decide_eq_true (by kernel_rfl)) (by unfold Func.isWrapper; first | (rw [if_pos (by decide +kernel)]; kernel_rfl) | (rw [if_neg (by decide +kernel)]; exact ⟨rfl, rfl⟩))
    (fun os started H enc _ => shaApart_lifted os started H enc)
/-- The statement. -/
theorem shaApart_holds : Rows.ShaApartSaid := shaApart_over
#print axioms shaApart_holds
end Go.Proofs.Ytbjelfgclhmedaa
