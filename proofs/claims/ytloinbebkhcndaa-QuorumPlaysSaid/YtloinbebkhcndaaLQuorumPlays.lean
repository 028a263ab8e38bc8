/- The law QuorumPlays returns true for every input, and each argument reads afterwards as it did. No condition. -/
import Derived.Test.YtloinbebkhcndaaRows
import Derived.Test.YtloinbebkhcndaaMh
import Derived.Test.YtloinbebkhcndaaMb
import Derived.Test.YtloinbebkhcndaaMc
import Derived.WalkKit
import Derived.ProofKit
import Derived.OpenShut
import Derived.ShutString
import Derived.ChangeOld
import Derived.Below
set_option linter.all false
namespace Go.Proofs.Ytloinbebkhcndaa
open Go.ChangeShapes Go.WideShapes Go.ChangeAt Go.RowKit
open Go.ChangeMaps (open_string shut_string)
open Go.Sx

theorem try_own : ownKnob Try.prog.godebug = none := by kernel_rfl
theorem try_laidOut : laidOutB Try.prog = true := by kernel_rfl

theorem quorumPlays_walk (a0 : Int) (w0 : (Lit.int .i64 a0).wf = true) (v1 : Value) (pl1 : Sx.Place) (n1 : Nat) (S1 : Nat → VoA) (s2 : ByteArray) (ws2 : s2.size ≤ maxLen) (a3 : Int) (w3 : (Lit.int .i64 a3).wf = true) (w : World)
    (hD1 : ∀ ρ k, ρ k = pl1 → v1 = den ρ (.osl k 0 0 2 n1) ∧ Holds ρ w k (.row false n1 2 fun i => (S1 i).s)) (hlt1 : pl1.nil = false → pl1.b < w.heap.size) (hn1 : n1 ≤ 9223372036854775807) :
    Calls Try.prog 17 #[.int .i64 a0, v1, .string s2, .int .i64 a3] w fun e w' => e = .returned (.bool true) ∧ Below w.heap.size w w' := by
  obtain ⟨ρ, r1⟩ : ∃ ρ : Env, ρ 0 = pl1 := ⟨fun k => match k with | 0 => pl1 | _ => ⟨0, 0, 0, true⟩, rfl⟩
  have b0 : -9223372036854775808 ≤ a0 ∧ a0 ≤ 9223372036854775807 := by simpa [Lit.wf, IntKind.min, IntKind.max, IntKind.signed, IntKind.bits] using w0
  have b3 : -9223372036854775808 ≤ a3 ∧ a3 ≤ 9223372036854775807 := by simpa [Lit.wf, IntKind.min, IntKind.max, IntKind.signed, IntKind.bits] using w3
  have h := calls_of_callPK (P := Pr.of Try.prog) (h := [.row false n1 2 fun i => (S1 i).s]) (ρ := ρ) (w := w) Try.func17 (by kernel_rfl) rfl trivial
    (models_ro (by
      intro k c hc
      rcases k with _ | k
      · cases hc
        exact ⟨rfl, (hD1 _ 0 r1).2, ⟨fun i _ => ⟨rfl, by simp [ok, okL, VoA.s]⟩, fun i _ => by simp [stor, storL, VoA.s]⟩, by rw [r1]; exact hlt1⟩
      · simp at hc)) (args := [.int .i64 a0, .osl 0 0 0 2 n1, .str ⟨⟨s2.data.toList⟩⟩, .int .i64 a3]) (by simp [okL, ok, sz]) (c17l a0 n1 hn1 S1 s2.data.toList a3 b0 b3 _ fun _ => rfl)
  rw [(hD1 ρ 0 r1).1]
  exact h

set_option maxRecDepth 100000 in
theorem quorumPlays_lifted (os : Os) (started : os.Started) (H : Type) (enc : TypeId × Value → H) :
    ReturnsInHanded {} Try.checked os 17 .any (Rows.quorumPlaysSpec.pre6 enc Try.prog Try.f17 Rows.quorumPlaysRow.domain false) (Rows.quorumPlaysSpec.post enc Try.prog Try.f17 false true false false) := by
  refine returnsInHanded_of_change (C := Try.checked) try_own started (by kernel_rfl) Try.func17
    (ChangeSpec.witness6 (enc := enc) (C := Try.checked) false ⟨#[], #[.int .i64 0, .slice none 0 0, .string .empty, .int .i64 0], []⟩ 8 (by kernel_rfl) (by kernel_rfl) (by kernel_rfl) (by kernel_rfl)) ?_
  intro W base args ds gs before hval0 hW hcnd _
  have hval : ∀ (j : Nat) t v, Try.f17.params[j]? = some t → args[j]? = some v → Value.okWide Try.prog W .any base t v := hval0
  have hW' := hW
  obtain ⟨p, q, hA0, hV, rfl, hfz, hnd⟩ := hW
  have hA : DataW.TrodAll enc Try.prog W 0 (fun _ => true) true Try.f17.params.toList args.toList ds p := hA0
  rw [Try.params17] at hA hval
  obtain ⟨v0, vs0, d0, ds0, p0, q0, hargs, rfl, rfl, h0, r0⟩ := trodAll_cons hA
  obtain ⟨v1, vs1, d1, ds1, p1, q1, rfl, rfl, rfl, h1, r1⟩ := trodAll_cons r0
  obtain ⟨v2, vs2, d2, ds2, p2, q2, rfl, rfl, rfl, h2, r2⟩ := trodAll_cons r1
  obtain ⟨v3, vs3, d3, ds3, p3, q3, rfl, rfl, rfl, h3, r3⟩ := trodAll_cons r2
  obtain ⟨rfl, rfl, rfl⟩ := trodAll_nil r3
  obtain rfl : args = #[v0, v1, v2, v3] := by cases args; simp_all
  obtain ⟨rfl, rfl⟩ := trodVars_none hV
  have k0 := h0
  have lt0 : ∀ x ∈ p0, x.block < W.heap.size := by obtain ⟨m, hm⟩ := k0; exact DataW.trod_lt m _ _ _ hm
  obtain ⟨a0, rfl, rfl, rfl, w0⟩ := open_int Try.underlying3 (hval 0 3 v0 rfl rfl) h0
  have k1 := h1
  have lt1 : ∀ x ∈ p1, x.block < W.heap.size := by obtain ⟨m, hm⟩ := k1; exact DataW.trod_lt m _ _ _ hm
  obtain ⟨pl1, n1, S1, hD1, hlt1, hn1⟩ := open_votes (hval 1 67 v1 rfl rfl) h1
  have k2 := h2
  have lt2 : ∀ x ∈ p2, x.block < W.heap.size := by obtain ⟨m, hm⟩ := k2; exact DataW.trod_lt m _ _ _ hm
  obtain ⟨s2, rfl, _, rfl, ws2⟩ := open_string Try.underlying9 (hval 2 9 v2 rfl rfl) h2
  have k3 := h3
  have lt3 : ∀ x ∈ p3, x.block < W.heap.size := by obtain ⟨m, hm⟩ := k3; exact DataW.trod_lt m _ _ _ hm
  obtain ⟨a3, rfl, rfl, rfl, w3⟩ := open_int Try.underlying3 (hval 3 3 v3 rfl rfl) h3
  clear hA0 hval0
  refine (quorumPlays_walk a0 w0 v1 pl1 n1 S1 s2 ws2 a3 w3 W hD1 hlt1 hn1).mono fun e W' ⟨he, bel⟩ => ?_
  subst he
  exact ⟨_, rfl, _, _, _, [], _, [], hW', trodAll_mk1 (shut_bool Try.underlying4 _), (trodAll_cons_mk (Below.trod try_laidOut (by kernel_rfl) (of_decide_eq_true (by kernel_rfl)) k0 bel lt0) (trodAll_cons_mk (Below.trod try_laidOut (by kernel_rfl) (of_decide_eq_true (by kernel_rfl)) k1 bel lt1) (trodAll_cons_mk (Below.trod try_laidOut (by kernel_rfl) (of_decide_eq_true (by kernel_rfl)) k2 bel lt2) (trodAll_cons_mk (Below.trod try_laidOut (by kernel_rfl) (of_decide_eq_true (by kernel_rfl)) k3 bel lt3) trodAll_mk0)))), rfl, bel.frame _, fun h => by cases h⟩
theorem quorumPlays_over : Rows.quorumPlaysRow.holds Try.pinned (OpenSpec.ofChange Rows.quorumPlaysSpec) :=
  OpenClaim.holds_of_wide 17 Try.f17 rfl rfl rfl rfl rfl rfl rfl ⟨rfl, rfl, rfl, rfl, rfl⟩ rfl rfl rfl rfl rfl (by kernel_rfl) Try.func17 (by kernel_rfl)
    (of_decide_eq_true (by kernel_rfl)) (by unfold Func.isWrapper; first | (rw [if_pos (by decide +kernel)]; kernel_rfl) | (rw [if_neg (by decide +kernel)]; exact ⟨rfl, rfl⟩))
    (fun os started H enc _ => quorumPlays_lifted os started H enc)
/-- The statement. -/
theorem quorumPlays_holds : Rows.QuorumPlaysSaid := quorumPlays_over
#print axioms quorumPlays_holds
end Go.Proofs.Ytloinbebkhcndaa
