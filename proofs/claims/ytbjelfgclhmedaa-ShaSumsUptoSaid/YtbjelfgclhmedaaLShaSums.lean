/- The law ShaSums returns true for every input that holds at most 1048576 values and letters, and each argument reads afterwards as it did. Its condition: that bound. -/
import Derived.Test.YtbjelfgclhmedaaRows
import Derived.Test.YtbjelfgclhmedaaBulk
import Derived.Test.YtbjelfgclhmedaaU17
import Derived.Test.YtbjelfgclhmedaaSxt
import Derived.WalkKit
import Derived.ProofKit
import Derived.OpenShut
import Derived.ShutString
import Derived.ChangeOld
import Derived.JoinedCond
import Derived.Below
set_option linter.all false
namespace Go.Proofs.Ytbjelfgclhmedaa
open Go.ChangeShapes Go.WideShapes Go.ChangeAt Go.RowKit
open Go.ChangeMaps (open_string shut_string)
open Go.Sx

theorem try_own : ownKnob Try.prog.godebug = none := by kernel_rfl
theorem try_laidOut : laidOutB Try.prog = true := by kernel_rfl

theorem shaSums_walk (v : Value) (pl : Sx.Place) (len : Nat) (B : Nat → BitVec 8) (w : World)
    (hD : ∀ ρ k, ρ k = pl → v = den ρ (.osl k 0 0 1 len) ∧ Holds ρ w k (.row false len 1 fun i => .int .u8 (nat (B i)))) (hlt : pl.nil = false → pl.b < w.heap.size) (hlen : len ≤ 1048576) :
    Calls Try.prog 5 #[v] w fun e w' => e = .returned (.bool true) ∧ Below w.heap.size w w' := by
  have h := calls_of_callP (h := [.row false len 1 fun i => .int .u8 (nat (B i))]) (ρ := fun _ => pl) (w := w) Try.func5 (by kernel_rfl) rfl (models_row rfl (hD _ 0 rfl).2 (fun i _ => ⟨rfl, trivial, trivial⟩) hlt) (args := [.osl 0 0 0 1 len]) (by simp [okL, ok]) (c5l len (by omega) B _ fun _ => rfl)
  rw [(hD (fun _ => pl) 0 rfl).1]
  exact h

set_option maxRecDepth 100000 in
theorem shaSums_contract (H : Type) (enc : TypeId × Value → H) (W : World) (base : Nat) (args : Array Value) (ds gs : List (DataW H)) (before : List MemPlace)
    (hval : ∀ (j : Nat) t v, Try.f5.params[j]? = some t → args[j]? = some v → Value.okWide Try.prog W .any base t v)
    (hW : DataW.Whole enc Try.prog Try.f5.params.toList Rows.shaSumsSpec.vars false W args.toList ds gs before) (hk : Rows.uptoSmall H (ds ++ gs) = true) :
    Calls Try.prog 5 args W fun e W' => ∃ v, e = .returned v ∧ Rows.shaSumsSpec.post enc Try.prog Try.f5 false true false false W args v W' := by
  have hW' := hW
  obtain ⟨p, q, hA0, hV, rfl, hfz, hnd⟩ := hW
  have hA : DataW.TrodAll enc Try.prog W 0 (fun _ => true) true Try.f5.params.toList args.toList ds p := hA0
  rw [Try.params5] at hA hval
  obtain ⟨v0, vs0, d0, ds0, p0, q0, hargs, rfl, rfl, h0, r0⟩ := trodAll_cons hA
  obtain ⟨rfl, rfl, rfl⟩ := trodAll_nil r0
  obtain rfl : args = #[v0] := by cases args; simp_all
  obtain ⟨rfl, rfl⟩ := trodVars_none hV
  have hb := bulks.bound hk
  have k0 := h0
  have lt0 : ∀ x ∈ p0, x.block < W.heap.size := by obtain ⟨m, hm⟩ := k0; exact DataW.trod_lt m _ _ _ hm
  obtain ⟨pl0, len0, B0, hD0, hlt0, hle0⟩ := open_bytes Try.underlying25 Try.underlying5 (by kernel_rfl) (hval 0 25 v0 rfl rfl) h0
  have hlen0 : len0 ≤ 1048576 := by
    rcases hle0 with ⟨h, _⟩ | ⟨es, rs, h, h2⟩
    · omega
    · have h3 := bulks.part_le (d := d0) (l := [d0] ++ []) (by simp)
      have h4 := bulks.slice_le es rs
      rw [h] at h3
      rw [h] at hb
      simp only [List.nil_append, List.append_nil] at h3 hb ⊢
      omega
  clear hA0
  refine (shaSums_walk v0 pl0 len0 B0 W hD0 hlt0 hlen0).mono fun e W' ⟨he, bel⟩ => ?_
  subst he
  exact ⟨_, rfl, _, _, _, [], _, [], hW', trodAll_mk1 (shut_bool Try.underlying4 _), (trodAll_cons_mk (Below.trod try_laidOut (by kernel_rfl) (of_decide_eq_true (by kernel_rfl)) k0 bel lt0) trodAll_mk0), rfl, bel.frame _, fun h => by cases h⟩
set_option maxRecDepth 100000 in
theorem shaSums_lifted (os : Os) (started : os.Started) (H : Type) (enc : TypeId × Value → H) (F : Stop.Interp) :
    ReturnsInHanded {} Try.checked os 5 .any ((Rows.OpenSpec.upto Rows.shaSumsSpec).pre6 enc Try.prog Try.f5 Rows.shaSumsUptoRow.domain false) (((Rows.OpenSpec.upto Rows.shaSumsSpec).at F).post enc Try.prog Try.f5 false true false false) := by
  refine returnsInHanded_of_cond (C := Try.checked) (s := Rows.OpenSpec.upto Rows.shaSumsSpec) (k := Rows.uptoSmall) rfl try_own started (by kernel_rfl) Try.func5
    (OpenSpec.witness (enc := enc) (C := Try.checked) (s := Rows.OpenSpec.upto Rows.shaSumsSpec) (k := Rows.uptoSmall) rfl false ⟨#[], #[.slice none 0 0], []⟩ 8 (by kernel_rfl) (by kernel_rfl) (by kernel_rfl)
      (x := ([.nil], [], [])) (by kernel_rfl) rfl (by kernel_rfl)) ?_
  intro W base args ds gs before hval hW _ hk _
  exact shaSums_contract H enc W base args ds gs before hval hW hk
theorem shaSums_over : Rows.shaSumsUptoRow.holds Try.pinned (Rows.OpenSpec.upto Rows.shaSumsSpec) :=
  OpenClaim.holds_of_cond 5 Try.f5 rfl rfl rfl rfl rfl rfl rfl ⟨rfl, rfl, rfl, rfl, rfl⟩ rfl rfl rfl rfl rfl (by kernel_rfl) Try.func5 (by kernel_rfl)
    (of_decide_eq_true (by kernel_rfl)) (by unfold Func.isWrapper; first | (rw [if_pos (by decide +kernel)]; kernel_rfl) | (rw [if_neg (by decide +kernel)]; exact ⟨rfl, rfl⟩))
    (fun os started H enc _ F => shaSums_lifted os started H enc F)
/-- The statement. -/
theorem shaSums_holds : Rows.ShaSumsUptoSaid := shaSums_over
#print axioms shaSums_holds
end Go.Proofs.Ytbjelfgclhmedaa
