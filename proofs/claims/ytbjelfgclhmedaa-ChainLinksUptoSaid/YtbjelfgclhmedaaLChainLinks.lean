/- The law ChainLinks returns true for every input that holds at most 1048576 values and letters, and each argument reads afterwards as it did. Its condition: that bound. -/
import Derived.Test.YtbjelfgclhmedaaRows
import Derived.Test.YtbjelfgclhmedaaBulk
import Derived.Test.YtbjelfgclhmedaaU37
import Derived.Test.YtbjelfgclhmedaaSxt
import Derived.WalkKit
import Derived.ProofKit
import Derived.OpenShut
import Derived.ShutString
import Derived.ChangeOld
import Derived.JoinedCond
import Derived.Below
set_option linter.all false
namespace Go.Proofs.Ytbjelfgclhmedaa
open Go.ChangeShapes Go.WideShapes Go.ChangeAt Go.RowKit
open Go.ChangeMaps (open_string shut_string)
open Go.Sx

theorem try_own : ownKnob Try.prog.godebug = none := by kernel_rfl
theorem try_laidOut : laidOutB Try.prog = true := by kernel_rfl

theorem chainLinks_walk (v0 : Value) (D : Nat → BitVec 8) (hD0 : ∀ ρ, v0 = den ρ (.fam 32 1 fun i => .int .u8 (nat (D i)))) (v1 : Value) (E : Nat → BitVec 8) (hD1 : ∀ ρ, v1 = den ρ (.fam 32 1 fun i => .int .u8 (nat (E i))))
    (v : Value) (pl : Sx.Place) (n : Nat) (V : Nat → Value) (len : Nat → Nat) (B : Nat → Nat → BitVec 8) (v3 : Value) (pl3 : Sx.Place) (len3 : Nat) (B3 : Nat → BitVec 8) (w : World)
    (hD3 : ∀ ρ k, ρ k = pl3 → v3 = den ρ (.osl k 0 0 1 len3) ∧ Holds ρ w k (.row false len3 1 fun i => .int .u8 (nat (B3 i)))) (hlt3 : pl3.nil = false → pl3.b < w.heap.size) (hlen3 : len3 ≤ 1048576)
    (hD : ∀ ρ k, ρ k = pl → v = den ρ (.osl k 0 0 1 n) ∧ Holds ρ w k (.row false n 1 fun i => .v (V i))) (hlt : pl.nil = false → pl.b < w.heap.size)
    (hV : ∀ i, i < n → BRow w (V i) (len i) (B i) ∧ ∃ a l c, V i = .slice a l c) (hn : n ≤ 9223372036854775807) :
    Calls Try.prog 13 #[v0, v1, v, v3] w fun e w' => e = .returned (.bool true) ∧ Below w.heap.size w w' := by
  obtain ⟨Q, hQ⟩ := rowsKnow_of_brow (fun i hi => (hV i hi).1)
  have hL : ∀ i, i < n → ∃ a c, V i = .slice a (Q i).len c := fun i hi => rowsKnow_len hQ hi
  have hg : ∀ i, i < n → (V i).cells.size = 1 ∧ (V i).oneCell' = true := fun i hi => sv_good hL i hi
  let ρ : Env := fun k => if k = 0 then pl else pl3
  have h := calls_of_callPK (P := rk Try.prog n V Q) (h := [.row false n 1 (fun i => .v (V i)), .row false len3 1 fun i => .int .u8 (nat (B3 i))]) (ρ := ρ) (w := w) Try.func13 (by kernel_rfl) rfl hQ
    (models_ro (by
      intro k c hc
      rcases k with _ | _ | k
      · cases hc
        exact ⟨rfl, (hD ρ 0 rfl).2, ⟨fun i hi => ⟨(hg i hi).1, trivial⟩, fun i hi => (hg i hi).2⟩, hlt⟩
      · cases hc
        exact ⟨rfl, (hD3 ρ 1 rfl).2, ⟨fun i hi => ⟨rfl, trivial⟩, fun i hi => trivial⟩, hlt3⟩
      · simp at hc)) (args := [.fam 32 1 fun i => .int .u8 (nat (D i)), .fam 32 1 fun i => .int .u8 (nat (E i)), .osl 0 0 0 1 n, .osl 1 0 0 1 len3]) (by simp [okL, ok, sz]) (c13l n V Q hn hL D E len3 B3 hlen3 _ fun _ => rfl)
  rw [hD0 ρ, hD1 ρ, (hD ρ 0 rfl).1, (hD3 ρ 1 rfl).1]
  exact h

set_option maxRecDepth 100000 in
theorem chainLinks_contract (H : Type) (enc : TypeId × Value → H) (W : World) (base : Nat) (args : Array Value) (ds gs : List (DataW H)) (before : List MemPlace)
    (hval : ∀ (j : Nat) t v, Try.f13.params[j]? = some t → args[j]? = some v → Value.okWide Try.prog W .any base t v)
    (hW : DataW.Whole enc Try.prog Try.f13.params.toList Rows.chainLinksSpec.vars false W args.toList ds gs before) (hk : Rows.uptoSmall H (ds ++ gs) = true) :
    Calls Try.prog 13 args W fun e W' => ∃ v, e = .returned v ∧ Rows.chainLinksSpec.post enc Try.prog Try.f13 false true false false W args v W' := by
  have hW' := hW
  obtain ⟨p, q, hA0, hV, rfl, hfz, hnd⟩ := hW
  have hA : DataW.TrodAll enc Try.prog W 0 (fun _ => true) true Try.f13.params.toList args.toList ds p := hA0
  rw [Try.params13] at hA hval
  obtain ⟨v0, vs0, d0, ds0, p0, q0, hargs, rfl, rfl, h0, r0⟩ := trodAll_cons hA
  obtain ⟨v1, vs1, d1, ds1, p1, q1, rfl, rfl, rfl, h1, r1⟩ := trodAll_cons r0
  obtain ⟨v2, vs2, d2, ds2, p2, q2, rfl, rfl, rfl, h2, r2⟩ := trodAll_cons r1
  obtain ⟨v3, vs3, d3, ds3, p3, q3, rfl, rfl, rfl, h3, r3⟩ := trodAll_cons r2
  obtain ⟨rfl, rfl, rfl⟩ := trodAll_nil r3
  obtain rfl : args = #[v0, v1, v2, v3] := by cases args; simp_all
  obtain ⟨rfl, rfl⟩ := trodVars_none hV
  have hb := bulks.bound hk
  have k3 := h3
  have lt3 : ∀ x ∈ p3, x.block < W.heap.size := by obtain ⟨m, hm⟩ := k3; exact DataW.trod_lt m _ _ _ hm
  obtain ⟨pl3, len3, B3, hD3, hlt3, hle3⟩ := open_bytes Try.underlying25 Try.underlying5 (by kernel_rfl) (hval 3 25 v3 rfl rfl) h3
  have hlen3 : len3 ≤ 1048576 := by
    rcases hle3 with ⟨h, _⟩ | ⟨es, rs, h, h2⟩
    · omega
    · have h3 := bulks.part_le (d := d3) (l := [d0, d1, d2, d3] ++ []) (by simp)
      have h4 := bulks.slice_le es rs
      rw [h] at h3
      rw [h] at hb
      simp only [List.nil_append, List.append_nil] at h3 hb ⊢
      omega
  have k0 := h0
  have lt0 : ∀ x ∈ p0, x.block < W.heap.size := by obtain ⟨m, hm⟩ := k0; exact DataW.trod_lt m _ _ _ hm
  obtain ⟨D0, hD0⟩ := open_bytes_arr (n := 32) Try.underlying29 Try.underlying5 (by kernel_rfl) (by kernel_rfl) (hval 0 29 v0 rfl rfl) h0
  have k1 := h1
  have lt1 : ∀ x ∈ p1, x.block < W.heap.size := by obtain ⟨m, hm⟩ := k1; exact DataW.trod_lt m _ _ _ hm
  obtain ⟨D1, hD1⟩ := open_bytes_arr (n := 32) Try.underlying29 Try.underlying5 (by kernel_rfl) (by kernel_rfl) (hval 1 29 v1 rfl rfl) h1
  have k2 := h2
  have lt2 : ∀ x ∈ p2, x.block < W.heap.size := by obtain ⟨m, hm⟩ := k2; exact DataW.trod_lt m _ _ _ hm
  obtain ⟨pl2, n2, V2, len2, B2, hD2, hlt2, hV2, hn2⟩ := open_rows Try.underlying22 Try.underlying25 Try.underlying5 (by kernel_rfl) (by kernel_rfl) (hval 2 22 v2 rfl rfl) h2
  clear hA0
  refine (chainLinks_walk v0 D0 hD0 v1 D1 hD1 v2 pl2 n2 V2 len2 B2 v3 pl3 len3 B3 W hD3 hlt3 hlen3 hD2 hlt2 hV2 hn2).mono fun e W' ⟨he, bel⟩ => ?_
  subst he
  exact ⟨_, rfl, _, _, _, [], _, [], hW', trodAll_mk1 (shut_bool Try.underlying4 _), (trodAll_cons_mk (Below.trod try_laidOut (by kernel_rfl) (of_decide_eq_true (by kernel_rfl)) k0 bel lt0) (trodAll_cons_mk (Below.trod try_laidOut (by kernel_rfl) (of_decide_eq_true (by kernel_rfl)) k1 bel lt1) (trodAll_cons_mk (Below.trod try_laidOut (by kernel_rfl) (of_decide_eq_true (by kernel_rfl)) k2 bel lt2) (trodAll_cons_mk (Below.trod try_laidOut (by kernel_rfl) (of_decide_eq_true (by kernel_rfl)) k3 bel lt3) trodAll_mk0)))), rfl, bel.frame _, fun h => by cases h⟩
set_option maxRecDepth 100000 in
theorem chainLinks_lifted (os : Os) (started : os.Started) (H : Type) (enc : TypeId × Value → H) (F : Stop.Interp) :
    ReturnsInHanded {} Try.checked os 13 .any ((Rows.OpenSpec.upto Rows.chainLinksSpec).pre6 enc Try.prog Try.f13 Rows.chainLinksUptoRow.domain false) (((Rows.OpenSpec.upto Rows.chainLinksSpec).at F).post enc Try.prog Try.f13 false true false false) := by
  refine returnsInHanded_of_cond (C := Try.checked) (s := Rows.OpenSpec.upto Rows.chainLinksSpec) (k := Rows.uptoSmall) rfl try_own started (by kernel_rfl) Try.func13
    (OpenSpec.witness (enc := enc) (C := Try.checked) (s := Rows.OpenSpec.upto Rows.chainLinksSpec) (k := Rows.uptoSmall) rfl false ⟨#[], #[.agg (Array.replicate 32 (.int .u8 0)), .agg (Array.replicate 32 (.int .u8 0)), .slice none 0 0, .slice none 0 0], []⟩ 8 (by kernel_rfl) (by kernel_rfl) (by kernel_rfl)
      (x := ([.agg (List.replicate 32 (.lit (.int .u8 0))), .agg (List.replicate 32 (.lit (.int .u8 0))), .nil, .nil], [], [])) (by kernel_rfl) rfl (by kernel_rfl)) ?_
  intro W base args ds gs before hval hW _ hk _
  exact chainLinks_contract H enc W base args ds gs before hval hW hk
theorem chainLinks_over : Rows.chainLinksUptoRow.holds Try.pinned (Rows.OpenSpec.upto Rows.chainLinksSpec) :=
  OpenClaim.holds_of_cond 13 Try.f13 rfl rfl rfl rfl rfl rfl rfl ⟨rfl, rfl, rfl, rfl, rfl⟩ rfl rfl rfl rfl rfl (by kernel_rfl) Try.func13 (by kernel_rfl)
    (of_decide_eq_true (by kernel_rfl)) (by unfold Func.isWrapper; first | (rw [if_pos (by decide +kernel)]; kernel_rfl) | (rw [if_neg (by decide +kernel)]; exact ⟨rfl, rfl⟩))
    (fun os started H enc _ F => chainLinks_lifted os started H enc F)
/-- The statement. -/
theorem chainLinks_holds : Rows.ChainLinksUptoSaid := chainLinks_over
#print axioms chainLinks_holds
end Go.Proofs.Ytbjelfgclhmedaa
