/- Contracts of functions that the laws reach, by the symbolic executor of the texts Sxa to Sxt. No condition. -/
import Derived.Test.YtbjelfgclhmedaaU15
set_option linter.all false
set_option maxRecDepth 40000
namespace Go.Proofs.Ytbjelfgclhmedaa
open Go Go.Sx

theorem famEq_refl (m : Nat) (f : Nat → SV) : famEq m f f = true := decide_eq_true fun _ _ => rfl
theorem c23' (m len : Nat) (B : Nat → BitVec 8) (f : Nat → SV) (hf : ∀ i, i < m → f i = .int .u8 (nat (B i))) (hm : len ≤ m) (hl : len ≤ 70368744177664) {h : List Chunk} {nm : Nat} (wr : Bool) (hh : lookH h nm = .row wr m 1 f) (hnm : nm < h.length) (F : Nat → SV) (hF : (fun i => SV.int .u8 (nat (shaD len B i))) = F) (K : Tok → SV → List Chunk → Prop)
    (hK : K .mk (.fam 32 1 F) h) : callP Try.prog 23 [.osl nm 0 0 1 len] h K := by
  refine c23 m 0 0 len B f hf (by omega) hl wr hh hnm K ?_
  rw [show (fun i => B (0 + i)) = B from funext fun i => by rw [Nat.zero_add], ref_sum, hF]
  exact hK
theorem c20F (m len : Nat) (B : Nat → BitVec 8) (f : Nat → SV) (hf : ∀ i, i < m → f i = .int .u8 (nat (B i))) (hm : len ≤ m) (hl : len ≤ 70368744177664) {h : List Chunk} {nm : Nat} (wr : Bool) (hh : lookH h nm = .row wr m 1 f) (hnm : nm < h.length) (F : Nat → SV) (hF : (fun i => SV.int .u8 (nat (shaD len B i))) = F) (K : Tok → SV → List Chunk → Prop)
    (hK : K .mk (.fam 32 1 F) h) : callP Try.prog 20 [.osl nm 0 0 1 len] h K := c20' m len B f hf hm hl wr hh hnm K (hF ▸ hK)
end Go.Proofs.Ytbjelfgclhmedaa
