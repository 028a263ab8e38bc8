/- A region whose order is drawn, each fact kept while it is needed. No condition. -/
import Derived.Test.YtloinbebkhcndaaSxk
import Derived.OrdersHeld
set_option linter.all false
namespace Go.Sx
open Go.RowKit

structure WideF (F : Fence) : Prop where
  fn : ∀ f, F.fn f
  depth : F.depth = none

section
variable {F : Fence} {n : Nat} {P : Program} {ops : Array Oper} {Q : Exit → Act → World → Prop} {md : Region.Mode}

/-- j waits for i, at once or through one other. -/
def waits1 (md : Region.Mode) (ops : Array Oper) (j i : Nat) : Bool :=
  match ops[j]? with
  | some o => o.after.any fun e => Region.binds md e && e.on == i
  | none => false
def waits (md : Region.Mode) (ops : Array Oper) (j i : Nat) : Bool :=
  match ops[j]? with
  | some o => o.after.any fun e => Region.binds md e && (e.on == i || waits1 md ops e.on i)
  | none => false

/-- What is listed has what it waits for listed too. -/
def Cl (md : Region.Mode) (ops : Array Oper) (L : Array Bool) : Prop :=
  ∀ x o, ops[x]? = some o → L.getD x false = true → ∀ e ∈ o.after, Region.binds md e = true → L.getD e.on false = true

theorem waits_listed {L : Array Bool} (hc : Cl md ops L) {j i : Nat} {oj : Oper} (hj : ops[j]? = some oj) (h : ∀ e ∈ oj.after, Region.binds md e = true → L.getD e.on false = true) (hw : waits md ops j i = true) : L.getD i false = true := by
  unfold waits at hw
  rw [hj] at hw
  have hw' : (oj.after.any fun e => Region.binds md e && (e.on == i || waits1 md ops e.on i)) = true := hw
  obtain ⟨e, he, hb⟩ := Array.any_eq_true'.1 hw'
  simp only [Bool.and_eq_true, Bool.or_eq_true, beq_iff_eq] at hb
  have h1 := h e he hb.1
  rcases hb.2 with rfl | hb2
  · exact h1
  · unfold waits1 at hb2
    split at hb2
    · rename_i o2 ho2
      obtain ⟨e2, he2, hb3⟩ := Array.any_eq_true'.1 hb2
      simp only [Bool.and_eq_true, beq_iff_eq] at hb3
      have := hc _ o2 ho2 h1 e2 he2 hb3.1
      rw [hb3.2] at this
      exact this
    · cases hb2

theorem waits_false {L : Array Bool} (hc : Cl md ops L) {j i : Nat} {oj : Oper} (hj : ops[j]? = some oj) (h : ∀ e ∈ oj.after, Region.binds md e = true → L.getD e.on false = true) (hi : L.getD i true = false) : waits md ops j i = false := by
  rw [Bool.eq_false_iff]
  intro hw
  have h1 := waits_listed hc hj h hw
  rcases Nat.lt_or_ge i L.size with h' | h'
  · simp [h'] at hi h1; rw [hi] at h1; cases h1
  · simp [Array.getElem?_eq_none h'] at h1

theorem cl_set {L : Array Bool} (hc : Cl md ops L) {i : Nat} (hr : i ∈ Region.ready md ops L) : Cl md ops (L.setIfInBounds i true) := by
  intro x o hx hl e he hb
  by_cases hxi : x = i
  · subst hxi
    obtain ⟨_, o', ho', hall⟩ := mem_ready.1 hr
    rw [hx] at ho'
    cases ho'
    exact getD_set_true (hall e he hb)
  · rw [getD_set_ne false (Ne.symm hxi)] at hl
    exact getD_set_true (hc x o hx hl e he hb)

theorem cl_none (n : Nat) : Cl md ops (Array.replicate n false) := by
  intro x o hx hl
  rcases Nat.lt_or_ge x n with h | h
  · simp [h] at hl
  · simp [h] at hl

abbrev Facts := List (Nat × (World → Prop))

/-- Each fact holds, but those for which an operation that writes has waited. -/
def Alive (md : Region.Mode) (ops : Array Oper) (eff : Nat → Bool) (Fa : Facts) (L : Array Bool) (w : World) : Prop :=
  ∀ p ∈ Fa, (∀ j, L.getD j false = true → eff j = true → waits md ops j p.1 = false) → p.2 w

def wpAnyG (F : Fence) (n : Nat) (P : Program) (md : Region.Mode) (ops : Array Oper) (Q : Exit → Act → World → Prop) (eff : Nat → Bool) (Fa : Facts) : Nat → Array Bool → Act → World → Prop
  | 0, L, a, w => Region.ready md ops L = [] ∧ Q .normal a w
  | fuel + 1, L, a, w =>
    (Region.ready md ops L = [] → Q .normal a w) ∧
    ∀ i ∈ Region.ready md ops L, wpOpIn F n P ops Q i (fun a' w' => Alive md ops eff Fa (L.setIfInBounds i true) w' ∧ wpAnyG F n P md ops Q eff Fa fuel (L.setIfInBounds i true) a' w') a w

theorem wpAnyIn_of_G {eff : Nat → Bool} {Fa : Facts} : ∀ (fuel : Nat) (L : Array Bool) (a : Act) (w : World), wpAnyG F n P md ops Q eff Fa fuel L a w → wpAnyIn F n P md ops Q fuel L a w
  | 0, _, _, _, h => h
  | fuel + 1, _, _, _, h => ⟨h.1, fun i hi => wpOpIn_mono (fun a' w' h' => wpAnyIn_of_G fuel _ a' w' h'.2) (h.2 i hi)⟩

/-- In every world of which φ holds the operation gives v and turns nothing. -/
def YieldsG (P : Program) (ops : Array Oper) (φ : World → Prop) (o : Oper) (v : Value) (a : Act) : Prop :=
  (∀ c, o.op ≠ .defer c) ∧ YieldsIf P ops φ o v a

theorem YieldsG.wpOpIn (hF : WideF F) {φ : World → Prop} {i : Nat} {o : Oper} {v : Value} {a : Act} (hi : ops[i]? = some o) (hy : YieldsG P ops φ o v a)
    {K : Act → World → Prop} {w : World} (hφ : φ w) (h : K (a.put o.dst v) w) : wpOpIn F n P ops Q i K a w := by
  unfold Go.wpOpIn
  simp only [hi]
  rcases hy.2 with ⟨hw, hv⟩ | ⟨hw, rfl⟩
  · simp only [hw, if_true, Oper.wpIn, Oper.semAt_eq F.round _ o hy.1, hv w hφ, Oper.uponIn]; exact ⟨fun f _ => hF.fn f, h⟩
  · simp only [hw, Bool.false_eq_true, if_false]; exact ⟨fun f _ => hF.fn f, h⟩

theorem wpOpIn_putG (hF : WideF F) {φ : World → Prop} {j : Nat} {oi oj : Oper} {v : Value} (hj : ops[j]? = some oj) (hap : oi.apart ops oj = true) (hdj : ∀ c, oj.op ≠ .defer c)
    (hsi : ∀ cs b, oi.op ≠ .select cs b) (hsj : ∀ cs b, oj.op ≠ .select cs b)
    (hQ : ∀ c a w, Q (.panic c) (a.put oi.dst v) w → Q (.panic c) a w) {K : Act → World → Prop} {a : Act} {w : World}
    (hy : YieldsG P ops φ oi v a) (h : wpOpIn F n P ops Q j K (a.put oi.dst v) w) :
    wpOpIn F n P ops Q j (fun a' w' => YieldsG P ops φ oi v a' ∧ K (a'.put oi.dst v) w') a w := by
  obtain ⟨h1, h2, h3⟩ := Oper.apart_spec hap
  have keep : ∀ (a : Act), YieldsG P ops φ oi v a → ∀ u, YieldsG P ops φ oi v (a.put oj.dst u) := fun a hy u =>
    ⟨hy.1, hy.2.of_same (execOp_put oi hsi a oj.dst u h3) (wanted_put oi a oj.dst u h3)⟩
  unfold wpOpIn at *
  simp only [hj] at *
  rw [wanted_put oj a oi.dst v h1, about_put oj w a oi.dst v h1] at h
  split
  · rename_i hw
    simp only [hw, if_true] at h
    unfold Oper.wpIn at *
    rw [about_put oj w a oi.dst v h1] at h
    refine ⟨h.1, ?_⟩
    have h := h.2
    rw [Oper.semAt_eq F.round _ oj hdj, execOp_put oj hsj a oi.dst v h1] at h
    rw [Oper.semAt_eq F.round _ oj hdj]
    generalize (execOp a.eval oj).run P w = r at *
    cases r with
    | ok x w' =>
      cases x <;> simp only [Oper.uponIn] at h ⊢
      case value u => exact ⟨keep a hy u, by rw [← Act.put_comm a v u h2]; exact h⟩
      case skip => exact ⟨keep a hy _, by rw [← Act.put_comm a v undef h2]; exact h⟩
      case defer d =>
        refine ⟨⟨hy.1, (hy.2.of_same (a' := { a with defers := d :: a.defers }) rfl rfl).of_same (execOp_put oi hsi _ oj.dst undef h3) (wanted_put oi _ oj.dst undef h3)⟩, ?_⟩
        rw [← Act.put_comm _ v undef h2, ← Act.put_defers]
        exact h
      case enter f args =>
        refine ⟨h.1, CallsIn.mono h.2 fun e w'' he => ?_⟩
        cases e with
        | returned u => exact ⟨keep a hy u, by rw [← Act.put_comm a v u h2]; exact he⟩
        | panicked c => exact hQ _ _ _ he
        | outgrown => exact he
      case row row args => exact ⟨h.1, RowsIn.mono h.2 fun u w'' he => ⟨keep a hy u, by rw [← Act.put_comm a v u h2]; exact he⟩⟩
      case round l f tmps assign body =>
        refine ⟨h.1, RoundIn.mono h.2 fun e w'' he => ?_⟩
        cases e with
        | returned u => exact ⟨keep a hy u, by rw [← Act.put_comm a v u h2]; exact he⟩
        | panicked c => exact hQ _ _ _ he
        | outgrown => exact he
    | halt x w' =>
      cases x <;> simp only [Oper.uponIn] at h ⊢
      case panic u => exact hQ _ _ _ h
  · rename_i hw
    simp only [hw] at h
    exact ⟨h.1, keep a hy _, by rw [← Act.put_comm a v undef h2]; exact h.2⟩

theorem getD_set_self {L : Array Bool} {i j : Nat} : (L.setIfInBounds i true).getD j false = true → j = i ∨ L.getD j false = true := by
  intro h
  by_cases hij : i = j
  · exact .inl hij.symm
  · rw [getD_set_ne false hij] at h; exact .inr h

theorem wpAnyG_first (hF : WideF F) {eff : Nat → Bool} {φ : World → Prop} {i : Nat} {oi : Oper} {v : Value} (hi : ops[i]? = some oi) (hsel : ∀ (j : Nat) (o : Oper) cs b, ops[j]? = some o → o.op ≠ .select cs b)
    (hdef : ∀ (j : Nat) (o : Oper) c, ops[j]? = some o → o.op ≠ .defer c) (hei : eff i = false)
    (hQ : ∀ c a w, Q (.panic c) (a.put oi.dst v) w → Q (.panic c) a w) {Fa : Facts} :
    ∀ (fuel : Nat) (L : Array Bool) (a : Act) (w : World), Cl md ops L →
      (∀ j oj, ops[j]? = some oj → j ≠ i → L.getD j true = false → (∀ e ∈ oj.after, Region.binds md e = true → e.on ≠ i) → oi.apart ops oj = true) →
      (∀ j, L.getD j false = true → waits md ops j i = false) →
      i ∈ Region.ready md ops L → YieldsG P ops φ oi v a → φ w → Alive md ops eff Fa L w →
      wpAnyG F n P md ops Q eff ((i, φ) :: Fa) fuel (L.setIfInBounds i true) (a.put oi.dst v) w → wpAnyG F n P md ops Q eff Fa (fuel + 1) L a w := by
  have weaken : ∀ (fuel : Nat) (L : Array Bool) (a : Act) (w : World), wpAnyG F n P md ops Q eff ((i, φ) :: Fa) fuel L a w → wpAnyG F n P md ops Q eff Fa fuel L a w := by
    intro fuel
    induction fuel with
    | zero => intro L a w h; exact h
    | succ fuel ih => intro L a w h; exact ⟨h.1, fun j hj => wpOpIn_mono (fun a' w' h' => ⟨fun p hp => h'.1 p (by simp [hp]), ih _ a' w' h'.2⟩) (h.2 j hj)⟩
  have aliveI : ∀ (L : Array Bool) (w : World), Alive md ops eff Fa L w → Alive md ops eff Fa (L.setIfInBounds i true) w := fun L w h p hp hl => h p hp fun j hj he => by
    refine hl j (getD_set_true hj) he
  intro fuel
  induction fuel with
  | zero =>
    intro L a w hcl _ _ hr hy hφ hal H
    refine ⟨fun h => (by rw [h] at hr; cases hr), fun j hj => ?_⟩
    by_cases hji : j = i
    · subst hji; exact hy.wpOpIn hF hi hφ ⟨aliveI L w hal, H⟩
    · have := ready_mono hj hji
      rw [H.1] at this
      cases this
  | succ fuel ih =>
    intro L a w hcl hfree hnw hr hy hφ hal H
    refine ⟨fun h => (by rw [h] at hr; cases hr), fun j hj => ?_⟩
    by_cases hji : j = i
    · subst hji; exact hy.wpOpIn hF hi hφ ⟨aliveI L w hal, weaken _ _ _ _ H⟩
    · have h1 := H.2 j (ready_mono hj hji)
      obtain ⟨hjun, oj, hoj, hall⟩ := mem_ready.1 hj
      have hnot : ∀ e ∈ oj.after, Region.binds md e = true → e.on ≠ i := fun e he hb heq => by
        have h1 := hall e he hb
        have h0 := (mem_ready.1 hr).1
        rw [heq] at h1
        rcases Nat.lt_or_ge i L.size with h' | h'
        · simp [h'] at h0 h1; rw [h0] at h1; cases h1
        · simp [Array.getElem?_eq_none h'] at h1
      have hwj : waits md ops j i = false := waits_false hcl hoj hall (mem_ready.1 hr).1
      have h2 := wpOpIn_putG hF hoj (hfree j oj hoj hji hjun hnot) (fun c => hdef j oj c hoj) (fun cs b => hsel i oi cs b hi) (fun cs b => hsel j oj cs b hoj) hQ hy h1
      have hfree' : ∀ k ok, ops[k]? = some ok → k ≠ i → (L.setIfInBounds j true).getD k true = false →
          (∀ e ∈ ok.after, Region.binds md e = true → e.on ≠ i) → oi.apart ops ok = true := fun k ok hk hki hun hno => by
        refine hfree k ok hk hki ?_ hno
        by_cases hjk : j = k
        · subst hjk; exact hjun
        · rw [getD_set_ne true hjk] at hun; exact hun
      have hnw' : ∀ k, (L.setIfInBounds j true).getD k false = true → waits md ops k i = false := fun k hk => by
        rcases getD_set_self hk with rfl | h'
        · exact hwj
        · exact hnw k h'
      refine wpOpIn_mono (fun a' w' h3 => ?_) h2
      have hal' : Alive md ops eff Fa (L.setIfInBounds j true) w' := fun p hp hl => h3.2.1 p (by simp [hp]) fun k hk he => by
        rcases getD_set_self hk with rfl | h'
        · exact hl k (by
            obtain ⟨hlt, _⟩ := Array.getElem?_eq_some_iff.1 hoj
            rw [Array.setIfInBounds_comm _ _ (Ne.symm hji)] at hk
            rcases getD_set_self hk with rfl | h''
            · exact absurd rfl hji
            · exact h'') he
        · rcases getD_set_self h' with rfl | h''
          · rw [hei] at he; cases he
          · exact hl k (getD_set_true h'') he
      have hφ' : φ w' := h3.2.1 (i, φ) (by simp) fun k hk _ => by
        rcases getD_set_self hk with rfl | h'
        · exact hwj
        · rcases getD_set_self h' with rfl | h''
          · obtain ⟨hun, o', ho', hall'⟩ := mem_ready.1 hr
            exact waits_false hcl ho' hall' hun
          · exact hnw k h''
      refine ⟨hal', ih (L.setIfInBounds j true) a' w' (cl_set hcl hj) hfree' hnw' (ready_mono hr (Ne.symm hji)) h3.1 hφ' hal' ?_⟩
      rw [Array.setIfInBounds_comm _ _ hji]
      exact h3.2.2
end
end Go.Sx
