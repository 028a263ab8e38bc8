/- Walks between whose steps another's rounds run (the body of an iterator; a loop over one). No condition. -/
import Derived.Test.YtloinbebkhcndaaSxt
import Derived.RangeFuncSeq
import Derived.RangeFuncCalls
set_option linter.all false
namespace Go.Sx
open Go.RowKit
variable {P : Pr}

/-- How far a client's rounds are. -/
inductive Gh where
  | run (i : Nat)
  | stop (i : Nat)
abbrev Inv := Gh → World → (Nat → Prop) → Prop

def grow (Y : Nat → Prop) (w w' : World) (b : Nat) : Prop := Y b ∨ (w.heap.size ≤ b ∧ b < w'.heap.size)

/-- What a client says of its memory (Y: the new part of it) is not minded by steps beside it. -/
structure Client (X : Nat → Prop) (s0 : Nat) (J : Inv) : Prop where
  stable : ∀ {g : Gh} {w w' : World} {Y Z : Nat → Prop}, J g w Y → Keep Z w w' → (∀ b, Z b → (X b ∨ s0 ≤ b) ∧ ¬ Y b) → J g w' Y
  mono : ∀ {g : Gh} {w : World} {Y Y' : Nat → Prop}, J g w Y → (∀ b, Y b → Y' b) → J g w Y'

/-- A round of the client's. -/
def YieldsTo (P : Program) (l : Nat) (J : Inv) (V : Nat → Prop) (s0 n : Nat) (xs : Nat → Value) : Prop :=
  ∀ (i : Nat) (w : World) (Y : Nat → Prop) (F : Fence) (k : Nat), WideF F → i < n → s0 ≤ w.heap.size → (∀ b, Y b → s0 ≤ b ∧ b < w.heap.size) → J (.run i) w Y →
    YieldAt F k P l #[xs i] w fun e w' => Keep (fun b => Y b ∨ V b) w w' ∧ ((e = .returned (.bool true) ∧ J (.run (i + 1)) w' (grow Y w w')) ∨ (e = .returned (.bool false) ∧ J (.stop (i + 1)) w' (grow Y w w')))

/-- A function that turns nothing: what it gives here. -/
def PureAt (P : Program) (B : Nat → Prop) (fv : Value) (a : List Value) (r : Value) (w0 : World) : Prop :=
  ∃ f cap, fv = .func (.func f) #[] cap ∧ (∀ args w, (callFunc f args).run P w = .ok (.enter f args) w) ∧ (∀ b, B b → b < w0.heap.size) ∧
    ∀ (F : Fence) (m : Nat) (w : World), WideF F → F.round = none → w0.heap.size ≤ w.heap.size → (∀ b, B b → w.heap[b]? = w0.heap[b]?) →
      CallsIn F m P f (a.toArray ++ cap) w fun e w' => e = .returned r ∧ Keep (fun _ => False) w w'

/-- What a body is told of its client. -/
structure Sq where
  l : Nat
  n : Nat
  xs : Nat → Value
  A : Nat → Bool
  fv : Value
  fx : List SV → Option SV

structure Ghost where
  C : Ctx
  V : Nat → Prop
  J : Inv
  s : Sq

structure Ghost.Ok (P : Pr) (G : Ghost) : Prop where
  cl : Client G.C.X G.C.w0.heap.size G.J
  yl : YieldsTo P.p G.s.l G.J G.V G.C.w0.heap.size G.s.n G.s.xs
  v : ∀ b, G.V b → b < G.C.w0.heap.size ∧ ¬ G.C.X b
  a : ∀ k, G.s.A k = true → k < G.C.n0 ∧ ((G.C.ρ0 k).nil = false → (G.C.ρ0 k).b < G.C.w0.heap.size ∧ ¬ G.V (G.C.ρ0 k).b)
  kn : P.know G.C.w0 fun b => G.C.X b ∨ G.V b
  fx : ∀ args r, G.s.fx args = some r → ok 0 r ∧ ∀ ρ w X, P.know w X → ∃ B, (∀ b, B b → ¬ X b) ∧ PureAt P.p B G.s.fv (denL ρ args) (den ρ r) w

structure MG (G : Ghost) (Ob : List (Nat × Obj)) (Y : Nat → Prop) (g : Gh) (ρ : Env) (H : List Chunk) (w : World) : Prop where
  m : Models ⟨G.C.w0, fun b => G.C.X b ∨ G.V b, G.C.ρ0, G.C.n0⟩ ρ H w
  own : ∀ k c, H[k]? = some c → RealW ρ k c → G.C.X (ρ k).b ∨ G.C.w0.heap.size ≤ (ρ k).b
  ny : ∀ k c, H[k]? = some c → RealW ρ k c → ¬ Y (ρ k).b
  no : ∀ k c, H[k]? = some c → RealW ρ k c → ∀ p ∈ Ob, (ρ k).b ≠ p.1
  ob : ∀ p ∈ Ob, w.heap[p.1]? = some p.2 ∧ ¬ G.V p.1 ∧ ¬ Y p.1
  yb : ∀ b, Y b → G.C.w0.heap.size ≤ b ∧ b < w.heap.size
  j : G.J g w Y

theorem heap_lt {w : World} {b : Nat} {o : Obj} (h : w.heap[b]? = some o) : b < w.heap.size := (Array.getElem?_eq_some_iff.1 h).1

/-- A step in which no round comes. -/
theorem MG.step {G : Ghost} {Ob : List (Nat × Obj)} {Y : Nat → Prop} {g : Gh} {ρ : Env} {H : List Chunk} {w : World} (hG : G.Ok P) (h : MG G Ob Y g ρ H w) :
    ∃ X, P.know w X ∧ (∀ b, X b → (G.C.X b ∨ G.C.w0.heap.size ≤ b) ∧ ¬ Y b) ∧ Models ⟨w, X, G.C.ρ0, G.C.n0⟩ ρ H w ∧ ∀ ρ' H' w', Models ⟨w, X, G.C.ρ0, G.C.n0⟩ ρ' H' w' → MG G Ob Y g ρ' H' w' := by
  refine ⟨fun b => (G.C.X b ∨ G.C.w0.heap.size ≤ b) ∧ ¬ Y b ∧ ∀ p ∈ Ob, b ≠ p.1, ?_, fun b hb => ⟨hb.1, hb.2.1⟩, ?_, ?_⟩
  · exact P.keep hG.kn h.m.keep fun b hb => hb.1.elim (fun h => .inl (.inl h)) .inr
  · exact ⟨Keep.refl _ _, h.m.agree, h.m.len, h.m.holds, h.m.okc, h.m.size, fun k c hc hr => .inl ⟨h.own k c hc hr, h.ny k c hc hr, h.no k c hc hr⟩, h.m.sep⟩
  · intro ρ' H' w' hm
    refine ⟨⟨?_, hm.agree, hm.len, hm.holds, hm.okc, hm.size, ?_, hm.sep⟩, ?_, ?_, ?_, ?_, ?_, ?_⟩
    · exact h.m.keep.step hm.keep fun b hb => hb.1.elim (fun h => .inl (.inl h)) .inr
    · intro k c hc hr
      rcases hm.wr k c hc hr with hb | hb
      · exact hb.1.elim (fun h => .inl (.inl h)) .inr
      · exact .inr (Nat.le_trans h.m.keep.size hb)
    · intro k c hc hr
      rcases hm.wr k c hc hr with hb | hb
      · exact hb.1
      · exact .inr (Nat.le_trans h.m.keep.size hb)
    · intro k c hc hr hy
      rcases hm.wr k c hc hr with hb | hb
      · exact hb.2.1 hy
      · have := (h.yb _ hy).2
        simp only at hb
        omega
    · intro k c hc hr p hp
      rcases hm.wr k c hc hr with hb | hb
      · exact hb.2.2 p hp
      · have := heap_lt (h.ob p hp).1
        simp only at hb
        omega
    · intro p hp
      obtain ⟨h1, h2, h3⟩ := h.ob p hp
      exact ⟨(hm.keep.block p.1 (heap_lt h1) fun hx => hx.2.2 p hp rfl).trans h1, h2, h3⟩
    · intro b hb
      exact ⟨(h.yb b hb).1, Nat.lt_of_lt_of_le (h.yb b hb).2 hm.keep.size⟩
    · exact hG.cl.stable h.j hm.keep fun b hb => ⟨hb.1, hb.2.1⟩

def roA (A : Nat → Bool) : Nat → List Chunk → Prop
  | _, [] => True
  | k, c :: r => (c.wr = true ∨ c.live = false ∨ A k = true) ∧ roA A (k + 1) r
theorem roA_spec {A : Nat → Bool} : ∀ {H : List Chunk} {k0 k : Nat} {c : Chunk}, roA A k0 H → H[k]? = some c → c.wr = true ∨ c.live = false ∨ A (k0 + k) = true
  | [], _, k, c, _, hc => by simp at hc
  | c0 :: H, k0, 0, c, h, hc => by simp at hc; subst hc; exact h.1
  | c0 :: H, k0, k + 1, c, h, hc => by
    have := roA_spec (k := k) h.2 (by simpa using hc)
    rwa [show k0 + 1 + k = k0 + (k + 1) by omega] at this

/-- The memory of each name lies outside what a round may turn. -/
theorem MG.away {G : Ghost} {Ob : List (Nat × Obj)} {Y : Nat → Prop} {g : Gh} {ρ : Env} {H : List Chunk} {w : World} (hG : G.Ok P) (h : MG G Ob Y g ρ H w) (hr : roA G.s.A 0 H) {k : Nat} {c : Chunk} (hc : H[k]? = some c) (hR : Real ρ k c) :
    ¬ Y (ρ k).b ∧ ¬ G.V (ρ k).b := by
  rcases roA_spec hr hc with hw | hl | ha
  · refine ⟨h.ny k c hc ⟨hw, hR.2⟩, fun hv => ?_⟩
    rcases h.own k c hc ⟨hw, hR.2⟩ with ho | ho
    · exact (hG.v _ hv).2 ho
    · have := (hG.v _ hv).1; omega
  · rw [hR.1] at hl; cases hl
  · rw [Nat.zero_add] at ha
    have h1 := hG.a k ha
    have he := h.m.agree k h1.1
    simp only at he
    have h2 := h1.2 (by rw [← he]; exact hR.2)
    rw [← he] at h2
    exact ⟨fun hy => (by have := (h.yb _ hy).1; omega), h2.2⟩

/-- Behind a round. -/
theorem MG.round {G : Ghost} {Ob : List (Nat × Obj)} {Y : Nat → Prop} {g g' : Gh} {ρ : Env} {H : List Chunk} {w w' : World} (hG : G.Ok P) (h : MG G Ob Y g ρ H w) (hr : roA G.s.A 0 H)
    (hk : Keep (fun b => Y b ∨ G.V b) w w') (hj : G.J g' w' (grow Y w w')) : MG G Ob (grow Y w w') g' ρ H w' := by
  refine ⟨⟨?_, h.m.agree, h.m.len, ?_, h.m.okc, ?_, h.m.wr, h.m.sep⟩, h.own, ?_, h.no, ?_, ?_, hj⟩
  · exact h.m.keep.step hk fun b hb => hb.elim (fun hy => .inr (h.yb b hy).1) fun hv => .inl (.inr hv)
  · intro k c hc
    by_cases hl : c.live = true
    · refine holds_block (fun hn => ?_) (h.m.holds k c hc)
      have := h.away hG hr hc ⟨hl, hn⟩
      exact hk.block _ (h.m.size k c hc ⟨hl, hn⟩) fun hx => hx.elim this.1 this.2
    · cases c <;> simp [Chunk.live] at hl
      trivial
  · exact fun k c hc hR => Nat.lt_of_lt_of_le (h.m.size k c hc hR) hk.size
  · intro k c hc hR hy
    rcases hy with hy | hy
    · exact h.ny k c hc hR hy
    · have := h.m.size k c hc hR.real; omega
  · intro p hp
    obtain ⟨h1, h2, h3⟩ := h.ob p hp
    refine ⟨(hk.block p.1 (heap_lt h1) fun hx => hx.elim h3 h2).trans h1, h2, fun hy => ?_⟩
    rcases hy with hy | hy
    · exact h3 hy
    · have := heap_lt h1; omega
  · intro b hb
    rcases hb with hb | hb
    · exact ⟨(h.yb b hb).1, Nat.lt_of_lt_of_le (h.yb b hb).2 hk.size⟩
    · exact ⟨Nat.le_trans h.m.keep.size hb.1, hb.2⟩

def mark (D : Nat) : Deferred := { target := .collected D, args := #[] }
def actY (ρ : Env) (t : Slots) (Ds : List Nat) : Act := ⟨(tmpsD ρ t).toArray, Ds.map mark⟩
theorem act_actY (ρ : Env) (t : Slots) (h : List Chunk) (Ds : List Nat) : act ρ ⟨t, h, Ds.map mark⟩ = actY ρ t Ds := rfl

/-- One operation. -/
def opY (P : Pr) (tab : Tab) (S : Sq) (g : Gh) (t : Slots) (h : List Chunk) (o : Op) (K : Tok → Gh → SV → List Chunk → Prop) : Prop :=
  match o with
  | .call ⟨.value gop, ⟨args⟩, tys⟩ => match ev t gop with
    | .v (.func (.yield l) first cap) => match args with
      | [a] => match g with
        | .run i => (l = S.l ∧ first = #[] ∧ cap = #[] ∧ i < S.n ∧ (∀ ρ, den ρ (ev t a) = S.xs i) ∧ roA S.A 0 h) ∧ K .mk (.run (i + 1)) (.bool true) h ∧ K .mk (.stop (i + 1)) (.bool false) h
        | .stop _ => False
      | _ => False
    | .v (.func (.func f) first cap) => match S.fx (args.map (ev t)) with
      | some r => S.fv = .func (.func f) first cap ∧ K .mk g r h
      | none => False
    | _ => opP P tab t h (.call ⟨.value gop, ⟨args⟩, tys⟩) fun k v h' => K k g v h'
  | o => opP P tab t h o fun k v h' => K k g v h'

def OnwardY (G : Ghost) (Ob : List (Nat × Obj)) (Ds : List Nat) (ρ : Env) (t : Slots) (h : List Chunk) (dst : Option Nat) (K : Gh → SV → List Chunk → Prop) (next : Act → World → Prop) : Prop :=
  ∀ g' Y' ρ' sv h' w', K g' sv h' → MG G Ob Y' g' ρ' h' w' → Agree h.length ρ ρ' → ok h'.length sv → h.length ≤ h'.length → next (actY ρ' (putO t dst sv) Ds) w'

section
variable {F : Fence} {n : Nat} {ops : Array Oper} {tab : Tab} {G : Ghost} {Ob : List (Nat × Obj)} {Ds : List Nat}

theorem opP_runY {Y : Nat → Prop} {g : Gh} {ρ : Env} {t : Slots} {h : List Chunk} {o : Oper} {w : World} {K : Tok → Gh → SV → List Chunk → Prop} {next : Act → World → Prop} {Q : Exit → Act → World → Prop}
    (hF : WideF F) (hT : tab.Ok P) (hG : G.Ok P) (hM : MG G Ob Y g ρ h w) (hok : okS h.length t) (hn : OnwardY G Ob Ds ρ t h o.dst (K .mk) next)
    (ho : opP P tab t h o.op fun k v h' => K k g v h') : o.wpIn F n P (actY ρ t Ds) w next Q := by
  obtain ⟨X, hk, _, hm, back⟩ := hM.step hG
  exact opP_run (st := ⟨t, h, Ds.map mark⟩) (C := ⟨w, X, G.C.ρ0, G.C.n0⟩) hF hT hk ho hm hok fun ρ' sv h' w' hK hM' ha hs hl => hn g Y ρ' sv h' w' hK (back ρ' h' w' hM') ha hs hl

theorem opY_run {Y : Nat → Prop} {g : Gh} {ρ : Env} {t : Slots} {h : List Chunk} {o : Oper} {w : World} {K : Tok → Gh → SV → List Chunk → Prop} {next : Act → World → Prop} {Q : Exit → Act → World → Prop}
    (hF : WideF F) (hT : tab.Ok P) (hG : G.Ok P) (ho : opY P tab G.s g t h o.op K) (hM : MG G Ob Y g ρ h w) (hok : okS h.length t) (hn : OnwardY G Ob Ds ρ t h o.dst (K .mk) next) :
    o.wpIn F n P (actY ρ t Ds) w next Q := by
  unfold opY at ho
  split at ho
  · rename_i op gop args tys hop
    split at ho
    · rename_i l first cap hg
      split at ho
      · rename_i a
        split at ho
        · rename_i i
          obtain ⟨⟨rfl, rfl, rfl, hi, hx, hra⟩, h1, h2⟩ := ho
          obtain ⟨fn, tmps, assign, body, hy, hR⟩ := hG.yl i w Y F (n - 1) hF hi hM.m.keep.size hM.yb hM.j
          refine ⟨fun f _ => hF.fn f, ?_⟩
          rw [Oper.semAt_eq F.round _ o (by simp [hop])]
          have hrun : (execOp (actY ρ t Ds).eval o).run P w = (Instr.yield G.s.l #[G.s.xs i]).run P w := by
            rw [← act_actY ρ t h Ds]
            unfold execOp
            simp only [hop, resolve, act_eval ρ ⟨t, h, Ds.map mark⟩ hok, hg, den, Deferred.ofValue, Sem.run_bind, Sem.run_pure, Result.andThen_ok, invoke]
            simp [act_eval ρ ⟨t, h, Ds.map mark⟩ hok, hx]
          rw [hrun, hy]
          simp only [Oper.uponIn]
          refine ⟨fun hd => absurd hd (by rw [hF.depth]; simp), RoundIn.mono hR ?_⟩
          rintro e w' ⟨hk, ⟨rfl, hj⟩ | ⟨rfl, hj⟩⟩
          · simp only
            have hm := hM.round hG hra hk hj
            have := hn _ _ ρ (.bool true) h w' h1 hm (fun _ _ => rfl) trivial (Nat.le_refl _)
            rw [← act_actY ρ t h Ds, show (Value.bool true) = den ρ (.bool true) from rfl, act_put]
            exact this
          · simp only
            have hm := hM.round hG hra hk hj
            have := hn _ _ ρ (.bool false) h w' h2 hm (fun _ _ => rfl) trivial (Nat.le_refl _)
            rw [← act_actY ρ t h Ds, show (Value.bool false) = den ρ (.bool false) from rfl, act_put]
            exact this
        · exact ho.elim
      · exact ho.elim
    · rename_i f first cap hg
      split at ho
      · rename_i r hr
        obtain ⟨hfv, hK⟩ := ho
        obtain ⟨X, hk, hX, hm, back⟩ := hM.step hG
        obtain ⟨hok0, hpure⟩ := hG.fx _ _ hr
        obtain ⟨B, hB, f', cap', hv, he, hBs, hc⟩ := hpure ρ w X hk
        rw [hfv] at hv
        obtain ⟨rfl, rfl, rfl⟩ : f = f' ∧ first = #[] ∧ cap = cap' := by
          simp only [Value.func.injEq, Fn.func.injEq] at hv
          exact hv
        refine ⟨fun f _ => hF.fn f, ?_⟩
        rw [Oper.semAt_eq F.round _ o (by simp [hop])]
        have hrun : (execOp (actY ρ t Ds).eval o).run P w = (callFunc f ((denL ρ (args.map (ev t))).toArray ++ cap)).run P w := by
          rw [← act_actY ρ t h Ds]
          unfold execOp
          simp only [hop, resolve, act_eval ρ ⟨t, h, Ds.map mark⟩ hok, hg, den, Deferred.ofValue, Sem.run_bind, Sem.run_pure, Result.andThen_ok, invoke]
          congr 2
          have := denL_map_ev ρ ⟨t, h, Ds.map mark⟩ hok args
          simp only at this
          rw [this]
          apply Array.ext'
          simp
        rw [hrun, he]
        simp only [Oper.uponIn]
        refine ⟨fun hd => absurd hd (by rw [hF.depth]; simp), ?_⟩
        have h2 := hc { F with round := none } (n - 1) w ⟨hF.fn, hF.depth⟩ rfl (Nat.le_refl _) (fun _ _ => rfl)
        refine CallsIn.mono (F := F) h2 ?_
        rintro e w' ⟨rfl, hkeep⟩
        simp only
        have := hn _ _ ρ r h w' hK (back ρ h w' (hm.same hkeep)) (fun _ _ => rfl) (ok_mono (Nat.zero_le _) _ hok0) (Nat.le_refl _)
        rw [← act_actY ρ t h Ds, act_put]
        exact this
      · exact ho.elim
    · refine opP_runY hF hT hG hM hok hn ?_
      rw [hop]
      exact ho
  · refine opP_runY hF hT hG hM hok hn ho
end
end Go.Sx
