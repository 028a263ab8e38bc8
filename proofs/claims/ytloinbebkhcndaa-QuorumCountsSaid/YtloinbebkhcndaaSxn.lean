/- A region whose order is drawn: one plan stands for every order. No condition. -/
import Derived.Test.YtloinbebkhcndaaSxm
set_option linter.all false
namespace Go.Sx
open Go.RowKit
variable {P : Pr}

def setB (L : Array Bool) (i : Nat) : Array Bool := L.setIfInBounds i true
def freeB (ops : Array Oper) (L : Array Bool) (i : Nat) : Bool :=
  match ops[i]? with
  | none => false
  | some oi => (List.range ops.size).all fun j => j == i || L.getD j true || match ops[j]? with
    | none => true
    | some oj => (oj.after.any fun e => Region.binds .any e && e.on == i) || oi.apart ops oj
def heldB (ops : Array Oper) (L : Array Bool) (i : Nat) : Bool := (List.range ops.size).all fun j => !(L.getD j false) || !(waits .any ops j i)
def plainB (ops : Array Oper) : Bool := ops.toList.all fun o => match o.op with
  | .select .. => false
  | .defer _ => false
  | _ => true

/-- The plan goes through every order. -/
def planOk (ops : Array Oper) (es : List Nat) : Plan → Nat → Array Bool → Bool
  | .nil, _, L => (Region.ready .any ops L).isEmpty
  | .q i p, fuel + 1, L => !es.contains i && (Region.ready .any ops L).contains i && freeB ops L i && heldB ops L i && planOk ops es p fuel (setB L i)
  | .e1 i ws p, fuel + 1, L => (ws.all fun k => waits .any ops i k) && es.contains i && (Region.ready .any ops L == [i]) && planOk ops es p fuel (setB L i)
  | .e2 i ws p j ws' p', fuel + 1, L => (ws.all fun k => waits .any ops i k) && (ws'.all fun k => waits .any ops j k) && es.contains i && es.contains j && (Region.ready .any ops L == [i, j]) && planOk ops es p fuel (setB L i) && planOk ops es p' fuel (setB L j)
  | _, 0, _ => false
def effs : Plan → List Nat
  | .nil => []
  | .q _ p => effs p
  | .e1 i _ p => i :: effs p
  | .e2 i _ _ j _ p' => i :: j :: effs p'
def planFit (ops : Array Oper) (p : Plan) : Bool := plainB ops && planOk ops (effs p) p ops.size (Array.replicate ops.size false)

section
variable {F : Fence} {n : Nat} {ops : Array Oper} {tab : Tab}

theorem freeB_spec {L : Array Bool} {i : Nat} {oi : Oper} (hi : ops[i]? = some oi) (h : freeB ops L i = true) (j : Nat) (oj : Oper) (hj : ops[j]? = some oj) (hji : j ≠ i) (hun : L.getD j true = false)
    (hno : ∀ e ∈ oj.after, Region.binds .any e = true → e.on ≠ i) : oi.apart ops oj = true := by
  unfold freeB at h
  rw [hi] at h
  simp only [List.all_eq_true, List.mem_range] at h
  have hlt : j < ops.size := (Array.getElem?_eq_some_iff.1 hj).1
  have h1 := h j hlt
  rw [hj, hun] at h1
  simp only [Bool.or_false, Bool.or_eq_true, beq_iff_eq] at h1
  rcases h1 with h1 | h1 | h1
  · exact absurd h1 hji
  · obtain ⟨e, he, hb⟩ := Array.any_eq_true'.1 h1
    simp only [Bool.and_eq_true, beq_iff_eq] at hb
    exact absurd hb.2 (hno e he hb.1)
  · exact h1

theorem heldB_spec {L : Array Bool} {i : Nat} (h : heldB ops L i = true) (j : Nat) (hj : L.getD j false = true) : waits .any ops j i = false := by
  unfold heldB at h
  simp only [List.all_eq_true, List.mem_range] at h
  rcases Nat.lt_or_ge j ops.size with hlt | hge
  · have := h j hlt
    rw [hj] at this
    simpa using this
  · unfold waits
    rw [Array.getElem?_eq_none (by omega)]

def Track (ops : Array Oper) (es : List Nat) (Fa : Facts) (L : Array Bool) (rd : List (Nat × List Nat)) (ρ : Env) (h : List Chunk) : Prop :=
  ∀ p ∈ Fa, (∃ j, L.getD j false = true ∧ es.contains j = true ∧ waits .any ops j p.1 = true) ∨ (∀ w', p.2 w') ∨
    (∃ ns, (p.1, ns) ∈ rd ∧ ∀ w', (∀ nm ∈ ns, Holds ρ w' nm (lookH h nm)) → p.2 w')

theorem Track.alive {es : List Nat} {Fa : Facts} {L : Array Bool} {rd : List (Nat × List Nat)} {C : Ctx} {ρ : Env} {h : List Chunk} {w : World} (ht : Track ops es Fa L rd ρ h) (hM : Models C ρ h w) :
    Alive .any ops (es.contains ·) Fa L w := fun p hp hl => by
  rcases ht p hp with ⟨j, h1, h2, h3⟩ | h1 | ⟨ns, _, h2⟩
  · rw [hl j h1 h2] at h3; cases h3
  · exact h1 w
  · exact h2 w fun nm _ => lookH_holds hM nm

theorem Track.set {es : List Nat} {Fa : Facts} {L : Array Bool} {rd : List (Nat × List Nat)} {ρ : Env} {h : List Chunk} (ht : Track ops es Fa L rd ρ h) (i : Nat) : Track ops es Fa (setB L i) rd ρ h := fun p hp => by
  rcases ht p hp with ⟨j, h1, h2⟩ | h1
  · exact .inl ⟨j, getD_set_true h1, h2⟩
  · exact .inr h1

theorem same1_mem {h h' : List Chunk} : ∀ {ns : List Nat}, same1 h h' ns → ∀ nm ∈ ns, lookH h' nm = lookH h nm
  | [], _, _, hm => by cases hm
  | x :: ns, hs, nm, hm => by
    simp only [same1] at hs
    rcases List.mem_cons.1 hm with rfl | hm'
    · exact hs.1
    · exact same1_mem hs.2 nm hm'
theorem inL_mem : ∀ {ws : List Nat} {k : Nat}, inL ws k = true → k ∈ ws
  | [], _, h => by simp [inL] at h
  | x :: ws, k, h => by
    simp only [inL] at h
    split at h
    · rename_i hx; subst hx; exact List.mem_cons_self ..
    · exact List.mem_cons_of_mem _ (inL_mem h)
theorem stays_mem {ws : List Nat} {h h' : List Chunk} : ∀ {rd : List (Nat × List Nat)} {k : Nat} {ns : List Nat}, stays ws h h' rd → (k, ns) ∈ rd → k ∈ ws ∨ ∀ nm ∈ ns, lookH h' nm = lookH h nm
  | [], _, _, _, hm => by cases hm
  | (k', []) :: rd, k, ns, hs, hm => by
    simp only [stays] at hs
    rcases List.mem_cons.1 hm with heq | hm'
    · obtain ⟨rfl, rfl⟩ := Prod.mk.inj heq
      exact .inr fun nm hnm => by cases hnm
    · exact stays_mem hs hm'
  | (k', n1 :: ns') :: rd, k, ns, hs, hm => by
    simp only [stays] at hs
    rcases List.mem_cons.1 hm with heq | hm'
    · obtain ⟨rfl, rfl⟩ := Prod.mk.inj heq
      cases hw : inL ws k with
      | true => exact .inl (inL_mem hw)
      | false => rw [hw] at hs; exact .inr (same1_mem hs.1)
    · exact stays_mem hs.2 hm'

theorem Track.eff {es : List Nat} {Fa : Facts} {L : Array Bool} {rd : List (Nat × List Nat)} {C : Ctx} {ρ ρ' : Env} {h h' : List Chunk} {w : World} (ht : Track ops es Fa L rd ρ h) (hM : Models C ρ h w) (ha : Agree h.length ρ ρ')
    {i : Nat} {ws : List Nat} (hws : (ws.all fun k => waits .any ops i k) = true) (hi : i < L.size) (hei : es.contains i = true) (hs : stays ws h h' rd) : Track ops es Fa (setB L i) rd ρ' h' := fun p hp => by
  rcases ht p hp with ⟨j, h1, h2⟩ | h1 | ⟨ns, h1, h2⟩
  · exact .inl ⟨j, getD_set_true h1, h2⟩
  · exact .inr (.inl h1)
  · rcases stays_mem hs h1 with h3 | h3
    · refine .inl ⟨i, ?_, hei, List.all_eq_true.1 hws _ h3⟩
      simp [setB, hi]
    · refine .inr (.inr ⟨ns, h1, fun w' hw => h2 w' fun nm hnm => ?_⟩)
      have h4 := hw nm hnm
      rw [h3 nm hnm] at h4
      have hg := lookH_good hM nm
      cases hc : lookH h nm with
      | none => trivial
      | _ =>
        rw [← hc]
        have hlt : nm < h.length := get_lt (lookH_some rfl (by rw [hc]; simp))
        exact holds_agree (n := h.length) (fun k hk => (ha k hk).symm) hlt hg h4

variable {C : Ctx} {d : List Deferred} {K : Tok → Slots → List Chunk → Prop} {Q : Exit → Act → World → Prop}

/-- One operation that may turn something, in a drawn region. -/
theorem rp_eff (hF : WideF F) (hT : tab.Ok P) (hkn : P.know C.w0 C.X) {es : List Nat} {i : Nat} {o : Oper} (ho : ops[i]? = some o) {Fa : Facts} {L : Array Bool} (hL : L.size = ops.size) {ws : List Nat} (hws : (ws.all fun k => waits .any ops i k) = true) (hei : es.contains i = true)
    {rd : List (Nat × List Nat)} {t : Slots} {h : List Chunk} {ρ : Env} {w : World} {K1 : Tok → Slots → List Chunk → Prop} {N : Act → World → Prop}
    (hg : gd ops t o.guard (fun t => opP P tab t h o.op fun k v h' => stays ws h h' rd ∧ K1 k (putO t o.dst v) h') (fun t => K1 .mk (putO t o.dst (.tup [])) h))
    (hM : Models C ρ h w) (hok : okS h.length t) (ht : Track ops es Fa L rd ρ h)
    (hN : ∀ ρ' t' h' w', K1 .mk t' h' → Models C ρ' h' w' → okS h'.length t' → Track ops es Fa (setB L i) rd ρ' h' → N (act ρ' ⟨t', h', d⟩) w') :
    wpOpIn F n P ops Q i N (act ρ ⟨t, h, d⟩) w := by
  unfold wpOpIn
  simp only [ho]
  have hlt : i < L.size := by rw [hL]; exact (Array.getElem?_eq_some_iff.1 ho).1
  refine gd_run (ρ := ρ) (st := ⟨t, h, d⟩) hg hok ?_ ?_
  · intro t' hy he hok' hw
    rw [if_pos hw]
    have e : act ρ ⟨t, h, d⟩ = act ρ ⟨t', h, d⟩ := by simp only [act, he]
    rw [e]
    refine opP_run (st := ⟨t', h, d⟩) hF hT hkn hy hM hok' ?_
    intro ρ' sv h' w' hK hM' ha hs hl
    exact hN ρ' _ h' w' hK.2 hM' (okS_putO (okS_mono hl hok') hs) (ht.eff hM ha hws hlt hei hK.1)
  · intro t' hno he hok' hw
    rw [if_neg (by rw [hw]; simp)]
    have e : act ρ ⟨t, h, d⟩ = act ρ ⟨t', h, d⟩ := by simp only [act, he]
    rw [e, show (undef : Value) = den ρ (.tup []) from rfl, act_put]
    exact ⟨fun f _ => hF.fn f, hN ρ _ h w hno hM (okS_putO hok' trivial) (ht.set i)⟩

theorem rp_run (hF : WideF F) (hT : tab.Ok P) (hkn : P.know C.w0 C.X) (hP : plainB ops = true) {es : List Nat}
    (hQ : ∀ ρ t h w, K .mk t h → Models C ρ h w → okS h.length t → Q .normal (act ρ ⟨t, h, d⟩) w) (hQp : ∀ c a w, ¬ Q (.panic c) a w) :
    ∀ (p : Plan) (fuel : Nat) (L : Array Bool) (rd : List (Nat × List Nat)) (t : Slots) (h : List Chunk) (Fa : Facts) (ρ : Env) (w : World), Cl .any ops L → L.size = ops.size → planOk ops es p fuel L = true → rp .mk P tab ops p rd t h K →
      Models C ρ h w → okS h.length t → Track ops es Fa L rd ρ h → wpAnyG F n P .any ops Q (es.contains ·) Fa fuel L (act ρ ⟨t, h, d⟩) w := by
  have hsel : ∀ (j : Nat) (o : Oper) cs b, ops[j]? = some o → o.op ≠ .select cs b := fun j o cs b hj hx => by
    have := List.all_eq_true.1 hP o (by simpa using Array.mem_of_getElem? hj)
    rw [hx] at this
    cases this
  have hdef : ∀ (j : Nat) (o : Oper) c, ops[j]? = some o → o.op ≠ .defer c := fun j o c hj hx => by
    have := List.all_eq_true.1 hP o (by simpa using Array.mem_of_getElem? hj)
    rw [hx] at this
    cases this
  intro p
  induction p with
  | nil =>
    intro fuel L rd t h Fa ρ w hcl hL hp hr hM hok ht
    have hre : Region.ready .any ops L = [] := by
      cases fuel <;> simpa [planOk] using hp
    have hq := hQ ρ t h w hr hM hok
    cases fuel with
    | zero => exact ⟨hre, hq⟩
    | succ fuel => exact ⟨fun _ => hq, fun i hi => by rw [hre] at hi; cases hi⟩
  | q i p ih =>
    intro fuel L rd t h Fa ρ w hcl hL hp hr hM hok ht
    cases fuel with
    | zero => simp [planOk] at hp
    | succ fuel =>
      simp only [planOk, Bool.and_eq_true, Bool.not_eq_true'] at hp
      obtain ⟨⟨⟨⟨h1, h2⟩, h3⟩, h4⟩, h5⟩ := hp
      simp only [rp] at hr
      split at hr
      · rename_i o ho
        have hready : i ∈ Region.ready .any ops L := by simpa using h2
        refine gd_run (ρ := ρ) (st := ⟨t, h, d⟩) hr hok ?_ ?_
        · intro t' hy he hok' hw
          have e : act ρ ⟨t, h, d⟩ = act ρ ⟨t', h, d⟩ := by simp only [act, he]
          rw [e] at hw ⊢
          split at hy
          · rename_i c v hq
            have hyl : YieldsG P ops (fun w' => ∀ nm ∈ qn t' o.op, Holds ρ w' nm (lookH h nm)) o (den ρ v) (act ρ ⟨t', h, d⟩) :=
              ⟨fun c => hdef i o c ho, .inl ⟨hw, fun w' hw' => (qv_run hT (st := ⟨t', h, d⟩) hq hy.1 ρ hok' w' hw' (lookH_good hM)).1⟩⟩
            refine wpAnyG_first hF ho hsel hdef h1 (fun c a w hx => absurd hx (hQp _ _ _)) fuel L _ w hcl (fun j oj hj hji hun hno => freeB_spec ho h3 j oj hj hji hun hno) (heldB_spec h4) hready hyl (fun nm _ => lookH_holds hM nm) (ht.alive hM) ?_
            rw [act_put]
            refine ih fuel (setB L i) _ _ h _ ρ w (cl_set hcl hready) (by simp [setB, hL]) h5 hy.2 hM (okS_putO hok' (qv_run hT (st := ⟨t', h, d⟩) hq hy.1 ρ hok' w (fun nm _ => lookH_holds hM nm) (lookH_good hM)).2) ?_
            intro q hq'
            rcases List.mem_cons.1 hq' with rfl | hq'
            · exact .inr (.inr ⟨_, List.mem_cons_self .., fun _ hx => hx⟩)
            · rcases ht q hq' with ⟨j, g1, g2⟩ | g1 | ⟨ns, g1, g2⟩
              · exact .inl ⟨j, getD_set_true g1, g2⟩
              · exact .inr (.inl g1)
              · exact .inr (.inr ⟨ns, List.mem_cons_of_mem _ g1, g2⟩)
          · exact hy.elim
        · intro t' hno he hok' hw
          have e : act ρ ⟨t, h, d⟩ = act ρ ⟨t', h, d⟩ := by simp only [act, he]
          rw [e] at hw ⊢
          have hyl : YieldsG P ops (fun _ => True) o undef (act ρ ⟨t', h, d⟩) := ⟨fun c => hdef i o c ho, .inr ⟨hw, rfl⟩⟩
          refine wpAnyG_first hF ho hsel hdef h1 (fun c a w hx => absurd hx (hQp _ _ _)) fuel L _ w hcl (fun j oj hj hji hun hno => freeB_spec ho h3 j oj hj hji hun hno) (heldB_spec h4) hready hyl trivial (ht.alive hM) ?_
          rw [show (undef : Value) = den ρ (.tup []) from rfl, act_put]
          refine ih fuel (setB L i) _ _ h _ ρ w (cl_set hcl hready) (by simp [setB, hL]) h5 hno hM (okS_putO hok' trivial) ?_
          intro q hq'
          rcases List.mem_cons.1 hq' with rfl | hq'
          · exact .inr (.inl fun _ => trivial)
          · exact ht.set i q hq'
      · exact hr.elim
  | e1 i ws p ih =>
    intro fuel L rd t h Fa ρ w hcl hL hp hr hM hok ht
    cases fuel with
    | zero => simp [planOk] at hp
    | succ fuel =>
      simp only [planOk, Bool.and_eq_true, beq_iff_eq] at hp
      obtain ⟨⟨⟨h0, h1⟩, h2⟩, h5⟩ := hp
      simp only [rp] at hr
      split at hr
      · rename_i o ho
        refine ⟨fun hx => by (rw [h2] at hx; cases hx), fun j hj => ?_⟩
        have hcl' := cl_set hcl hj
        rw [h2, List.mem_singleton] at hj
        subst hj
        refine rp_eff (K1 := fun k t h => rp k P tab ops p rd t h K) hF hT hkn ho hL h0 h1 hr hM hok ht ?_
        intro ρ' t' h' w' hk hM' hok' ht'
        exact ⟨ht'.alive hM', ih fuel (setB L j) rd t' h' Fa ρ' w' hcl' (by simp [setB, hL]) h5 hk hM' hok' ht'⟩
      · exact hr.elim
  | e2 i ws p j ws' p' ih ih' =>
    intro fuel L rd t h Fa ρ w hcl hL hp hr hM hok ht
    cases fuel with
    | zero => simp [planOk] at hp
    | succ fuel =>
      simp only [planOk, Bool.and_eq_true, beq_iff_eq] at hp
      obtain ⟨⟨⟨⟨⟨⟨h0, h0'⟩, h1⟩, h1'⟩, h2⟩, h5⟩, h5'⟩ := hp
      simp only [rp] at hr
      obtain ⟨hr, hr'⟩ := hr
      refine ⟨fun hx => by (rw [h2] at hx; cases hx), fun k hk => ?_⟩
      have hcl' := cl_set hcl hk
      rw [h2] at hk
      simp only [List.mem_cons, List.not_mem_nil, or_false] at hk
      rcases hk with rfl | rfl
      · split at hr
        · rename_i o ho
          refine rp_eff (K1 := fun k t h => rp k P tab ops p rd t h K) hF hT hkn ho hL h0 h1 hr hM hok ht ?_
          intro ρ' t' h' w' hk hM' hok' ht'
          exact ⟨ht'.alive hM', ih fuel _ rd t' h' Fa ρ' w' hcl' (by simp [setB, hL]) h5 hk hM' hok' ht'⟩
        · exact hr.elim
      · split at hr'
        · rename_i o ho
          refine rp_eff (K1 := fun k t h => rp k P tab ops p' rd t h K) hF hT hkn ho hL h0' h1' hr' hM hok ht ?_
          intro ρ' t' h' w' hk hM' hok' ht'
          exact ⟨ht'.alive hM', ih' fuel _ rd t' h' Fa ρ' w' hcl' (by simp [setB, hL]) h5' hk hM' hok' ht'⟩
        · exact hr'.elim
end
end Go.Sx
