/- Code between whose steps another's rounds run. No condition. -/
import Derived.Test.YtloinbebkhcndaaSxz
set_option linter.all false
namespace Go.Sx
open Go.RowKit
variable {P : Pr}

def RoundOk (F : Fence) (Ob : List (Nat × Obj)) : Prop := ∀ l0, F.round = some l0 → ∃ r, (l0, Obj.loop r) ∈ Ob
def Marked (s0 : Nat) (Ds : List Nat) (Ob : List (Nat × Obj)) : Prop := Ds.Nodup ∧ ∀ D ∈ Ds, (D, Obj.deferred (some [])) ∈ Ob ∧ s0 ≤ D

def QY (G : Ghost) (Ob : List (Nat × Obj)) (N : Gh → Slots → List Chunk → Prop) (E : Gh → Exit → Slots → List Chunk → Prop) (e : Exit) (a : Act) (w : World) : Prop :=
  ∃ g Y Ob' Ds ρ t h, (match e with | .normal => N g t h | e => E g e t h) ∧ MG G Ob' Y g ρ h w ∧ okS h.length t ∧ (∀ p ∈ Ob, p ∈ Ob') ∧ Marked G.C.w0.heap.size Ds Ob' ∧ a = actY ρ t Ds

def codeY (P : Pr) (nf : Nat) (S : Sq) (c : Code) (g : Gh) (t : Slots) (h : List Chunk) (N : Gh → Slots → List Chunk → Prop) (E : Gh → Exit → Slots → List Chunk → Prop) : Prop :=
  ∀ (G : Ghost) (Ob : List (Nat × Obj)) (Y : Nat → Prop) (Ds : List Nat) (ρ : Env) (w : World) (F : Fence) (m : Nat), G.Ok P → G.s = S → G.C.n0 ≤ nf → WideF F → RoundOk F Ob → MG G Ob Y g ρ h w → okS h.length t → Marked G.C.w0.heap.size Ds Ob →
    c.wpIn F m P.p (QY G Ob N E) (actY ρ t Ds) w

def rnY (k : Tok) (P : Pr) (tab : Tab) (S : Sq) (ops : Array Oper) : List Oper → Gh → Slots → List Chunk → (Tok → Gh → Slots → List Chunk → Prop) → Prop
  | [], g, t, h, K => K .mk g t h
  | o :: r, g, t, h, K => gd ops t o.guard (fun t => opY P tab S g t h o.op fun k g v h' => rnY k P tab S ops r g (putO t o.dst v) h' K) (fun t => rnY k P tab S ops r g (putO t o.dst (.tup [])) h K)

def rpY (k : Tok) (P : Pr) (tab : Tab) (S : Sq) (ops : Array Oper) : Plan → List (Nat × List Nat) → Gh → Slots → List Chunk → (Tok → Gh → Slots → List Chunk → Prop) → Prop
  | .nil, _, g, t, h, K => K .mk g t h
  | .q i p, rd, g, t, h, K => match ops[i]? with
    | some o => gd ops t o.guard (fun t => match qv tab t h o.op with
        | some (c, v) => c ∧ rpY k P tab S ops p ((i, qn t o.op) :: rd) g (putO t o.dst v) h K
        | none => False) (fun t => rpY k P tab S ops p rd g (putO t o.dst (.tup [])) h K)
    | none => False
  | .e1 i ws p, rd, g, t, h, K => match ops[i]? with
    | some o => gd ops t o.guard (fun t => opY P tab S g t h o.op fun k g v h' => stays ws h h' rd ∧ rpY k P tab S ops p rd g (putO t o.dst v) h' K) (fun t => rpY k P tab S ops p rd g (putO t o.dst (.tup [])) h K)
    | none => False
  | .e2 .., _, _, _, _, _ => False

def vcY (k : Tok) (P : Pr) (tab : Tab) (nf : Nat) (pl : Nat → Plan) (S : Sq) : Code → Gh → Slots → List Chunk → (Tok → Gh → Slots → List Chunk → Prop) → (Tok → Gh → Exit → Slots → List Chunk → Prop) → Prop
  | .skip, g, t, h, N, _ => N .mk g t h
  | .label _, g, t, h, N, _ => N .mk g t h
  | .region _ ops false, g, t, h, N, _ => rnY k P tab S ops ops.toList g t h fun k g t h => N k g t h
  | .region id ops true, g, t, h, N, _ => rpY k P tab S ops (pl id) [] g t h fun k g t h => N k g t h
  | .seq a b, g, t, h, N, E => vcY k P tab nf pl S a g t h (fun k g t h => vcY k P tab nf pl S b g t h N E) E
  | .cond c a b, g, t, h, N, E => match ev t c with
    | .bool x => imp (x = true) (vcY k P tab nf pl S a g t h N E) ∧ imp (x = false) (vcY k P tab nf pl S b g t h N E)
    | _ => False
  | .block id c, g, t, h, N, E => vcY k P tab nf pl S c g t h N fun k g e t h => match e with
    | .exit j => if j = id then N k g t h else E k g (.exit j) t h
    | e => E k g e t h
  | .exit id, g, t, h, _, E => E .mk g (.exit id) t h
  | .ret, g, t, h, _, E => E .mk g .ret t h
  | .loop c, g, t, h, N, E => codeY P nf S (.loop c) g t h (N .mk) (E .mk)
  | .rangeFunc f ps a b, g, t, h, N, E => codeY P nf S (.rangeFunc f ps a b) g t h (N .mk) (E .mk)
  | _, _, _, _, _, _ => False

section
variable {F : Fence} {n : Nat} {ops : Array Oper} {tab : Tab} {G : Ghost} {Ob : List (Nat × Obj)} {Ds : List Nat} {Q : Exit → Act → World → Prop}

theorem guard_runY {ρ : Env} {t : Slots} {h : List Chunk} {o : Oper} {yes no : Slots → Prop} {R : Prop} (hg : gd ops t o.guard yes no) (hok : okS h.length t)
    (hy : ∀ t', yes t' → actY ρ t' Ds = actY ρ t Ds → okS h.length t' → Region.wanted o (yielded ops (actY ρ t Ds).tmps) = true → R)
    (hno : ∀ t', no t' → actY ρ t' Ds = actY ρ t Ds → okS h.length t' → Region.wanted o (yielded ops (actY ρ t Ds).tmps) = false → R) : R :=
  gd_run (ρ := ρ) (st := ⟨t, h, Ds.map mark⟩) hg hok (fun t' h1 h2 h3 h4 => hy t' h1 (by unfold actY; rw [h2]) h3 h4) (fun t' h1 h2 h3 h4 => hno t' h1 (by unfold actY; rw [h2]) h3 h4)

theorem put_undefY (ρ : Env) (t : Slots) (h : List Chunk) (d : Option Nat) : (actY ρ t Ds).put d undef = actY ρ (putO t d (.tup [])) Ds := by
  rw [show (undef : Value) = den ρ (.tup []) from rfl, ← act_actY ρ t h Ds, act_put]
  rfl

theorem rnY_run (hF : WideF F) (hT : tab.Ok P) (hG : G.Ok P) {K : Tok → Gh → Slots → List Chunk → Prop}
    (hQ : ∀ g Y ρ t h w, K .mk g t h → MG G Ob Y g ρ h w → okS h.length t → Q .normal (actY ρ t Ds) w) :
    ∀ (l : List Oper) (g : Gh) (Y : Nat → Prop) (t : Slots) (h : List Chunk), rnY .mk P tab G.s ops l g t h K → ∀ ρ w, MG G Ob Y g ρ h w → okS h.length t → wpListIn F n P ops Q l (actY ρ t Ds) w
  | [], g, Y, t, h, hr, ρ, w, hM, hok => hQ g Y ρ t h w hr hM hok
  | o :: l, g, Y, t, h, hr, ρ, w, hM, hok => by
    simp only [rnY] at hr
    simp only [wpListIn]
    refine guard_runY (ρ := ρ) (Ds := Ds) hr hok ?_ ?_
    · intro t' hy he hok' hw
      rw [if_pos hw, ← he]
      refine opY_run hF hT hG hy hM hok' ?_
      intro g' Y' ρ' sv h' w' hK hM' ha hs hl
      exact rnY_run hF hT hG hQ l g' Y' _ h' hK ρ' w' hM' (okS_putO (okS_mono hl hok') hs)
    · intro t' hno he hok' hw
      rw [if_neg (by rw [hw]; simp), ← he, put_undefY ρ t' h]
      exact ⟨fun f _ => hF.fn f, rnY_run hF hT hG hQ l g Y _ h hno ρ w hM (okS_putO hok' trivial)⟩

theorem TrackY.alive {es : List Nat} {Fa : Facts} {L : Array Bool} {rd : List (Nat × List Nat)} {Y : Nat → Prop} {g : Gh} {ρ : Env} {h : List Chunk} {w : World} (ht : Track ops es Fa L rd ρ h) (hM : MG G Ob Y g ρ h w) :
    Alive .any ops (es.contains ·) Fa L w := ht.alive hM.m

theorem rpY_eff (hF : WideF F) (hT : tab.Ok P) (hG : G.Ok P) {es : List Nat} {i : Nat} {o : Oper} (ho : ops[i]? = some o) {Fa : Facts} {L : Array Bool} (hL : L.size = ops.size) {ws : List Nat} (hws : (ws.all fun k => waits .any ops i k) = true) (hei : es.contains i = true)
    {rd : List (Nat × List Nat)} {g : Gh} {Y : Nat → Prop} {t : Slots} {h : List Chunk} {ρ : Env} {w : World} {K1 : Tok → Gh → Slots → List Chunk → Prop} {N : Act → World → Prop}
    (hg : gd ops t o.guard (fun t => opY P tab G.s g t h o.op fun k g v h' => stays ws h h' rd ∧ K1 k g (putO t o.dst v) h') (fun t => K1 .mk g (putO t o.dst (.tup [])) h))
    (hM : MG G Ob Y g ρ h w) (hok : okS h.length t) (ht : Track ops es Fa L rd ρ h)
    (hN : ∀ g' Y' ρ' t' h' w', K1 .mk g' t' h' → MG G Ob Y' g' ρ' h' w' → okS h'.length t' → Track ops es Fa (setB L i) rd ρ' h' → N (actY ρ' t' Ds) w') :
    wpOpIn F n P ops Q i N (actY ρ t Ds) w := by
  unfold wpOpIn
  simp only [ho]
  have hlt : i < L.size := by rw [hL]; exact (Array.getElem?_eq_some_iff.1 ho).1
  refine guard_runY (ρ := ρ) (Ds := Ds) hg hok ?_ ?_
  · intro t' hy he hok' hw
    rw [if_pos hw, ← he]
    refine opY_run hF hT hG hy hM hok' ?_
    intro g' Y' ρ' sv h' w' hK hM' ha hs hl
    exact hN g' Y' ρ' _ h' w' hK.2 hM' (okS_putO (okS_mono hl hok') hs) (ht.eff hM.m ha hws hlt hei hK.1)
  · intro t' hno he hok' hw
    rw [if_neg (by rw [hw]; simp), ← he, put_undefY ρ t' h]
    exact ⟨fun f _ => hF.fn f, hN g Y ρ _ h w hno hM (okS_putO hok' trivial) (ht.set i)⟩

theorem rpY_run (hF : WideF F) (hT : tab.Ok P) (hG : G.Ok P) (hP : plainB ops = true) {es : List Nat} {K : Tok → Gh → Slots → List Chunk → Prop}
    (hQ : ∀ g Y ρ t h w, K .mk g t h → MG G Ob Y g ρ h w → okS h.length t → Q .normal (actY ρ t Ds) w) (hQp : ∀ c a w, ¬ Q (.panic c) a w) :
    ∀ (p : Plan) (fuel : Nat) (L : Array Bool) (rd : List (Nat × List Nat)) (g : Gh) (Y : Nat → Prop) (t : Slots) (h : List Chunk) (Fa : Facts) (ρ : Env) (w : World), Cl .any ops L → L.size = ops.size → planOk ops es p fuel L = true → rpY .mk P tab G.s ops p rd g t h K →
      MG G Ob Y g ρ h w → okS h.length t → Track ops es Fa L rd ρ h → wpAnyG F n P .any ops Q (es.contains ·) Fa fuel L (actY ρ t Ds) w := by
  have hsel : ∀ (j : Nat) (o : Oper) cs b, ops[j]? = some o → o.op ≠ .select cs b := fun j o cs b hj hx => by
    have := List.all_eq_true.1 hP o (by simpa using Array.mem_of_getElem? hj)
    rw [hx] at this
    cases this
  have hdef : ∀ (j : Nat) (o : Oper) c, ops[j]? = some o → o.op ≠ .defer c := fun j o c hj hx => by
    have := List.all_eq_true.1 hP o (by simpa using Array.mem_of_getElem? hj)
    rw [hx] at this
    cases this
  intro p
  induction p with
  | nil =>
    intro fuel L rd g Y t h Fa ρ w hcl hL hp hr hM hok ht
    have hre : Region.ready .any ops L = [] := by
      cases fuel <;> simpa [planOk] using hp
    have hq := hQ g Y ρ t h w hr hM hok
    cases fuel with
    | zero => exact ⟨hre, hq⟩
    | succ fuel => exact ⟨fun _ => hq, fun i hi => by rw [hre] at hi; cases hi⟩
  | q i p ih =>
    intro fuel L rd g Y t h Fa ρ w hcl hL hp hr hM hok ht
    cases fuel with
    | zero => simp [planOk] at hp
    | succ fuel =>
      simp only [planOk, Bool.and_eq_true, Bool.not_eq_true'] at hp
      obtain ⟨⟨⟨⟨h1, h2⟩, h3⟩, h4⟩, h5⟩ := hp
      simp only [rpY] at hr
      split at hr
      · rename_i o ho
        have hready : i ∈ Region.ready .any ops L := by simpa using h2
        refine guard_runY (ρ := ρ) (Ds := Ds) hr hok ?_ ?_
        · intro t' hy he hok' hw
          rw [← he] at hw ⊢
          split at hy
          · rename_i c v hq
            have hyl : YieldsG P ops (fun w' => ∀ nm ∈ qn t' o.op, Holds ρ w' nm (lookH h nm)) o (den ρ v) (actY ρ t' Ds) :=
              ⟨fun c => hdef i o c ho, .inl ⟨hw, fun w' hw' => (qv_run hT (st := ⟨t', h, Ds.map mark⟩) hq hy.1 ρ hok' w' hw' (lookH_good hM.m)).1⟩⟩
            refine wpAnyG_first hF ho hsel hdef h1 (fun c a w hx => absurd hx (hQp _ _ _)) fuel L _ w hcl (fun j oj hj hji hun hno => freeB_spec ho h3 j oj hj hji hun hno) (heldB_spec h4) hready hyl (fun nm _ => lookH_holds hM.m nm) (ht.alive hM.m) ?_
            rw [← act_actY ρ t' h, act_put]
            refine ih fuel (setB L i) _ g Y _ h _ ρ w (cl_set hcl hready) (by simp [setB, hL]) h5 hy.2 hM (okS_putO hok' (qv_run hT (st := ⟨t', h, Ds.map mark⟩) hq hy.1 ρ hok' w (fun nm _ => lookH_holds hM.m nm) (lookH_good hM.m)).2) ?_
            intro q hq'
            rcases List.mem_cons.1 hq' with rfl | hq'
            · exact .inr (.inr ⟨_, List.mem_cons_self .., fun _ hx => hx⟩)
            · rcases ht q hq' with ⟨j, g1, g2⟩ | g1 | ⟨ns, g1, g2⟩
              · exact .inl ⟨j, getD_set_true g1, g2⟩
              · exact .inr (.inl g1)
              · exact .inr (.inr ⟨ns, List.mem_cons_of_mem _ g1, g2⟩)
          · exact hy.elim
        · intro t' hno he hok' hw
          rw [← he] at hw ⊢
          have hyl : YieldsG P ops (fun _ => True) o undef (actY ρ t' Ds) := ⟨fun c => hdef i o c ho, .inr ⟨hw, rfl⟩⟩
          refine wpAnyG_first hF ho hsel hdef h1 (fun c a w hx => absurd hx (hQp _ _ _)) fuel L _ w hcl (fun j oj hj hji hun hno => freeB_spec ho h3 j oj hj hji hun hno) (heldB_spec h4) hready hyl trivial (ht.alive hM.m) ?_
          rw [put_undefY ρ t' h]
          refine ih fuel (setB L i) _ g Y _ h _ ρ w (cl_set hcl hready) (by simp [setB, hL]) h5 hno hM (okS_putO hok' trivial) ?_
          intro q hq'
          rcases List.mem_cons.1 hq' with rfl | hq'
          · exact .inr (.inl fun _ => trivial)
          · exact ht.set i q hq'
      · exact hr.elim
  | e1 i ws p ih =>
    intro fuel L rd g Y t h Fa ρ w hcl hL hp hr hM hok ht
    cases fuel with
    | zero => simp [planOk] at hp
    | succ fuel =>
      simp only [planOk, Bool.and_eq_true, beq_iff_eq] at hp
      obtain ⟨⟨⟨h0, h1⟩, h2⟩, h5⟩ := hp
      simp only [rpY] at hr
      split at hr
      · rename_i o ho
        refine ⟨fun hx => by (rw [h2] at hx; cases hx), fun j hj => ?_⟩
        have hcl' := cl_set hcl hj
        rw [h2, List.mem_singleton] at hj
        subst hj
        refine rpY_eff (K1 := fun k g t h => rpY k P tab G.s ops p rd g t h K) hF hT hG ho hL h0 h1 hr hM hok ht ?_
        intro g' Y' ρ' t' h' w' hk hM' hok' ht'
        exact ⟨ht'.alive hM'.m, ih fuel (setB L j) rd g' Y' t' h' Fa ρ' w' hcl' (by simp [setB, hL]) h5 hk hM' hok' ht'⟩
      · exact hr.elim
  | e2 i ws p j ws' p' ih ih' =>
    intro fuel L rd g Y t h Fa ρ w hcl hL hp hr hM hok ht
    exact hr.elim

variable {nf : Nat} {pl : Nat → Plan}

theorem QY.mono {G : Ghost} {Ob Ob' : List (Nat × Obj)} {N N' : Gh → Slots → List Chunk → Prop} {E E' : Gh → Exit → Slots → List Chunk → Prop} {e : Exit} {a : Act} {w : World} (h : QY G Ob' N E e a w) (ho : ∀ p ∈ Ob, p ∈ Ob')
    (hN : ∀ g t h, N g t h → N' g t h) (hE : ∀ g e t h, e ≠ .normal → E g e t h → E' g e t h) : QY G Ob N' E' e a w := by
  obtain ⟨g, Y, Ob2, Ds, ρ, t, h, hq, hM, hok, h1, h2, h3⟩ := h
  refine ⟨g, Y, Ob2, Ds, ρ, t, h, ?_, hM, hok, fun p hp => h1 p (ho p hp), h2, h3⟩
  cases e with
  | normal => exact hN _ _ _ hq
  | _ => exact hE _ _ _ _ (by simp) hq

theorem vcY_run (hT : tab.Ok P) (hm : P.p.follows .mixedOrders = true) (hC : G.C.n0 ≤ nf) (hG : G.Ok P) (hF : WideF F) :
    ∀ (c : Code) (g : Gh) (t : Slots) (h : List Chunk) (N : Tok → Gh → Slots → List Chunk → Prop) (E : Tok → Gh → Exit → Slots → List Chunk → Prop), fits pl c = true → vcY .mk P tab nf pl G.s c g t h N E →
      ∀ Ob Y Ds ρ w, RoundOk F Ob → MG G Ob Y g ρ h w → okS h.length t → Marked G.C.w0.heap.size Ds Ob → c.wpIn F n P (QY G Ob (N .mk) (E .mk)) (actY ρ t Ds) w := by
  intro c
  induction c with
  | skip => intro g t h N E _ hv Ob Y Ds ρ w hr hM hok hD; exact wpIn_skip ⟨g, Y, Ob, Ds, ρ, t, h, hv, hM, hok, fun _ h => h, hD, rfl⟩
  | label l => intro g t h N E _ hv Ob Y Ds ρ w hr hM hok hD; exact wpIn_label ⟨g, Y, Ob, Ds, ρ, t, h, hv, hM, hok, fun _ h => h, hD, rfl⟩
  | exit id => intro g t h N E _ hv Ob Y Ds ρ w hr hM hok hD; exact wpIn_exit ⟨g, Y, Ob, Ds, ρ, t, h, hv, hM, hok, fun _ h => h, hD, rfl⟩
  | ret => intro g t h N E _ hv Ob Y Ds ρ w hr hM hok hD; exact wpIn_ret ⟨g, Y, Ob, Ds, ρ, t, h, hv, hM, hok, fun _ h => h, hD, rfl⟩
  | region id ops draw =>
    intro g t h N E hf hv Ob Y Ds ρ w hr hM hok hD
    have hmono : ∀ e a w, (e = Exit.normal ∧ ∃ g Y ρ t h, N .mk g t h ∧ MG G Ob Y g ρ h w ∧ okS h.length t ∧ a = actY ρ t Ds) → QY G Ob (N .mk) (E .mk) e a w := by
      rintro e a w ⟨rfl, g, Y, ρ, t, h, h1, h2, h3, h4⟩
      exact ⟨g, Y, Ob, Ds, ρ, t, h, h1, h2, h3, fun _ h => h, hD, h4⟩
    cases draw with
    | false =>
      refine Code.wpIn_mono (fun e a w => hmono e a w) (wpIn_region_list ?_)
      exact rnY_run hF hT hG (K := N) (fun g Y ρ t h w hK hM hok => ⟨rfl, g, Y, ρ, t, h, hK, hM, hok, rfl⟩) _ _ _ _ _ hv ρ w hM hok
    | true =>
      refine Code.wpIn_mono (fun e a w => hmono e a w) (wpIn_region_any hm ?_)
      have hf' : planFit ops (pl id) = true := hf
      unfold planFit at hf'
      rw [Bool.and_eq_true] at hf'
      obtain ⟨X, _, _, hmm, back⟩ := hM.step hG
      have hM' : MG G Ob Y g ρ h { w with drawn := w.drawn + 1 } := back _ _ _ (hmm.same ⟨rfl, rfl, rfl, Nat.le_refl _, fun _ _ _ => rfl⟩)
      exact wpAnyIn_of_G _ _ _ _ (rpY_run hF hT hG hf'.1 (K := N) (fun g Y ρ t h w hK hM hok => ⟨rfl, g, Y, ρ, t, h, hK, hM, hok, rfl⟩) (fun c a w hx => by cases hx.1) (pl id) _ _ [] _ Y _ _ [] ρ _ (cl_none _) (by simp) hf'.2 hv hM' hok
        (fun p hp => by cases hp))
  | seq a b iha ihb =>
    intro g t h N E hf hv Ob Y Ds ρ w hr hM hok hD
    simp only [fits, Bool.and_eq_true] at hf
    refine wpIn_seq (Code.wpIn_mono ?_ (iha g t h _ E hf.1 hv Ob Y Ds ρ w hr hM hok hD))
    rintro e a w ⟨g', Y', Ob', Ds', ρ', t', h', hq, hM', hok', ho, hD', rfl⟩
    cases e with
    | normal =>
      refine Code.wpIn_mono (fun e a w hx => QY.mono hx ho (fun _ _ _ h => h) (fun _ _ _ _ _ h => h)) (ihb g' t' h' N E hf.2 hq Ob' Y' Ds' ρ' w ?_ hM' hok' hD')
      exact fun l0 hl => let ⟨r, h⟩ := hr l0 hl; ⟨r, ho _ h⟩
    | _ => exact ⟨g', Y', Ob', Ds', ρ', t', h', hq, hM', hok', ho, hD', rfl⟩
  | cond c a b iha ihb =>
    intro g t h N E hf hv Ob Y Ds ρ w hr hM hok hD
    simp only [fits, Bool.and_eq_true] at hf
    simp only [vcY] at hv
    split at hv
    · rename_i x hx
      refine wpIn_cond_split (t := x) (by rw [← act_actY ρ t h Ds, act_eval ρ ⟨t, h, Ds.map mark⟩ hok, hx]; rfl) (fun ht => iha g t h N E hf.1 (hv.1 ht) Ob Y Ds ρ w hr hM hok hD) (fun ht => ihb g t h N E hf.2 (hv.2 ht) Ob Y Ds ρ w hr hM hok hD)
    · exact hv.elim
  | block id c ih =>
    intro g t h N E hf hv Ob Y Ds ρ w hr hM hok hD
    refine wpIn_block (Code.wpIn_mono ?_ (ih g t h N _ hf hv Ob Y Ds ρ w hr hM hok hD))
    rintro e a w ⟨g', Y', Ob', Ds', ρ', t', h', hq, hM', hok', ho, hD', rfl⟩
    cases e with
    | exit j =>
      simp only at hq
      simp only [Exit.inBlock]
      split
      · rename_i hj; rw [if_pos hj] at hq; exact ⟨g', Y', Ob', Ds', ρ', t', h', hq, hM', hok', ho, hD', rfl⟩
      · rename_i hj; rw [if_neg hj] at hq; exact ⟨g', Y', Ob', Ds', ρ', t', h', hq, hM', hok', ho, hD', rfl⟩
    | _ => exact ⟨g', Y', Ob', Ds', ρ', t', h', hq, hM', hok', ho, hD', rfl⟩
  | loop c ih => intro g t h N E hf hv Ob Y Ds ρ w hr hM hok hD; exact hv G Ob Y Ds ρ w F n hG rfl hC hF hr hM hok hD
  | rangeFunc f ps a b iha ihb => intro g t h N E hf hv Ob Y Ds ρ w hr hM hok hD; exact hv G Ob Y Ds ρ w F n hG rfl hC hF hr hM hok hD
  | _ => intro g t h N E hf hv; exact hv.elim

theorem codeY_of_vc (hT : tab.Ok P) (hm : P.p.follows .mixedOrders = true) {S : Sq} {c : Code} (hf : fits pl c = true) {g : Gh} {t : Slots} {h : List Chunk} {N : Gh → Slots → List Chunk → Prop} {E : Gh → Exit → Slots → List Chunk → Prop}
    (hv : vcY .mk P tab nf pl S c g t h (fun _ => N) (fun _ => E)) : codeY P nf S c g t h N E := by
  intro G Ob Y Ds ρ w F m hG hs hC hF hr hM hok hD
  subst hs
  exact vcY_run hT hm hC hG hF c g t h (fun _ => N) (fun _ => E) hf hv Ob Y Ds ρ w hr hM hok hD

/-- A state may be taken for one of J. -/
def IntoY (nf : Nat) (t : Slots) (h : List Chunk) (J : Slots → List Chunk → Prop) : Prop := ∀ d, Into nf ⟨t, h, d⟩ fun st => st.d = d ∧ J st.t st.h

theorem IntoY.run {t : Slots} {h : List Chunk} {J : Slots → List Chunk → Prop} (hi : IntoY nf t h J) {Y : Nat → Prop} {g : Gh} {ρ : Env} {w : World} (hG : G.Ok P) (hC : G.C.n0 ≤ nf) (hM : MG G Ob Y g ρ h w) (hok : okS h.length t) :
    ∃ ρ' t' h', J t' h' ∧ MG G Ob Y g ρ' h' w ∧ okS h'.length t' ∧ ∀ Ds, actY ρ t Ds = actY ρ' t' Ds := by
  obtain ⟨X, _, _, hm, back⟩ := hM.step hG
  obtain ⟨ρ', st', ⟨hd, hJ⟩, hM', hok', he⟩ := hi [] ⟨w, X, G.C.ρ0, G.C.n0⟩ ρ w hC hm hok
  refine ⟨ρ', st'.t, st'.h, hJ, back _ _ _ hM', hok', fun Ds => ?_⟩
  simp only [act, hd] at he
  simp only [actY, Act.mk.injEq, and_true] at he ⊢
  exact he

theorem codeY_loop (hT : tab.Ok P) (hm : P.p.follows .mixedOrders = true) {S : Sq} {c : Code} (hfit : fits pl c = true) {g : Gh} {t : Slots} {h : List Chunk} {N : Gh → Slots → List Chunk → Prop} {E : Gh → Exit → Slots → List Chunk → Prop} (I : Nat → Gh → Slots → List Chunk → Prop)
    (h0 : IntoY nf t h fun t h => ∃ n, I n g t h) (hr : ∀ n g t h, I n g t h → vcY .mk P tab nf pl S c g t h (fun _ g t h => IntoY nf t h fun t h => ∃ m, m < n ∧ I m g t h) fun _ g e t h => e ≠ .normal ∧ E g e t h) : codeY P nf S (.loop c) g t h N E := by
  intro G Ob Y Ds ρ w F m hG hs hC hF hro hM hok hD
  subst hs
  obtain ⟨ρ', t', h', ⟨n0, hI⟩, hM', hok', he⟩ := h0.run hG hC hM hok
  rw [he]
  refine wpIn_loop_ghost (fun n a w => ∃ g Y Ob' Ds ρ t h, I n g t h ∧ MG G Ob' Y g ρ h w ∧ okS h.length t ∧ (∀ p ∈ Ob, p ∈ Ob') ∧ Marked G.C.w0.heap.size Ds Ob' ∧ a = actY ρ t Ds) n0 ⟨g, Y, Ob, Ds, ρ', t', h', hI, hM', hok', fun _ h => h, hD, rfl⟩ ?_
  rintro k a w ⟨g1, Y1, Ob1, Ds1, ρ1, t1, h1, hI1, hM1, hok1, ho1, hD1, rfl⟩
  refine Code.wpIn_mono ?_ (vcY_run hT hm hC hG hF c g1 t1 h1 _ _ hfit (hr k g1 t1 h1 hI1) Ob1 Y1 Ds1 ρ1 w (fun l0 hl => let ⟨r, h⟩ := hro l0 hl; ⟨r, ho1 _ h⟩) hM1 hok1 hD1)
  rintro e a w ⟨g2, Y2, Ob2, Ds2, ρ2, t2, h2, hq, hM2, hok2, ho2, hD2, rfl⟩
  have ho12 : ∀ p ∈ Ob, p ∈ Ob2 := fun p hp => ho2 p (ho1 p hp)
  cases e with
  | normal =>
    obtain ⟨ρ3, t3, h3, ⟨m, hlt, hI3⟩, hM3, hok3, he3⟩ := IntoY.run hq hG hC hM2 hok2
    exact ⟨m, hlt, g2, Y2, Ob2, Ds2, ρ3, t3, h3, hI3, hM3, hok3, ho12, hD2, he3 Ds2⟩
  | exit id => exact ⟨g2, Y2, Ob2, Ds2, ρ2, t2, h2, hq.2, hM2, hok2, ho12, hD2, rfl⟩
  | goto id => exact ⟨g2, Y2, Ob2, Ds2, ρ2, t2, h2, hq.2, hM2, hok2, ho12, hD2, rfl⟩
  | ret => exact ⟨g2, Y2, Ob2, Ds2, ρ2, t2, h2, hq.2, hM2, hok2, ho12, hD2, rfl⟩
  | panic id => exact ⟨g2, Y2, Ob2, Ds2, ρ2, t2, h2, hq.2, hM2, hok2, ho12, hD2, rfl⟩
  | outgrown => exact ⟨g2, Y2, Ob2, Ds2, ρ2, t2, h2, hq.2, hM2, hok2, ho12, hD2, rfl⟩
end
end Go.Sx
