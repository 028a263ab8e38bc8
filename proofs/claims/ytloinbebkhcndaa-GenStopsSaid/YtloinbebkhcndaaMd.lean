/- Texts put together: Iterators that turn a cell of their own: from a body's walk to their contract; calls that are handed one. No condition. -/
import Derived.Test.YtloinbebkhcndaaMc
import Derived.Test.YtloinbebkhcndaaMb
set_option linter.all false
namespace Go.Sx
open Go.RowKit
variable {P : Pr}

def RI (n : Nat) (A : Nat → Int) : Nat → Value → Nat → Prop := fun i v i' => i < n ∧ v = .int .i64 (A i) ∧ i' = i + 1
def finI (n : Nat) : Gh → Nat → Prop := fun g i => (i = n ∧ g = .run i) ∨ (i ≤ n ∧ g = .stop i)
/-- An iterator over numbers that counts, in the cell at pl, how often it has been asked on. -/
def GivesC (P : Program) (f : FuncId) (lb : List Value) (B : Nat → Prop) (pl : Place) (n : Nat) (A : Nat → Int) (w0 : World) : Prop := GivesRC P f lb B pl (RI n A) (finI n) w0

theorem GivesC.later {p : Program} {f : FuncId} {lb : List Value} {B : Nat → Prop} {pl : Place} {n : Nat} {A : Nat → Int} {w0 w : World} (h : GivesC p f lb B pl n A w0) (hs : w0.heap.size ≤ w.heap.size) (hb : ∀ b, B b → w.heap[b]? = w0.heap[b]?) : GivesC p f lb B pl n A w :=
  ⟨fun b hB => Nat.lt_of_lt_of_le (h.1 b hB) hs, h.2.1, h.2.2.1, fun F m l J W c0 hF hr hs' hb' hat hc hp hcl hyl hj =>
    h.2.2.2 F m l J W c0 hF hr (Nat.le_trans hs hs') (fun b hB => (hb' b hB).trans (hb b hB)) hat hc hp hcl hyl hj⟩
theorem GivesC.wider {p : Program} {f : FuncId} {lb : List Value} {B B' : Nat → Prop} {pl : Place} {n : Nat} {A : Nat → Int} {w : World} (h : GivesC p f lb B pl n A w) (hB : ∀ b, B b → B' b) (hs : ∀ b, B' b → b < w.heap.size) (hp' : ¬ B' pl.b) : GivesC p f lb B' pl n A w :=
  ⟨hs, h.2.1, hp', fun F m l J W c0 hF hr hs' hb' hat hc hp hcl hyl hj => h.2.2.2 F m l J W c0 hF hr hs' (fun b hb => hb' b (hB b hb)) hat hc hp hcl
    (fun i v i' w Y F k hF hR hsz hY hJ => YieldAt.mono (hyl i v i' w Y F k hF hR hsz hY hJ) fun e w' he => ⟨he.1.mono fun b hb => hb.imp id fun hv => ⟨hv.1, fun hx => hv.2 (hx.imp (hB b) id)⟩, he.2⟩) hj⟩
theorem GivesC.cong {p : Program} {f : FuncId} {lb : List Value} {B : Nat → Prop} {pl : Place} {n n' : Nat} {A A' : Nat → Int} {w : World} (h : GivesC p f lb B pl n A w) (hn : n = n') (hA : ∀ i, i < n → A i = A' i) : GivesC p f lb B pl n' A' w := by
  subst hn
  have e : RI n A = RI n A' := by
    funext i v i'
    unfold RI
    apply propext
    constructor
    · rintro ⟨h1, h2, h3⟩; exact ⟨h1, by rw [← hA i h1]; exact h2, h3⟩
    · rintro ⟨h1, h2, h3⟩; exact ⟨h1, by rw [hA i h1]; exact h2, h3⟩
  unfold GivesC at h ⊢
  rw [← e]
  exact h

/-- The range over one. -/
theorem codeY_rangeN {nf : Nat} {S : Sq} {gop : Operand} {p : Nat} {assign body : Code} {g : Gh} {t : Slots} {h : List Chunk} {N : Gh → Slots → List Chunk → Prop} {E : Gh → Exit → Slots → List Chunk → Prop}
    (qs : List Nat) (n : Nat) (A : Nat → Int) (hra : roA S.A 0 h) (hnm : ∀ k ∈ qs, (frz1 (lookH h k)).wr = false) (kc : Nat) (pl : Place) (c0 : Int) (hpin : S.pin = some (kc, pl)) (hkc : lookH h kc = .cells true [.int .i64 c0]) (hkq : kc ∉ qs) (hc0 : 0 ≤ c0 ∧ c0 ≤ 1000) (hz : List Chunk) (hhz : hz = putH (frz qs 0 h) kc .none)
    (hgv : ∀ ρ w X, P.know w X → (∀ k ∈ qs, Holds ρ w k (lookH h k) ∧ (Real ρ k (lookH h k) → (ρ k).b < w.heap.size)) → ρ kc = pl → pl.b < w.heap.size → (∀ k ∈ qs, Real ρ k (lookH h k) → (ρ k).b ≠ pl.b) → X pl.b →
      ∃ f lb B, den ρ (ev t gop) = .func (.func f) #[] lb.toArray ∧ GivesC P.p f lb B pl n A w ∧ ∀ b, B b → ¬ X b ∨ ∃ k ∈ qs, Real ρ k (lookH h k) ∧ (ρ k).b = b)
    (I : Nat → Gh → List Chunk → Prop) (Ix : Nat → Gh → Exit → List Chunk → Prop) (h0 : I 0 g hz)
    (hround : ∀ i g h', i < n → I i g h' → codeY P h.length { S with A := liveA hz } assign g (putS t p (.int .i64 (A i))) h'
      (fun g t1 h1 => codeY P h.length { S with A := liveA hz } body g t1 h1 (fun g t2 h2 => IntoY h.length t2 h2 fun _ h4 => I (i + 1) g h4 ∧ roA (liveA hz) 0 h4)
        (fun g e t2 h2 => (leaves e).isSome = true ∧ IntoY h.length t2 h2 fun _ h4 => Ix (i + 1) g e h4 ∧ roA (liveA hz) 0 h4)) (fun _ _ _ _ => False))
    (hdone : ∀ g h', I n g h' → N g t (putH h' kc (.cells true [.int .i64 (c0 + (n : Nat))]))) (hstop : ∀ i g e h', i ≤ n → Ix i g e h' → E g e t (putH h' kc (.cells true [.int .i64 (c0 + (i : Nat))]))) :
    codeY P nf S (.rangeFunc gop #[p] assign body) g t h N E := by
  refine codeY_rangeC qs (fun i sv i' => i < n ∧ sv = .int .i64 (A i) ∧ i' = i + 1) (fun i => i = n) (fun i => i ≤ n) ?_ hra hnm kc pl c0 hpin hkc hkq hc0 hz hhz ?_ I Ix h0 ?_ ?_ hstop
  · rintro i sv i' ⟨_, rfl, _⟩
    trivial
  · intro ρ w X hk hH e1 e2 e3 e4
    obtain ⟨f, lb, B, h1, h2, h3⟩ := hgv ρ w X hk hH e1 e2 e3 e4
    refine ⟨f, lb, B, h1, ?_, h3⟩
    have e : (fun i v i' => ∃ sv, (i < n ∧ sv = SV.int .i64 (A i) ∧ i' = i + 1) ∧ v = den ρ sv) = RI n A := by
      funext i v i'
      unfold RI
      apply propext
      constructor
      · rintro ⟨sv, ⟨q1, rfl, q3⟩, rfl⟩; exact ⟨q1, rfl, q3⟩
      · rintro ⟨q1, rfl, q3⟩; exact ⟨_, ⟨q1, rfl, q3⟩, rfl⟩
    rw [e]
    exact h2
  · rintro i sv i' g h' ⟨hi, rfl, rfl⟩ hI
    exact hround i g h' hi hI
  · rintro i g h' rfl hI
    exact hdone g h' hI

/-- From the walk of a body. -/
theorem givesC_of_codeY {tab : Tab} (hT : tab.Ok P) {f : FuncId} {fn : Func} {c : Code} (hf : P.p.funcs[f]? = some fn) (hname : (fn.name == "runtime.NumGoroutine") = false) (hb : fn.body = some c) (hres : fn.results.toList = [])
    {caps : List SV} {h0 : List Chunk} {n : Nat} {A : Nat → Int} {pl : Place} (hlen : caps.length + 1 ≤ fn.ntmps) (hgood : goodH (h0.length + 1) h0) (hcaps : okL (h0.length + 1) caps) (hro : ∀ c ∈ h0, c.wr = false)
    (hv : ∀ l c0, 0 ≤ c0 ∧ c0 ≤ 1000 → codeY P (h0.length + 1) ⟨l, 0, fun _ => undef, liveA h0, .nilFunc, fun _ => none, some (RI n A), some (h0.length, pl)⟩ c (.run 0) ⟨fn.ntmps, argsL 0 (.v (.func (.yield l) #[] #[]) :: caps), fun _ => undef⟩ (h0 ++ [.cells true [.int .i64 c0]])
      (fun g _ h' => ∃ i, finI n g i ∧ lookH h' h0.length = .cells true [.int .i64 (c0 + (i : Nat))]) (fun g e _ h' => e = .ret ∧ ∃ i, finI n g i ∧ lookH h' h0.length = .cells true [.int .i64 (c0 + (i : Nat))]))
    {ρ : Env} {B : Nat → Prop} {w0 : World} (hB : ∀ b, B b → b < w0.heap.size) (hH : ∀ k c, h0[k]? = some c → Holds ρ w0 k c ∧ (Real ρ k c → B (ρ k).b)) (hρ : ρ h0.length = pl) (hnB : ¬ B pl.b)
    (hkn : ∀ w, w0.heap.size ≤ w.heap.size → (∀ b, B b → w.heap[b]? = w0.heap[b]?) → P.know w fun b => b = pl.b ∨ (b < w.heap.size ∧ ¬ (B b ∨ b = pl.b))) : GivesC P.p f (denL ρ caps) B pl n A w0 := by
  refine ⟨hB, enter_eq hf hname hb, hnB, ?_⟩
  intro F m l J w c0 hF hr hs hag hat hc0 hpsz hcl hyl hj
  have hnil : pl.nil = false := hat.lt
  let h : List Chunk := h0 ++ [.cells true [.int .i64 c0]]
  have hget : ∀ (k : Nat) (x : Chunk), h[k]? = some x → h0[k]? = some x ∨ (k = h0.length ∧ x = .cells true [.int .i64 c0]) := fun k x hx => append_get hx
  let G : Ghost := { C := ⟨w, fun b => b = pl.b, ρ, h0.length + 1⟩, V := fun b => b < w.heap.size ∧ ¬ (B b ∨ b = pl.b), J := J, s := ⟨l, 0, fun _ => undef, liveA h0, .nilFunc, fun _ => none, some (RI n A), some (h0.length, pl)⟩ }
  have hlive : ∀ k, liveA h0 k = true → (ρ k).nil = false → k < h0.length ∧ B (ρ k).b := fun k hk hn => by
    obtain ⟨c, hc, hl⟩ := liveA_lt hk
    exact ⟨get_lt hc, (hH k c hc).2 ⟨hl, hn⟩⟩
  have hG : G.Ok P := by
    refine ⟨hcl, hyl, fun b hb => ⟨hb.1, fun h => hb.2 (.inr h)⟩, fun k hk => ?_, hkn w hs hag, fun _ _ h => (by cases h), fun k pl' h => ?_⟩
    · obtain ⟨c, hc, _⟩ := liveA_lt hk
      refine ⟨Nat.lt_succ_of_lt (get_lt hc), fun hn => ?_⟩
      have := (hlive k hk hn).2
      exact ⟨Nat.lt_of_lt_of_le (hB _ this) hs, fun hv => hv.2 (.inl this)⟩
    · simp only [G, Option.some.injEq, Prod.mk.injEq] at h
      obtain ⟨rfl, rfl⟩ := h
      exact ⟨Nat.lt_succ_self _, hρ⟩
  have hM : MG G [] (fun _ => False) (.run 0) ρ h w := by
    have hw0 : ∀ (k : Nat) (x : Chunk), h[k]? = some x → RealW ρ k x → k = h0.length := fun k x hx hR => by
      rcases hget k x hx with h1 | ⟨rfl, _⟩
      · have := hro x (List.mem_of_getElem? h1)
        rw [hR.1] at this; cases this
      · rfl
    refine ⟨⟨Keep.refl _ _, fun _ _ => rfl, by simp [h, G], fun k c hc => ?_, fun k c hc => ?_, fun k c hc hR => ?_, fun k c hc hR => ?_, fun k k' c c' hc hc' hne hR hR' => ?_⟩, fun k c hc hR => ?_, fun k c hc hR => fun h => h, fun k c hc hR p hp => (by cases hp), fun p hp => (by cases hp), fun b hb => hb.elim, hj⟩
    · rcases hget k c hc with h1 | ⟨rfl, rfl⟩
      · by_cases hl : c.live = true
        · exact holds_block (fun hn => hag _ ((hH k c h1).2 ⟨hl, hn⟩)) (hH k c h1).1
        · cases c <;> simp [Chunk.live] at hl
          trivial
      · exact hat ρ _ hρ
    · have hl : h.length = h0.length + 1 := by simp [h]
      rw [hl]
      rcases hget k c hc with h1 | ⟨rfl, rfl⟩
      · exact goodH_get hgood h1
      · simp [Chunk.good, okL, ok, storL, stor]
    · rcases hget k c hc with h1 | ⟨rfl, rfl⟩
      · exact Nat.lt_of_lt_of_le (hB _ ((hH k c h1).2 hR)) hs
      · rw [hρ]; exact hpsz
    · obtain rfl := hw0 k c hc hR
      exact .inl (.inl (by rw [hρ]))
    · obtain rfl := hw0 k c hc hR
      rcases hget k' c' hc' with h1 | ⟨rfl, rfl⟩
      · have := (hH k' c' h1).2 hR'
        rw [hρ]
        exact fun e => hnB (by rw [e]; exact this)
      · exact absurd rfl hne
    · obtain rfl := hw0 k c hc hR
      exact .inl (by rw [hρ])
  have hok : okS h.length ⟨fn.ntmps, argsL 0 (.v (.func (.yield l) #[] #[]) :: caps), fun _ => undef⟩ := ⟨fun _ _ => rfl, argsL_ok _ 0 fn.ntmps ⟨trivial, by simpa [h] using hcaps⟩ (by simp; omega)⟩
  have hw := hv l c0 hc0 G [] (fun _ => False) [] ρ w F m hG rfl (Nat.le_refl _) hF (fun l0 h => by rw [hr] at h; cases h) hM hok ⟨List.nodup_nil, fun D hD => by cases hD⟩
  refine callsIn_of_wp_marks hf hb (hF.fn f) ?_ hr
  have hd : (Value.func (.yield l) #[] #[] :: denL ρ caps).toArray = (denL ρ (.v (.func (.yield l) #[] #[]) :: caps)).toArray := rfl
  rw [hd, init_eq ρ fn.ntmps _ (by simp; omega)]
  refine Code.wpIn_mono ?_ hw
  have fin : ∀ {g Y Ob' Ds ρ' t h'} {w' : World}, MG G Ob' Y g ρ' h' w' → Marked G.C.w0.heap.size Ds Ob' → (∃ i, finI n g i ∧ lookH h' h0.length = .cells true [.int .i64 (c0 + (i : Nat))]) → okS h'.length t →
      LeavesInM F m P.p fn (actY ρ' t Ds).tmps (fun e w' => ∃ v g Y i, e = .returned v ∧ finI n g i ∧ J g w' Y ∧ CellAt w' pl (c0 + (i : Nat))) (actY ρ' t Ds).defers .returning w' := by
    intro g Y Ob' Ds ρ' t h' w' hM' hD hg hok'
    obtain ⟨i, hgi, hli⟩ := hg
    refine leaves_marks hG Ds hM' hD fun w2 hM2 => ?_
    obtain ⟨v, _, _, h4⟩ := results_run hT hM2.m hok' (fn := fn) (K := fun _ => True) (by rw [hres]; trivial)
    refine ⟨_, h4, _, g, Y, i, rfl, hgi, hM2.j, fun ρ2 k2 he => ?_⟩
    have hh := lookH_holds hM2.m h0.length
    rw [hli] at hh
    have hpp : ρ' h0.length = pl := (hM2.m.agree h0.length (Nat.lt_succ_self _)).trans hρ
    unfold Holds at hh ⊢
    rw [he, ← hpp]
    exact hh
  rintro e a w' ⟨g, Y, Ob', Ds, ρ', t, h', hq, hM', hok', _, hD, rfl⟩
  cases e with
  | normal => exact fin hM' hD hq hok'
  | ret => exact fin hM' hD hq.2 hok'
  | _ => exact absurd hq.1 (by simp)

def seqKC (p : Program) (f : FuncId) (lb : List Value) (pl : Place) (n : Nat) (A : Nat → Int) (w : World) (X : Nat → Prop) : Prop := ∃ B, (∀ b, B b → ¬ X b) ∧ GivesC p f lb B pl n A w
theorem seqKC.keep {p : Program} {f : FuncId} {lb : List Value} {pl : Place} {n : Nat} {A : Nat → Int} {w0 w : World} {X Y : Nat → Prop} (h : seqKC p f lb pl n A w0 X) (hk : Keep X w0 w) (hY : ∀ b, Y b → X b ∨ w0.heap.size ≤ b) : seqKC p f lb pl n A w Y := by
  obtain ⟨B, h1, h2⟩ := h
  obtain ⟨q1, q2⟩ := keep_away h1 h2.1 hk hY
  exact ⟨B, q1, h2.later hk.size q2⟩
@[reducible] def seqPrC (p : Program) (f : FuncId) (lb : List Value) (pl : Place) (n : Nat) (A : Nat → Int) : Pr := ⟨p, seqKC p f lb pl n A, fun h hk hY => h.keep hk hY⟩

/-- A call that is handed the cell. -/
def callPin (P : Pr) (kc : Nat) (pl : Place) (f : FuncId) (args : List SV) (h : List Chunk) (K : Tok → SV → List Chunk → Prop) : Prop :=
  ∀ (C : Ctx) (ρ : Env) (w : World), P.know C.w0 C.X → Models C ρ h w → okL h.length args → ρ kc = pl →
    ((callFunc f (denL ρ args).toArray).run P.p w = .ok (.enter f (denL ρ args).toArray) w ∧
      ∀ (F : Fence) (n : Nat), WideF F → F.round = none → CallsIn F n P.p f (denL ρ args).toArray w (Ret C h ρ (K .mk)))
theorem callPin_of_codeY {tab : Tab} (hT : tab.Ok P) {f : FuncId} {fn : Func} {c : Code} (hf : P.p.funcs[f]? = some fn) (hname : (fn.name == "runtime.NumGoroutine") = false) (hb : fn.body = some c)
    {args : List SV} {h : List Chunk} {K : Tok → SV → List Chunk → Prop} {kc : Nat} {pl : Place} (hkc : kc < h.length) (hn : args.length ≤ fn.ntmps)
    (hv : codeY P h.length ⟨0, 0, fun _ => undef, liveA h, .nilFunc, fun _ => none, none, some (kc, pl)⟩ c (.run 0) ⟨fn.ntmps, argsL 0 args, fun _ => undef⟩ h (fun _ t h' => resS tab t h' (fun l => IntoR h.length (tupS l) h' K) fn.results.toList)
      (fun _ e t h' => e = .ret ∧ resS tab t h' (fun l => IntoR h.length (tupS l) h' K) fn.results.toList)) : callPin P kc pl f args h K := by
  intro C ρ w hkn hM hargs hpl
  refine ⟨enter_eq hf hname hb _ _, fun F m hF hr => ?_⟩
  let X' : Nat → Prop := fun b => C.X b ∨ C.w0.heap.size ≤ b
  let G : Ghost := { C := ⟨w, X', ρ, h.length⟩, V := fun _ => False, J := fun g _ _ => g = .run 0, s := ⟨0, 0, fun _ => undef, liveA h, .nilFunc, fun _ => none, none, some (kc, pl)⟩ }
  have hG : G.Ok P := by
    refine ⟨⟨fun h _ _ => h, fun h _ => h⟩, fun i _ _ _ _ _ hi => absurd hi (by simp [G]), fun b hb => hb.elim, fun k hk => ?_, ?_, fun _ _ h => (by cases h), fun k pl' h => ?_⟩
    · obtain ⟨c, hc, hl⟩ := liveA_lt hk
      exact ⟨get_lt hc, fun hn => ⟨hM.size k c hc ⟨hl, hn⟩, fun h => h⟩⟩
    · exact P.keep hkn hM.keep fun b hb => hb.elim (fun h => h) fun h => h.elim
    · simp only [G, Option.some.injEq, Prod.mk.injEq] at h
      obtain ⟨rfl, rfl⟩ := h
      exact ⟨hkc, hpl⟩
  have hMG : MG G [] (fun _ => False) (.run 0) ρ h w :=
    ⟨⟨Keep.refl _ _, fun _ _ => rfl, Nat.le_refl _, hM.holds, hM.okc, hM.size, fun k c hc hR => .inl (.inl (hM.wr k c hc hR)), hM.sep⟩, fun k c hc hR => .inl (hM.wr k c hc hR), fun _ _ _ _ h => h, fun _ _ _ _ p hp => (by cases hp), fun p hp => (by cases hp), fun b hb => hb.elim, rfl⟩
  have hok : okS h.length ⟨fn.ntmps, argsL 0 args, fun _ => undef⟩ := ⟨fun _ _ => rfl, argsL_ok args 0 fn.ntmps hargs (by omega)⟩
  have hw := hv G [] (fun _ => False) [] ρ w F m hG rfl (Nat.le_refl _) hF (fun l0 h => by rw [hr] at h; cases h) hMG hok ⟨List.nodup_nil, fun D hD => by cases hD⟩
  refine callsIn_of_wp_marks hf hb (hF.fn f) ?_ hr
  rw [init_eq ρ fn.ntmps args hn]
  refine Code.wpIn_mono ?_ hw
  have fin : ∀ {g Y Ob' Ds ρ' t h'} {w' : World}, MG G Ob' Y g ρ' h' w' → Marked G.C.w0.heap.size Ds Ob' → resS tab t h' (fun l => IntoR h.length (tupS l) h' K) fn.results.toList → okS h'.length t →
      LeavesInM F m P.p fn (actY ρ' t Ds).tmps (Ret C h ρ (K .mk)) (actY ρ' t Ds).defers .returning w' := by
    intro g Y Ob' Ds ρ' t h' w' hM' hD hr hok'
    refine leaves_marks hG Ds hM' hD fun w2 hM2 => ?_
    obtain ⟨v, h1, h3, h4⟩ := results_run hT hM2.m hok' (K := fun v => IntoR h.length v h' K) hr
    obtain ⟨ρ3, v3, h3', q1, q2, q3, q4, q5⟩ := h1 _ ρ' w2 (Nat.le_refl _) hM2.m h3
    refine ⟨_, h4, ρ3, v3, h3', by rw [q4], q1, ?_, q2.agree, q3, q5⟩
    refine ⟨?_, fun k hk => (q2.agree k (Nat.lt_of_lt_of_le hk hM.len)).trans (hM.agree k hk), Nat.le_trans hM.len q5, q2.holds, q2.okc, q2.size, fun k c hc hR => ?_, q2.sep⟩
    · exact hM.keep.step q2.keep fun b hb => hb.elim (fun h => h) fun h => h.elim
    · rcases q2.wr k c hc hR with hx | hx
      · exact hx.elim (fun h => h) fun h => h.elim
      · exact .inr (Nat.le_trans hM.keep.size hx)
  rintro e a w' ⟨g, Y, Ob', Ds, ρ', t, h', hq, hM', hok', _, hD, rfl⟩
  cases e with
  | normal => exact fin hM' hD hq hok'
  | ret => exact fin hM' hD hq.2 hok'
  | _ => exact absurd hq.1 (by simp)

theorem callP_openC {f : FuncId} {args : List SV} {h : List Chunk} {K KL : Tok → SV → List Chunk → Prop} {kc : Nat} {c0 : Int} (hkc : lookH h kc = .cells true [.int .i64 c0])
    (hc : ∀ C ρ w, P.know C.w0 C.X → Models C ρ h w → ∃ (P' : Pr) (argsL : List SV), P'.p = P.p ∧ P'.know w (fun b => b = (ρ kc).b) ∧ okL 1 argsL ∧ (∀ ρ', denL ρ args = denL ρ' argsL) ∧ callPin P' 0 (ρ kc) f argsL [.cells true [.int .i64 c0]] KL)
    (hk : ∀ v hl', KL .mk v hl' → 1 ≤ hl'.length ∧ roOk [.cells true [.int .i64 c0]] hl' ∧ keepsLive [.cells true [.int .i64 c0]] hl' ∧ K .mk (rnm (upG [kc] h.length) v) (lay (upG [kc] h.length) [kc] [.cells true [.int .i64 c0]] hl' h)) : callP P f args h K := by
  intro C ρ w hkn hM hok
  obtain ⟨⟨p', kn', kp'⟩, argsL, rfl, hkn', hol, hden, hcall⟩ := hc C ρ w hkn hM
  have hkc' : h[kc]? = some (.cells true [.int .i64 c0]) := lookH_some hkc (by simp)
  have hkl : kc < h.length := get_lt hkc'
  have hRW : RealW ρ kc (.cells true [.int .i64 c0]) := ⟨rfl, (hM.holds kc _ hkc').1⟩
  have hvia : viaG ρ (upG [kc] h.length) 0 = ρ kc := viaG_up rfl
  have hh : has (upG [kc] h.length) h [kc] [.cells true [.int .i64 c0]] := ⟨hkl, by rw [hkc]; simp [chEq, eqvL, eqv, rnmL, rnm], trivial⟩
  have hML : Models ⟨w, fun b => b = (ρ kc).b, viaG ρ (upG [kc] h.length), 1⟩ (viaG ρ (upG [kc] h.length)) [.cells true [.int .i64 c0]] w := by
    have h0 : ∀ (k : Nat) (x : Chunk), [Chunk.cells true [.int .i64 c0]][k]? = some x → k = 0 ∧ x = .cells true [.int .i64 c0] := fun k x hx => by
      rcases k with _ | k
      · simp at hx; exact ⟨rfl, hx.symm⟩
      · simp at hx
    refine ⟨Keep.refl _ _, fun _ _ => rfl, Nat.le_refl _, ?_, ?_, ?_, ?_, ?_⟩
    · intro k x hx
      obtain ⟨rfl, rfl⟩ := h0 k x hx
      have := hM.holds kc _ hkc'
      unfold Holds at this ⊢
      rw [hvia]
      exact this
    · intro k x hx
      obtain ⟨rfl, rfl⟩ := h0 k x hx
      simp [Chunk.good, okL, ok, storL, stor]
    · intro k x hx hR
      obtain ⟨rfl, rfl⟩ := h0 k x hx
      rw [hvia]
      exact hM.size kc _ hkc' hRW.real
    · intro k x hx hR
      obtain ⟨rfl, rfl⟩ := h0 k x hx
      exact .inl (by rw [hvia])
    · intro k k' x x' hx hx' hne
      obtain ⟨rfl, rfl⟩ := h0 k x hx
      obtain ⟨rfl, rfl⟩ := h0 k' x' hx'
      exact absurd rfl hne
  obtain ⟨h1, h2⟩ := hcall ⟨w, fun b => b = (ρ kc).b, viaG ρ (upG [kc] h.length), 1⟩ (viaG ρ (upG [kc] h.length)) w hkn' hML hol hvia
  rw [hden (viaG ρ (upG [kc] h.length))]
  refine .inr ⟨h1, fun F n hF hro => CallsIn.mono (h2 F n hF hro) ?_⟩
  rintro e w' ⟨ρ', sv, hl', rfl, q2, q3, q4, q5, q6⟩
  obtain ⟨p0, p1, p2, p3⟩ := hk sv hl' q2
  obtain ⟨ρ'', m1, m2, m3⟩ := frame_models hM (r := [kc]) (hl := [.cells true [.int .i64 c0]]) (by simp) hh (X := fun b => b = (ρ kc).b) (fun b hb => ⟨0, kc, _, rfl, rfl, rfl, hRW.2, hb⟩) q3 q4 q6 p1 p2
  have hll := lay_len (g := upG [kc] h.length) [kc] [.cells true [.int .i64 c0]] hl' h rfl (by simpa using p0)
  simp only [List.length_singleton] at hll
  refine ⟨ρ'', _, _, by rw [m3 sv q5], p3, m1, m2, ?_, by omega⟩
  refine (ok_rnm (n := hl'.length) (fun k hk => ?_) sv q5).2
  rcases k with _ | k
  · exact ⟨kc, by simp [upG, up, nth], by omega⟩
  · exact ⟨h.length + k, by simp [upG, up, nth], by omega⟩
end Go.Sx

set_option linter.all false
set_option maxRecDepth 100000
namespace Go.Proofs.Ytloinbebkhcndaa
open Go Go.Sx Go.RowKit Go.WideShapes Go.ChangeShapes

theorem open_ones {α : Type} (dflt : α) (val : α → Value) (sv : α → SV) (hsv : ∀ ρ a, (den ρ (sv a)).cells.toList = [val a]) {t el : TypeId} (ht : Try.prog.underlying t = some (.slice el)) (hc : Try.prog.cellsOf el = 1) {H : Type} {enc : TypeId × Value → H} {W : World} {base : Nat} {v : Value} {d : DataW H} {p : List MemPlace} (hcl : ∀ {fuel : Nat} {cs : List Value} {y}, DataW.trod enc Try.prog W 0 (fun _ => true) true fuel el cs = some y → ∃ a, cs = [val a]) (hv : Value.okWide Try.prog W .any base t v) (h : DataW.Trod enc Try.prog W 0 (fun _ => true) true t v d p) :
    ∃ (pl : Sx.Place) (n : Nat) (S : Nat → α), (∀ ρ k, ρ k = pl → v = den ρ (.osl k 0 0 1 n) ∧ Holds ρ W k (.row false n 1 fun i => sv (S i))) ∧ (pl.nil = false → pl.b < W.heap.size) ∧ n ≤ 9223372036854775807 := by
  obtain ⟨a, n, cap, rfl⟩ := okWide_slice ht hv
  obtain ⟨fuel, hf⟩ := h
  haveI : Inhabited α := ⟨dflt⟩
  rcases Go.Deep.open_slice ht hf with ⟨hcs, _⟩ | ⟨x, l, c, m, k, D, Pl, hcs, _, hl, hm, hmm, _, hcell⟩
  · simp [Value.cells] at hcs
    obtain ⟨rfl, rfl, rfl⟩ := hcs
    exact ⟨⟨0, 0, 0, true⟩, 0, fun _ => default, fun ρ k hk => ⟨by simp [den, hk], by simp [Holds, hk]⟩, by simp, by omega⟩
  · simp [Value.cells] at hcs
    obtain ⟨rfl, rfl, rfl⟩ := hcs
    have hmx : cap ≤ 9223372036854775807 := by
      have e : maxLen = 9223372036854775807 := rfl
      omega
    have hok : W.has Try.prog .any base x el cap := by
      unfold Value.okWide at hv
      rw [ht] at hv
      simp only [Cell.okWide, ht, Cell.ok] at hv
      exact hv.2.2
    obtain ⟨_, hsp, row, cells, hsh, _⟩ := hok
    obtain ⟨b, o, sp⟩ := x
    simp only at hsp
    subst hsp
    have hlt : b < W.heap.size := by
      rcases Nat.lt_or_ge b W.heap.size with h' | h'
      · exact h'
      · simp [World.shape?, Array.getElem?_eq_none h'] at hsh
    have hmn : n ≤ m := by simp at hmm; omega
    have hrow : ∀ i, i < n → ∃ s : α, ∀ j u, [val s][j]? = some u → W.cell? ⟨b, o + i * 1 + j, none⟩ = some u := fun i hi => by
      obtain ⟨cs', h1, h2⟩ := hcell i (by omega)
      rw [hc] at h1
      obtain ⟨_, hlen, hget⟩ := World.cells?_some h1
      obtain ⟨s, hs⟩ := hcl h2
      refine ⟨s, fun j u hj => ?_⟩
      rw [← hs] at hj
      have hj33 : j < 1 := by
        have := (List.getElem?_eq_some_iff.1 hj).1
        omega
      rw [← hj, ← hget j hj33]
      congr 1
      unfold Addr.add
      (repeat' split) <;> simp_all
    obtain ⟨S, hS⟩ := Go.Deep.choose_lt hrow
    refine ⟨⟨b, o, cap, false⟩, n, S, fun ρ k hk => ⟨by simp [den, hk], ?_⟩, fun _ => hlt, by omega⟩
    simp only [Holds, hk, Bool.false_eq_true, if_false]
    refine ⟨?_, hl, by simp⟩
    rw [cells_fam]
    refine rangeAt_flat (s := 1) n fun i hi => ?_
    rw [hsv]
    exact ⟨by simp, fun j u hj => hS i hi j u hj⟩

theorem open_nums {H : Type} {enc : TypeId × Value → H} {W : World} {base : Nat} {t : TypeId} (ht : Try.prog.underlying t = some (.slice 3)) {v : Value} {d : DataW H} {p : List MemPlace} (hv : Value.okWide Try.prog W .any base t v) (h : DataW.Trod enc Try.prog W 0 (fun _ => true) true t v d p) :
    ∃ (pl : Sx.Place) (n : Nat) (A : Nat → Int), (∀ ρ k, ρ k = pl → v = den ρ (.osl k 0 0 1 n) ∧ Holds ρ W k (.row false n 1 fun i => .int .i64 (A i))) ∧ (pl.nil = false → pl.b < W.heap.size) ∧ n ≤ 9223372036854775807 :=
  open_ones (0 : Int) (fun a => .int .i64 a) (fun a => .int .i64 a) (fun _ _ => rfl) ht (by kernel_rfl) (fun hf => by
    obtain ⟨a, e, _⟩ := DataW.trod_int Try.underlying3 hf
    exact ⟨a, e⟩) hv h
end Go.Proofs.Ytloinbebkhcndaa

set_option linter.all false
set_option maxRecDepth 40000
namespace Go.Proofs.Ytloinbebkhcndaa
open Go Go.Sx

theorem follows_mixed : Try.prog.follows .mixedOrders = true := by kernel_rfl
def np : Nat → Plan := fun _ => .nil
theorem res79 : Try.f79.results.toList = [.tmp 2] := rfl
theorem res100 : Try.f100.results.toList = [] := rfl
theorem res77 : Try.f77.results.toList = [] := rfl
theorem res78 : Try.f78.results.toList = [] := rfl
theorem res80 : Try.f80.results.toList = [] := rfl
theorem res81 : Try.f81.results.toList = [] := rfl
theorem res82 : Try.f82.results.toList = [] := rfl
theorem nofx : ∀ (P : Pr) (args : List SV) (r : SV), (fun _ : List SV => (none : Option SV)) args = some r → ok 0 r ∧ ∀ ρ w X, P.know w X → ∃ B, (∀ b, B b → ¬ X b) ∧ PureAt P.p B .nilFunc (denL ρ args) (den ρ r) w := fun _ _ _ h => by cases h

/-- over, of a sequence. -/
theorem c79 (f : FuncId) (lb : List Value) (h : List Chunk) (K : Tok → SV → List Chunk → Prop) (hK : K .mk (.v (.func (.func f) #[] ⟨lb⟩)) h) : callP Try.prog 79 [.v (.func (.func f) #[] ⟨lb⟩)] h K := by
  refine callP_of_code tabOk Try.func79 (by kernel_rfl) rfl (Nat.le_of_ble_eq_true rfl) (codeP_of_vc (pl := np) tabOk follows_mixed (by kernel_rfl) ?_)
  rw [Try.ntmps79]
  simp -implicitDefEqProofs (maxSteps := 1000000) (disch := omega) only [↓vcB, ↓gd, ↓opP, ↓qv, ↓ef, ↓bslS, ↓stS, ↓mkS, ↓rangeS, ↓nextS, ↓entryS, ↓delS, ↓mupS, ↓appS, ↓s2bS, ↓resS, evB, Sx.look, slot, ↓lkL, putS, putO, argsL, ↓reduceIte, ofV, of1, lookH, putH, List.length_cons, List.length_nil, List.length_append, List.replicate, List.append, List.cons_append, List.nil_append, List.append_assoc, List.map_cons, List.map_nil, convS, fldA, nthT, idxA, idxS, fldS, oslN, bnd, slS, unS, valI, lenS, lookS, takeC, psB, asRow, csB, Int.toNat_natCast, Int.le_refl, and_self, rdF, Ent.row, ldS, sz, szL, wrF, bldF, plT, bldS, srcS, nilS, nilEq, mapC, binH, binS2, structS, eqL, eqF, binS, arrS, isI, tupS, stor, storL, Value.oneCell', minS, maxS, capS, true_and, and_true, Nat.reduceAdd, Nat.reduceSub, Nat.reduceMul, Nat.reduceLT, Nat.reduceLeDiff, Nat.reduceEqDiff, Nat.reduceBEq, Int.reduceToNat, Int.reduceNeg, Nat.zero_add, Nat.add_zero, Nat.sub_self, Nat.sub_zero, Nat.zero_mul, Nat.mul_one, Nat.zero_le, if_true, if_false, reduceIte, stays, inL, same1, qn, ldN, convN, lenN, List.mem_cons, List.not_mem_nil, Option.map_some, Option.map_none, cond_true, cond_false, Sx.imp_true, Sx.imp_false, implies_true, Int.reduceEq, Int.reduceNe, Int.reduceLE, Int.reduceLT, decide_true, decide_false, List.zipIdx_cons, List.zipIdx_nil, or_false, false_or, forall_eq_or_imp, forall_eq, ne_eq, reduceCtorEq, not_false_eq_true, Bool.false_eq_true, Bool.true_eq_false, Bool.not_true, Bool.not_false, notInt, numB, tabB, Array.reduceGetElem?, upG, up, nth, lay, rcB, rnm, rnmL, wrB, pcB, res79]
  exact intoR_refl (Nat.le_refl _) hK
/-- slices.Values: the elements of a list. -/
theorem gives100 (n : Nat) (hn : n ≤ 9223372036854775807) (A : Nat → Int) {ρ : Env} {B : Nat → Prop} {w0 : World} (hB : ∀ b, B b → b < w0.heap.size) (hH : ∀ k c, [Chunk.cells false [.osl 1 0 0 1 n], .row false n 1 fun i => .int .i64 (A i)][k]? = some c → Holds ρ w0 k c ∧ (Real ρ k c → B (ρ k).b)) :
    Gives Try.prog 100 (denL ρ [.ptr 0 0]) B n (fun i => .int .i64 (A i)) w0 := by
  refine gives_of_codeY (P := Pr.of Try.prog) tabOk Try.func100 (by kernel_rfl) rfl res100 (Nat.le_of_ble_eq_true rfl) (by simp [slot, lkL, fixed, rg, renH, chB, lookH, eqvL, eqv, eqvF, rnmL, rnm, liveN, lvB, goodH, gdB, okL, ok, sz, szL, storL, stor, renT, okT, pcB]) (by simp [okL, ok]) (by simp [Chunk.wr]) (fun l => ?_) hB hH (fun _ _ _ => trivial) (fv := .nilFunc) (fx := fun _ => none) (nofx _)
  refine codeY_of_vc (pl := np) tabOk follows_mixed (by kernel_rfl) ?_
  rw [Try.ntmps100]
  simp -implicitDefEqProofs (maxSteps := 1000000) (disch := omega) only [↓vcB, ↓gd, ↓opP, ↓qv, ↓ef, ↓bslS, ↓stS, ↓mkS, ↓rangeS, ↓nextS, ↓entryS, ↓delS, ↓mupS, ↓appS, ↓s2bS, ↓resS, evB, Sx.look, slot, ↓lkL, putS, putO, argsL, ↓reduceIte, ofV, of1, lookH, putH, List.length_cons, List.length_nil, List.length_append, List.replicate, List.append, List.cons_append, List.nil_append, List.append_assoc, List.map_cons, List.map_nil, convS, fldA, nthT, idxA, idxS, fldS, oslN, bnd, slS, unS, valI, lenS, lookS, takeC, psB, asRow, csB, Int.toNat_natCast, Int.le_refl, and_self, rdF, Ent.row, ldS, sz, szL, wrF, bldF, plT, bldS, srcS, nilS, nilEq, mapC, binH, binS2, structS, eqL, eqF, binS, arrS, isI, tupS, stor, storL, Value.oneCell', minS, maxS, capS, true_and, and_true, Nat.reduceAdd, Nat.reduceSub, Nat.reduceMul, Nat.reduceLT, Nat.reduceLeDiff, Nat.reduceEqDiff, Nat.reduceBEq, Int.reduceToNat, Int.reduceNeg, Nat.zero_add, Nat.add_zero, Nat.sub_self, Nat.sub_zero, Nat.zero_mul, Nat.mul_one, Nat.zero_le, if_true, if_false, reduceIte, stays, inL, same1, qn, ldN, convN, lenN, List.mem_cons, List.not_mem_nil, Option.map_some, Option.map_none, cond_true, cond_false, Sx.imp_true, Sx.imp_false, implies_true, Int.reduceEq, Int.reduceNe, Int.reduceLE, Int.reduceLT, decide_true, decide_false, List.zipIdx_cons, List.zipIdx_nil, or_false, false_or, forall_eq_or_imp, forall_eq, ne_eq, reduceCtorEq, not_false_eq_true, Bool.false_eq_true, Bool.true_eq_false, Bool.not_true, Bool.not_false, notInt, numB, tabB, ↓vyB, ↓opY, roA, liveA, lvB, frz, frz1, true_or, Array.reduceGetElem?, upG, up, nth, lay, rcB, rnm, rnmL, wrB, pcB]
  refine codeY_loop (pl := np) tabOk follows_mixed (by kernel_rfl) (fun m g t h => ∃ (k : Nat) (j : Nat → Value), k + m = n ∧ g = .run k ∧ t = ⟨16, [(0, .v (.func (.yield l) #[] #[])), (5, .osl 1 0 0 1 n), (6, .int .i64 (n : Nat)), (7, .int .i64 (k : Nat))], j⟩ ∧ h = [Chunk.cells false [.osl 1 0 0 1 n], .row false n 1 fun i => .int .i64 (A i)]) ?_ ?_
  · intro d
    refine into_mk [some 0, some 1] [(0, .v (.func (.yield l) #[] #[])), (5, .osl 1 0 0 1 n), (6, .int .i64 (n : Nat)), (7, .int .i64 (0 : Nat))] [Chunk.cells false [.osl 1 0 0 1 n], .row false n 1 fun i => .int .i64 (A i)] ?_ ?_ ?_ ?_ ?_ ?_ ?_ ?_
    · simp [slot, lkL, fixed, rg, renH, chEq, lookH, eqvL, eqv, eqvF, rnmL, rnm, liveN, Chunk.live, goodH, Chunk.good, okL, ok, sz, szL, storL, stor, renT, okT]
    · simp [slot, lkL, fixed, rg, renH, chEq, lookH, eqvL, eqv, eqvF, rnmL, rnm, liveN, Chunk.live, goodH, Chunk.good, okL, ok, sz, szL, storL, stor, renT, okT]
    · simp [slot, lkL, fixed, rg, renH, chEq, lookH, eqvL, eqv, eqvF, rnmL, rnm, liveN, Chunk.live, goodH, Chunk.good, okL, ok, sz, szL, storL, stor, renT, okT]
    · simp [slot, lkL, fixed, rg, renH, chEq, lookH, eqvL, eqv, eqvF, rnmL, rnm, liveN, Chunk.live, goodH, Chunk.good, okL, ok, sz, szL, storL, stor, renT, okT]
    · simp [slot, lkL, fixed, rg, renH, chB, lookH, eqvL, eqv, eqvF, rnmL, rnm, liveN, lvB, goodH, gdB, okL, ok, sz, szL, storL, stor, renT, okT, pcB]
    · simp [slot, lkL, fixed, rg, renH, chEq, lookH, eqvL, eqv, eqvF, rnmL, rnm, liveN, Chunk.live, goodH, Chunk.good, okL, ok, sz, szL, storL, stor, renT, okT]
    · simp [slot, lkL, fixed, rg, renH, chEq, lookH, eqvL, eqv, eqvF, rnmL, rnm, liveN, Chunk.live, goodH, Chunk.good, okL, ok, sz, szL, storL, stor, renT, okT]
    · exact fun j => ⟨rfl, n, 0, j, by omega, rfl, rfl, rfl⟩
  · rintro m g t h ⟨k, j, hk, rfl, rfl, rfl⟩
    by_cases hlt : k < n
    · have g0 : decide ((k : Int) < n) = true := decide_eq_true (by omega)
      have a0 : IntKind.i64.wrap ((k : Int) + 1) = ((k + 1 : Nat) : Int) := by rw [wrap64 (by omega) (by omega)]; omega
      simp -implicitDefEqProofs (maxSteps := 1000000) (disch := omega) only [↓vcB, ↓gd, ↓opP, ↓qv, ↓ef, ↓bslS, ↓stS, ↓mkS, ↓rangeS, ↓nextS, ↓entryS, ↓delS, ↓mupS, ↓appS, ↓s2bS, ↓resS, evB, Sx.look, slot, ↓lkL, putS, putO, argsL, ↓reduceIte, ofV, of1, lookH, putH, List.length_cons, List.length_nil, List.length_append, List.replicate, List.append, List.cons_append, List.nil_append, List.append_assoc, List.map_cons, List.map_nil, convS, fldA, nthT, idxA, idxS, fldS, oslN, bnd, slS, unS, valI, lenS, lookS, takeC, psB, asRow, csB, Int.toNat_natCast, Int.le_refl, and_self, rdF, Ent.row, ldS, sz, szL, wrF, bldF, plT, bldS, srcS, nilS, nilEq, mapC, binH, binS2, structS, eqL, eqF, binS, arrS, isI, tupS, stor, storL, Value.oneCell', minS, maxS, capS, true_and, and_true, Nat.reduceAdd, Nat.reduceSub, Nat.reduceMul, Nat.reduceLT, Nat.reduceLeDiff, Nat.reduceEqDiff, Nat.reduceBEq, Int.reduceToNat, Int.reduceNeg, Nat.zero_add, Nat.add_zero, Nat.sub_self, Nat.sub_zero, Nat.zero_mul, Nat.mul_one, Nat.zero_le, if_true, if_false, reduceIte, stays, inL, same1, qn, ldN, convN, lenN, List.mem_cons, List.not_mem_nil, Option.map_some, Option.map_none, cond_true, cond_false, Sx.imp_true, Sx.imp_false, implies_true, Int.reduceEq, Int.reduceNe, Int.reduceLE, Int.reduceLT, decide_true, decide_false, List.zipIdx_cons, List.zipIdx_nil, or_false, false_or, forall_eq_or_imp, forall_eq, ne_eq, reduceCtorEq, not_false_eq_true, Bool.false_eq_true, Bool.true_eq_false, Bool.not_true, Bool.not_false, notInt, numB, tabB, ↓vyB, ↓opY, roA, liveA, lvB, frz, frz1, true_or, Array.reduceGetElem?, upG, up, nth, lay, rcB, rnm, rnmL, wrB, pcB, g0, a0]
      refine ⟨⟨by omega, by omega, by omega⟩, by omega, ?_⟩
      refine ⟨⟨hlt, fun _ => rfl⟩, ?_, endsG_stop (by omega)⟩
      intro d
      refine into_mk [some 0, some 1] [(0, .v (.func (.yield l) #[] #[])), (5, .osl 1 0 0 1 n), (6, .int .i64 (n : Nat)), (7, .int .i64 (k + 1 : Nat))] [Chunk.cells false [.osl 1 0 0 1 n], .row false n 1 fun i => .int .i64 (A i)] ?_ ?_ ?_ ?_ ?_ ?_ ?_ ?_
      · simp [slot, lkL, fixed, rg, renH, chEq, lookH, eqvL, eqv, eqvF, rnmL, rnm, liveN, Chunk.live, goodH, Chunk.good, okL, ok, sz, szL, storL, stor, renT, okT]
      · simp [slot, lkL, fixed, rg, renH, chEq, lookH, eqvL, eqv, eqvF, rnmL, rnm, liveN, Chunk.live, goodH, Chunk.good, okL, ok, sz, szL, storL, stor, renT, okT]
      · simp [slot, lkL, fixed, rg, renH, chEq, lookH, eqvL, eqv, eqvF, rnmL, rnm, liveN, Chunk.live, goodH, Chunk.good, okL, ok, sz, szL, storL, stor, renT, okT]
      · simp [slot, lkL, fixed, rg, renH, chEq, lookH, eqvL, eqv, eqvF, rnmL, rnm, liveN, Chunk.live, goodH, Chunk.good, okL, ok, sz, szL, storL, stor, renT, okT]
      · simp [slot, lkL, fixed, rg, renH, chB, lookH, eqvL, eqv, eqvF, rnmL, rnm, liveN, lvB, goodH, gdB, okL, ok, sz, szL, storL, stor, renT, okT, pcB]
      · simp [slot, lkL, fixed, rg, renH, chEq, lookH, eqvL, eqv, eqvF, rnmL, rnm, liveN, Chunk.live, goodH, Chunk.good, okL, ok, sz, szL, storL, stor, renT, okT]
      · simp [slot, lkL, fixed, rg, renH, chEq, lookH, eqvL, eqv, eqvF, rnmL, rnm, liveN, Chunk.live, goodH, Chunk.good, okL, ok, sz, szL, storL, stor, renT, okT]
      · exact fun j => ⟨rfl, m - 1, by omega, k + 1, j, by omega, rfl, rfl, rfl⟩
    · have hkn : k = n := by omega
      subst k
      have g0 : decide ((n : Int) < n) = false := decide_eq_false (by omega)
      simp -implicitDefEqProofs (maxSteps := 1000000) (disch := omega) only [↓vcB, ↓gd, ↓opP, ↓qv, ↓ef, ↓bslS, ↓stS, ↓mkS, ↓rangeS, ↓nextS, ↓entryS, ↓delS, ↓mupS, ↓appS, ↓s2bS, ↓resS, evB, Sx.look, slot, ↓lkL, putS, putO, argsL, ↓reduceIte, ofV, of1, lookH, putH, List.length_cons, List.length_nil, List.length_append, List.replicate, List.append, List.cons_append, List.nil_append, List.append_assoc, List.map_cons, List.map_nil, convS, fldA, nthT, idxA, idxS, fldS, oslN, bnd, slS, unS, valI, lenS, lookS, takeC, psB, asRow, csB, Int.toNat_natCast, Int.le_refl, and_self, rdF, Ent.row, ldS, sz, szL, wrF, bldF, plT, bldS, srcS, nilS, nilEq, mapC, binH, binS2, structS, eqL, eqF, binS, arrS, isI, tupS, stor, storL, Value.oneCell', minS, maxS, capS, true_and, and_true, Nat.reduceAdd, Nat.reduceSub, Nat.reduceMul, Nat.reduceLT, Nat.reduceLeDiff, Nat.reduceEqDiff, Nat.reduceBEq, Int.reduceToNat, Int.reduceNeg, Nat.zero_add, Nat.add_zero, Nat.sub_self, Nat.sub_zero, Nat.zero_mul, Nat.mul_one, Nat.zero_le, if_true, if_false, reduceIte, stays, inL, same1, qn, ldN, convN, lenN, List.mem_cons, List.not_mem_nil, Option.map_some, Option.map_none, cond_true, cond_false, Sx.imp_true, Sx.imp_false, implies_true, Int.reduceEq, Int.reduceNe, Int.reduceLE, Int.reduceLT, decide_true, decide_false, List.zipIdx_cons, List.zipIdx_nil, or_false, false_or, forall_eq_or_imp, forall_eq, ne_eq, reduceCtorEq, not_false_eq_true, Bool.false_eq_true, Bool.true_eq_false, Bool.not_true, Bool.not_false, notInt, numB, tabB, ↓vyB, ↓opY, roA, liveA, lvB, frz, frz1, true_or, Array.reduceGetElem?, upG, up, nth, lay, rcB, rnm, rnmL, wrB, pcB, g0]
      exact endsG_run rfl
end Go.Proofs.Ytloinbebkhcndaa

set_option linter.all false
set_option maxRecDepth 40000
namespace Go.Proofs.Ytloinbebkhcndaa
open Go Go.Sx

def pl81 : Nat → Plan := fun _ => .nil

def pl82 : Nat → Plan := fun _ => .nil

def pl78 : Nat → Plan
  | 4 => (.q 0 (.q 1 (.q 2 (.e1 3 [1] (.e1 4 [0, 1, 3] (.q 5 .nil))))))
  | _ => .nil

def pl80 : Nat → Plan := fun _ => .nil

/-- The first so many of a sequence. -/
theorem gives81 (f : FuncId) (lb : List Value) (n : Nat) (A : Nat → Int) (a : Int) (ha : -9223372036854775808 ≤ a ∧ a ≤ 9223372036854775807) (N : Nat) (hN : N = min n a.toNat) {ρ : Env} {B : Nat → Prop} {w0 : World} (hB : ∀ b, B b → b < w0.heap.size) (hH : ∀ k c, [Chunk.cells false [.int .i64 a], .cells false [.v (.func (.func f) #[] ⟨lb⟩)]][k]? = some c → Holds ρ w0 k c ∧ (Real ρ k c → B (ρ k).b))
    (hs : Gives Try.prog f lb B n (fun i => .int .i64 (A i)) w0) : Gives Try.prog 81 (denL ρ [.ptr 0 0, .ptr 1 0]) B N (fun i => .int .i64 (A i)) w0 := by
  refine gives_of_codeY (P := seqPr Try.prog f lb n fun i => .int .i64 (A i)) tabOk Try.func81 (by kernel_rfl) rfl res81 (Nat.le_of_ble_eq_true rfl) (by simp [slot, lkL, fixed, rg, renH, chB, lookH, eqvL, eqv, eqvF, rnmL, rnm, liveN, lvB, goodH, gdB, okL, ok, sz, szL, storL, stor, renT, okT, pcB, Value.oneCell']) (by simp [okL, ok]) (by simp [Chunk.wr]) (fun l => ?_) hB hH
    (fun w hw hb => ⟨B, fun b hb hx => hx.elim id fun h => h.2 hb, hs.later hw hb⟩) (fv := .nilFunc) (fx := fun _ => none) (nofx _)
  refine codeY_of_vc (pl := pl81) tabOk follows_mixed (by kernel_rfl) ?_
  rw [Try.ntmps81]
  by_cases h0 : a < 1
  · have h1 : decide (a < 1) = true := decide_eq_true h0
    simp -implicitDefEqProofs (maxSteps := 1000000) (disch := omega) only [↓vcB, ↓gd, ↓opP, ↓qv, ↓ef, ↓bslS, ↓stS, ↓mkS, ↓rangeS, ↓nextS, ↓entryS, ↓delS, ↓mupS, ↓appS, ↓s2bS, ↓resS, evB, Sx.look, slot, ↓lkL, putS, putO, argsL, ↓reduceIte, ofV, of1, lookH, putH, List.length_cons, List.length_nil, List.length_append, List.replicate, List.append, List.cons_append, List.nil_append, List.append_assoc, List.map_cons, List.map_nil, convS, fldA, nthT, idxA, idxS, fldS, oslN, bnd, slS, unS, valI, lenS, lookS, takeC, psB, asRow, csB, Int.toNat_natCast, Int.le_refl, and_self, rdF, Ent.row, ldS, sz, szL, wrF, bldF, plT, bldS, srcS, nilS, nilEq, mapC, binH, binS2, structS, eqL, eqF, binS, arrS, isI, tupS, stor, storL, Value.oneCell', minS, maxS, capS, true_and, and_true, Nat.reduceAdd, Nat.reduceSub, Nat.reduceMul, Nat.reduceLT, Nat.reduceLeDiff, Nat.reduceEqDiff, Nat.reduceBEq, Int.reduceToNat, Int.reduceNeg, Nat.zero_add, Nat.add_zero, Nat.sub_self, Nat.sub_zero, Nat.zero_mul, Nat.mul_one, Nat.zero_le, if_true, if_false, reduceIte, stays, inL, same1, qn, ldN, convN, lenN, List.mem_cons, List.not_mem_nil, Option.map_some, Option.map_none, cond_true, cond_false, Sx.imp_true, Sx.imp_false, implies_true, Int.reduceEq, Int.reduceNe, Int.reduceLE, Int.reduceLT, decide_true, decide_false, List.zipIdx_cons, List.zipIdx_nil, or_false, false_or, forall_eq_or_imp, forall_eq, ne_eq, reduceCtorEq, not_false_eq_true, Bool.false_eq_true, Bool.true_eq_false, Bool.not_true, Bool.not_false, notInt, numB, tabB, ↓vyB, ↓opY, roA, liveA, lvB, frz, frz1, true_or, Array.reduceGetElem?, upG, up, nth, lay, rcB, rnm, rnmL, wrB, pcB, h1]
    exact endsG_run (by omega)
  · have h1 : decide (a < 1) = false := decide_eq_false h0
    simp -implicitDefEqProofs (maxSteps := 1000000) (disch := omega) only [↓vcB, ↓gd, ↓opP, ↓qv, ↓ef, ↓bslS, ↓stS, ↓mkS, ↓rangeS, ↓nextS, ↓entryS, ↓delS, ↓mupS, ↓appS, ↓s2bS, ↓resS, evB, Sx.look, slot, ↓lkL, putS, putO, argsL, ↓reduceIte, ofV, of1, lookH, putH, List.length_cons, List.length_nil, List.length_append, List.replicate, List.append, List.cons_append, List.nil_append, List.append_assoc, List.map_cons, List.map_nil, convS, fldA, nthT, idxA, idxS, fldS, oslN, bnd, slS, unS, valI, lenS, lookS, takeC, psB, asRow, csB, Int.toNat_natCast, Int.le_refl, and_self, rdF, Ent.row, ldS, sz, szL, wrF, bldF, plT, bldS, srcS, nilS, nilEq, mapC, binH, binS2, structS, eqL, eqF, binS, arrS, isI, tupS, stor, storL, Value.oneCell', minS, maxS, capS, true_and, and_true, Nat.reduceAdd, Nat.reduceSub, Nat.reduceMul, Nat.reduceLT, Nat.reduceLeDiff, Nat.reduceEqDiff, Nat.reduceBEq, Int.reduceToNat, Int.reduceNeg, Nat.zero_add, Nat.add_zero, Nat.sub_self, Nat.sub_zero, Nat.zero_mul, Nat.mul_one, Nat.zero_le, if_true, if_false, reduceIte, stays, inL, same1, qn, ldN, convN, lenN, List.mem_cons, List.not_mem_nil, Option.map_some, Option.map_none, cond_true, cond_false, Sx.imp_true, Sx.imp_false, implies_true, Int.reduceEq, Int.reduceNe, Int.reduceLE, Int.reduceLT, decide_true, decide_false, List.zipIdx_cons, List.zipIdx_nil, or_false, false_or, forall_eq_or_imp, forall_eq, ne_eq, reduceCtorEq, not_false_eq_true, Bool.false_eq_true, Bool.true_eq_false, Bool.not_true, Bool.not_false, notInt, numB, tabB, ↓vyB, ↓opY, roA, liveA, lvB, frz, frz1, true_or, Array.reduceGetElem?, upG, up, nth, lay, rcB, rnm, rnmL, wrB, pcB, h1]
    refine callP_weak (c79 f lb _ _ ?_)
    simp -implicitDefEqProofs (maxSteps := 1000000) (disch := omega) only [↓vcB, ↓gd, ↓opP, ↓qv, ↓ef, ↓bslS, ↓stS, ↓mkS, ↓rangeS, ↓nextS, ↓entryS, ↓delS, ↓mupS, ↓appS, ↓s2bS, ↓resS, evB, Sx.look, slot, ↓lkL, putS, putO, argsL, ↓reduceIte, ofV, of1, lookH, putH, List.length_cons, List.length_nil, List.length_append, List.replicate, List.append, List.cons_append, List.nil_append, List.append_assoc, List.map_cons, List.map_nil, convS, fldA, nthT, idxA, idxS, fldS, oslN, bnd, slS, unS, valI, lenS, lookS, takeC, psB, asRow, csB, Int.toNat_natCast, Int.le_refl, and_self, rdF, Ent.row, ldS, sz, szL, wrF, bldF, plT, bldS, srcS, nilS, nilEq, mapC, binH, binS2, structS, eqL, eqF, binS, arrS, isI, tupS, stor, storL, Value.oneCell', minS, maxS, capS, true_and, and_true, Nat.reduceAdd, Nat.reduceSub, Nat.reduceMul, Nat.reduceLT, Nat.reduceLeDiff, Nat.reduceEqDiff, Nat.reduceBEq, Int.reduceToNat, Int.reduceNeg, Nat.zero_add, Nat.add_zero, Nat.sub_self, Nat.sub_zero, Nat.zero_mul, Nat.mul_one, Nat.zero_le, if_true, if_false, reduceIte, stays, inL, same1, qn, ldN, convN, lenN, List.mem_cons, List.not_mem_nil, Option.map_some, Option.map_none, cond_true, cond_false, Sx.imp_true, Sx.imp_false, implies_true, Int.reduceEq, Int.reduceNe, Int.reduceLE, Int.reduceLT, decide_true, decide_false, List.zipIdx_cons, List.zipIdx_nil, or_false, false_or, forall_eq_or_imp, forall_eq, ne_eq, reduceCtorEq, not_false_eq_true, Bool.false_eq_true, Bool.true_eq_false, Bool.not_true, Bool.not_false, notInt, numB, tabB, ↓vyB, ↓opY, roA, liveA, lvB, frz, frz1, true_or, Array.reduceGetElem?, upG, up, nth, lay, rcB, rnm, rnmL, wrB, pcB, h1]
    refine codeY_range [] n (fun i => .int .i64 (A i)) (fun _ => trivial) (by simp [roA, liveA, lookH, Chunk.live, Chunk.wr]) (by simp) (fun ρ w X hk _ => ?_) (fun i g h' => g = .run i ∧ (i : Int) < a ∧ i ≤ n ∧ h' = [.cells false [.int .i64 a], .cells false [.v (.func (.func f) #[] ⟨lb⟩)], .cells true [.v (.func (.yield l) #[] #[])], .cells true [.int .i64 (a - i)]]) (fun i g e h' => e = .ret ∧ endsG N g) ?_ ?_ ?_ ?_
    · exact hk.elim fun B hk => ⟨f, lb, B, rfl, hk.2, fun b hb => .inl (hk.1 b hb)⟩
    · exact ⟨rfl, by omega, by omega, by simp [frz, inL]⟩
    · rintro i g h' hi ⟨rfl, hia, hin, rfl⟩
      refine codeY_of_vc (pl := pl81) tabOk follows_mixed (by kernel_rfl) ?_
      simp -implicitDefEqProofs (maxSteps := 1000000) (disch := omega) only [↓vcB, ↓gd, ↓opP, ↓qv, ↓ef, ↓bslS, ↓stS, ↓mkS, ↓rangeS, ↓nextS, ↓entryS, ↓delS, ↓mupS, ↓appS, ↓s2bS, ↓resS, evB, Sx.look, slot, ↓lkL, putS, putO, argsL, ↓reduceIte, ofV, of1, lookH, putH, List.length_cons, List.length_nil, List.length_append, List.replicate, List.append, List.cons_append, List.nil_append, List.append_assoc, List.map_cons, List.map_nil, convS, fldA, nthT, idxA, idxS, fldS, oslN, bnd, slS, unS, valI, lenS, lookS, takeC, psB, asRow, csB, Int.toNat_natCast, Int.le_refl, and_self, rdF, Ent.row, ldS, sz, szL, wrF, bldF, plT, bldS, srcS, nilS, nilEq, mapC, binH, binS2, structS, eqL, eqF, binS, arrS, isI, tupS, stor, storL, Value.oneCell', minS, maxS, capS, true_and, and_true, Nat.reduceAdd, Nat.reduceSub, Nat.reduceMul, Nat.reduceLT, Nat.reduceLeDiff, Nat.reduceEqDiff, Nat.reduceBEq, Int.reduceToNat, Int.reduceNeg, Nat.zero_add, Nat.add_zero, Nat.sub_self, Nat.sub_zero, Nat.zero_mul, Nat.mul_one, Nat.zero_le, if_true, if_false, reduceIte, stays, inL, same1, qn, ldN, convN, lenN, List.mem_cons, List.not_mem_nil, Option.map_some, Option.map_none, cond_true, cond_false, Sx.imp_true, Sx.imp_false, implies_true, Int.reduceEq, Int.reduceNe, Int.reduceLE, Int.reduceLT, decide_true, decide_false, List.zipIdx_cons, List.zipIdx_nil, or_false, false_or, forall_eq_or_imp, forall_eq, ne_eq, reduceCtorEq, not_false_eq_true, Bool.false_eq_true, Bool.true_eq_false, Bool.not_true, Bool.not_false, notInt, numB, tabB, ↓vyB, ↓opY, roA, liveA, lvB, frz, frz1, true_or, Array.reduceGetElem?, upG, up, nth, lay, rcB, rnm, rnmL, wrB, pcB, h1]
      refine codeY_of_vc (pl := pl81) tabOk follows_mixed (by kernel_rfl) ?_
      have a0 : IntKind.i64.wrap (a - (i : Int) - 1) = a - ((i + 1 : Nat) : Int) := by rw [wrap64 (by omega) (by omega)]; omega
      by_cases hl : a - ((i + 1 : Nat) : Int) = 0
      · have g0 : (a - ((i + 1 : Nat) : Int) == 0) = true := by rw [hl]; rfl
        simp -implicitDefEqProofs (maxSteps := 1000000) (disch := omega) only [↓vcB, ↓gd, ↓opP, ↓qv, ↓ef, ↓bslS, ↓stS, ↓mkS, ↓rangeS, ↓nextS, ↓entryS, ↓delS, ↓mupS, ↓appS, ↓s2bS, ↓resS, evB, Sx.look, slot, ↓lkL, putS, putO, argsL, ↓reduceIte, ofV, of1, lookH, putH, List.length_cons, List.length_nil, List.length_append, List.replicate, List.append, List.cons_append, List.nil_append, List.append_assoc, List.map_cons, List.map_nil, convS, fldA, nthT, idxA, idxS, fldS, oslN, bnd, slS, unS, valI, lenS, lookS, takeC, psB, asRow, csB, Int.toNat_natCast, Int.le_refl, and_self, rdF, Ent.row, ldS, sz, szL, wrF, bldF, plT, bldS, srcS, nilS, nilEq, mapC, binH, binS2, structS, eqL, eqF, binS, arrS, isI, tupS, stor, storL, Value.oneCell', minS, maxS, capS, true_and, and_true, Nat.reduceAdd, Nat.reduceSub, Nat.reduceMul, Nat.reduceLT, Nat.reduceLeDiff, Nat.reduceEqDiff, Nat.reduceBEq, Int.reduceToNat, Int.reduceNeg, Nat.zero_add, Nat.add_zero, Nat.sub_self, Nat.sub_zero, Nat.zero_mul, Nat.mul_one, Nat.zero_le, if_true, if_false, reduceIte, stays, inL, same1, qn, ldN, convN, lenN, List.mem_cons, List.not_mem_nil, Option.map_some, Option.map_none, cond_true, cond_false, Sx.imp_true, Sx.imp_false, implies_true, Int.reduceEq, Int.reduceNe, Int.reduceLE, Int.reduceLT, decide_true, decide_false, List.zipIdx_cons, List.zipIdx_nil, or_false, false_or, forall_eq_or_imp, forall_eq, ne_eq, reduceCtorEq, not_false_eq_true, Bool.false_eq_true, Bool.true_eq_false, Bool.not_true, Bool.not_false, notInt, numB, tabB, ↓vyB, ↓opY, roA, liveA, lvB, frz, frz1, true_or, Array.reduceGetElem?, upG, up, nth, lay, rcB, rnm, rnmL, wrB, pcB, a0, g0]
        exact ⟨⟨by omega, fun _ => rfl⟩, ⟨rfl, intoY_refl ⟨endsG_run (by omega), by simp [roA, liveA, lookH, frz, frz1, inL, Chunk.live, Chunk.wr]⟩⟩, rfl, intoY_refl ⟨endsG_stop (by omega), by simp [roA, liveA, lookH, frz, frz1, inL, Chunk.live, Chunk.wr]⟩⟩
      · have g0 : (a - ((i + 1 : Nat) : Int) == 0) = false := beq_eq_false_iff_ne.2 hl
        simp -implicitDefEqProofs (maxSteps := 1000000) (disch := omega) only [↓vcB, ↓gd, ↓opP, ↓qv, ↓ef, ↓bslS, ↓stS, ↓mkS, ↓rangeS, ↓nextS, ↓entryS, ↓delS, ↓mupS, ↓appS, ↓s2bS, ↓resS, evB, Sx.look, slot, ↓lkL, putS, putO, argsL, ↓reduceIte, ofV, of1, lookH, putH, List.length_cons, List.length_nil, List.length_append, List.replicate, List.append, List.cons_append, List.nil_append, List.append_assoc, List.map_cons, List.map_nil, convS, fldA, nthT, idxA, idxS, fldS, oslN, bnd, slS, unS, valI, lenS, lookS, takeC, psB, asRow, csB, Int.toNat_natCast, Int.le_refl, and_self, rdF, Ent.row, ldS, sz, szL, wrF, bldF, plT, bldS, srcS, nilS, nilEq, mapC, binH, binS2, structS, eqL, eqF, binS, arrS, isI, tupS, stor, storL, Value.oneCell', minS, maxS, capS, true_and, and_true, Nat.reduceAdd, Nat.reduceSub, Nat.reduceMul, Nat.reduceLT, Nat.reduceLeDiff, Nat.reduceEqDiff, Nat.reduceBEq, Int.reduceToNat, Int.reduceNeg, Nat.zero_add, Nat.add_zero, Nat.sub_self, Nat.sub_zero, Nat.zero_mul, Nat.mul_one, Nat.zero_le, if_true, if_false, reduceIte, stays, inL, same1, qn, ldN, convN, lenN, List.mem_cons, List.not_mem_nil, Option.map_some, Option.map_none, cond_true, cond_false, Sx.imp_true, Sx.imp_false, implies_true, Int.reduceEq, Int.reduceNe, Int.reduceLE, Int.reduceLT, decide_true, decide_false, List.zipIdx_cons, List.zipIdx_nil, or_false, false_or, forall_eq_or_imp, forall_eq, ne_eq, reduceCtorEq, not_false_eq_true, Bool.false_eq_true, Bool.true_eq_false, Bool.not_true, Bool.not_false, notInt, numB, tabB, ↓vyB, ↓opY, roA, liveA, lvB, frz, frz1, true_or, Array.reduceGetElem?, upG, up, nth, lay, rcB, rnm, rnmL, wrB, pcB, a0, g0]
        exact ⟨⟨by omega, fun _ => rfl⟩, intoY_refl ⟨⟨by omega, by omega, rfl⟩, by simp [roA, liveA, lookH, frz, frz1, inL, Chunk.live, Chunk.wr]⟩, rfl, intoY_refl ⟨endsG_stop (by omega), by simp [roA, liveA, lookH, frz, frz1, inL, Chunk.live, Chunk.wr]⟩⟩
    · rintro g h' ⟨rfl, hia, hin, rfl⟩
      exact endsG_run (by omega)
    · rintro i g e h' hi ⟨rfl, he⟩
      exact ⟨rfl, he⟩

/-- Those behind the first. -/
theorem gives82 (f : FuncId) (lb : List Value) (n : Nat) (A : Nat → Int) (a : Int) (ha : -9223372036854775808 ≤ a ∧ a ≤ 9223372036854775807) (N : Nat) (hN : N = n - a.toNat) {ρ : Env} {B : Nat → Prop} {w0 : World} (hB : ∀ b, B b → b < w0.heap.size) (hH : ∀ k c, [Chunk.cells false [.int .i64 a], .cells false [.v (.func (.func f) #[] ⟨lb⟩)]][k]? = some c → Holds ρ w0 k c ∧ (Real ρ k c → B (ρ k).b))
    (hs : Gives Try.prog f lb B n (fun i => .int .i64 (A i)) w0) : Gives Try.prog 82 (denL ρ [.ptr 0 0, .ptr 1 0]) B N (fun i => .int .i64 (A (a.toNat + i))) w0 := by
  refine gives_of_codeY (P := seqPr Try.prog f lb n fun i => .int .i64 (A i)) tabOk Try.func82 (by kernel_rfl) rfl res82 (Nat.le_of_ble_eq_true rfl) (by simp [slot, lkL, fixed, rg, renH, chB, lookH, eqvL, eqv, eqvF, rnmL, rnm, liveN, lvB, goodH, gdB, okL, ok, sz, szL, storL, stor, renT, okT, pcB, Value.oneCell']) (by simp [okL, ok]) (by simp [Chunk.wr]) (fun l => ?_) hB hH
    (fun w hw hb => ⟨B, fun b hb hx => hx.elim id fun h => h.2 hb, hs.later hw hb⟩) (fv := .nilFunc) (fx := fun _ => none) (nofx _)
  refine codeY_of_vc (pl := pl82) tabOk follows_mixed (by kernel_rfl) ?_
  rw [Try.ntmps82]
  simp -implicitDefEqProofs (maxSteps := 1000000) (disch := omega) only [↓vcB, ↓gd, ↓opP, ↓qv, ↓ef, ↓bslS, ↓stS, ↓mkS, ↓rangeS, ↓nextS, ↓entryS, ↓delS, ↓mupS, ↓appS, ↓s2bS, ↓resS, evB, Sx.look, slot, ↓lkL, putS, putO, argsL, ↓reduceIte, ofV, of1, lookH, putH, List.length_cons, List.length_nil, List.length_append, List.replicate, List.append, List.cons_append, List.nil_append, List.append_assoc, List.map_cons, List.map_nil, convS, fldA, nthT, idxA, idxS, fldS, oslN, bnd, slS, unS, valI, lenS, lookS, takeC, psB, asRow, csB, Int.toNat_natCast, Int.le_refl, and_self, rdF, Ent.row, ldS, sz, szL, wrF, bldF, plT, bldS, srcS, nilS, nilEq, mapC, binH, binS2, structS, eqL, eqF, binS, arrS, isI, tupS, stor, storL, Value.oneCell', minS, maxS, capS, true_and, and_true, Nat.reduceAdd, Nat.reduceSub, Nat.reduceMul, Nat.reduceLT, Nat.reduceLeDiff, Nat.reduceEqDiff, Nat.reduceBEq, Int.reduceToNat, Int.reduceNeg, Nat.zero_add, Nat.add_zero, Nat.sub_self, Nat.sub_zero, Nat.zero_mul, Nat.mul_one, Nat.zero_le, if_true, if_false, reduceIte, stays, inL, same1, qn, ldN, convN, lenN, List.mem_cons, List.not_mem_nil, Option.map_some, Option.map_none, cond_true, cond_false, Sx.imp_true, Sx.imp_false, implies_true, Int.reduceEq, Int.reduceNe, Int.reduceLE, Int.reduceLT, decide_true, decide_false, List.zipIdx_cons, List.zipIdx_nil, or_false, false_or, forall_eq_or_imp, forall_eq, ne_eq, reduceCtorEq, not_false_eq_true, Bool.false_eq_true, Bool.true_eq_false, Bool.not_true, Bool.not_false, notInt, numB, tabB, ↓vyB, ↓opY, roA, liveA, lvB, frz, frz1, true_or, Array.reduceGetElem?, upG, up, nth, lay, rcB, rnm, rnmL, wrB, pcB]
  refine callP_weak (c79 f lb _ _ ?_)
  simp -implicitDefEqProofs (maxSteps := 1000000) (disch := omega) only [↓vcB, ↓gd, ↓opP, ↓qv, ↓ef, ↓bslS, ↓stS, ↓mkS, ↓rangeS, ↓nextS, ↓entryS, ↓delS, ↓mupS, ↓appS, ↓s2bS, ↓resS, evB, Sx.look, slot, ↓lkL, putS, putO, argsL, ↓reduceIte, ofV, of1, lookH, putH, List.length_cons, List.length_nil, List.length_append, List.replicate, List.append, List.cons_append, List.nil_append, List.append_assoc, List.map_cons, List.map_nil, convS, fldA, nthT, idxA, idxS, fldS, oslN, bnd, slS, unS, valI, lenS, lookS, takeC, psB, asRow, csB, Int.toNat_natCast, Int.le_refl, and_self, rdF, Ent.row, ldS, sz, szL, wrF, bldF, plT, bldS, srcS, nilS, nilEq, mapC, binH, binS2, structS, eqL, eqF, binS, arrS, isI, tupS, stor, storL, Value.oneCell', minS, maxS, capS, true_and, and_true, Nat.reduceAdd, Nat.reduceSub, Nat.reduceMul, Nat.reduceLT, Nat.reduceLeDiff, Nat.reduceEqDiff, Nat.reduceBEq, Int.reduceToNat, Int.reduceNeg, Nat.zero_add, Nat.add_zero, Nat.sub_self, Nat.sub_zero, Nat.zero_mul, Nat.mul_one, Nat.zero_le, if_true, if_false, reduceIte, stays, inL, same1, qn, ldN, convN, lenN, List.mem_cons, List.not_mem_nil, Option.map_some, Option.map_none, cond_true, cond_false, Sx.imp_true, Sx.imp_false, implies_true, Int.reduceEq, Int.reduceNe, Int.reduceLE, Int.reduceLT, decide_true, decide_false, List.zipIdx_cons, List.zipIdx_nil, or_false, false_or, forall_eq_or_imp, forall_eq, ne_eq, reduceCtorEq, not_false_eq_true, Bool.false_eq_true, Bool.true_eq_false, Bool.not_true, Bool.not_false, notInt, numB, tabB, ↓vyB, ↓opY, roA, liveA, lvB, frz, frz1, true_or, Array.reduceGetElem?, upG, up, nth, lay, rcB, rnm, rnmL, wrB, pcB]
  refine codeY_range [] n (fun i => .int .i64 (A i)) (fun _ => trivial) (by simp [roA, liveA, lookH, Chunk.live, Chunk.wr]) (by simp) (fun ρ w X hk _ => ?_) (fun i g h' => ∃ left : Int, g = .run (i - a.toNat) ∧ i ≤ n ∧ left = (if (i : Int) < a then a - i else min a 0) ∧ h' = [.cells false [.int .i64 a], .cells false [.v (.func (.func f) #[] ⟨lb⟩)], .cells true [.v (.func (.yield l) #[] #[])], .cells true [.int .i64 left]]) (fun i g e h' => e = .ret ∧ endsG N g) ?_ ?_ ?_ ?_
  · exact hk.elim fun B hk => ⟨f, lb, B, rfl, hk.2, fun b hb => .inl (hk.1 b hb)⟩
  · exact ⟨a, by simp, by omega, by split <;> omega, by simp [frz, inL]⟩
  · rintro i g h' hi ⟨left, rfl, hin, hleft, rfl⟩
    refine codeY_of_vc (pl := pl82) tabOk follows_mixed (by kernel_rfl) ?_
    simp -implicitDefEqProofs (maxSteps := 1000000) (disch := omega) only [↓vcB, ↓gd, ↓opP, ↓qv, ↓ef, ↓bslS, ↓stS, ↓mkS, ↓rangeS, ↓nextS, ↓entryS, ↓delS, ↓mupS, ↓appS, ↓s2bS, ↓resS, evB, Sx.look, slot, ↓lkL, putS, putO, argsL, ↓reduceIte, ofV, of1, lookH, putH, List.length_cons, List.length_nil, List.length_append, List.replicate, List.append, List.cons_append, List.nil_append, List.append_assoc, List.map_cons, List.map_nil, convS, fldA, nthT, idxA, idxS, fldS, oslN, bnd, slS, unS, valI, lenS, lookS, takeC, psB, asRow, csB, Int.toNat_natCast, Int.le_refl, and_self, rdF, Ent.row, ldS, sz, szL, wrF, bldF, plT, bldS, srcS, nilS, nilEq, mapC, binH, binS2, structS, eqL, eqF, binS, arrS, isI, tupS, stor, storL, Value.oneCell', minS, maxS, capS, true_and, and_true, Nat.reduceAdd, Nat.reduceSub, Nat.reduceMul, Nat.reduceLT, Nat.reduceLeDiff, Nat.reduceEqDiff, Nat.reduceBEq, Int.reduceToNat, Int.reduceNeg, Nat.zero_add, Nat.add_zero, Nat.sub_self, Nat.sub_zero, Nat.zero_mul, Nat.mul_one, Nat.zero_le, if_true, if_false, reduceIte, stays, inL, same1, qn, ldN, convN, lenN, List.mem_cons, List.not_mem_nil, Option.map_some, Option.map_none, cond_true, cond_false, Sx.imp_true, Sx.imp_false, implies_true, Int.reduceEq, Int.reduceNe, Int.reduceLE, Int.reduceLT, decide_true, decide_false, List.zipIdx_cons, List.zipIdx_nil, or_false, false_or, forall_eq_or_imp, forall_eq, ne_eq, reduceCtorEq, not_false_eq_true, Bool.false_eq_true, Bool.true_eq_false, Bool.not_true, Bool.not_false, notInt, numB, tabB, ↓vyB, ↓opY, roA, liveA, lvB, frz, frz1, true_or, Array.reduceGetElem?, upG, up, nth, lay, rcB, rnm, rnmL, wrB, pcB]
    refine codeY_of_vc (pl := pl82) tabOk follows_mixed (by kernel_rfl) ?_
    by_cases hl : (i : Int) < a
    · rw [if_pos hl] at hleft
      have g0 : decide (left > 0) = true := decide_eq_true (by omega)
      have a0 : IntKind.i64.wrap (left - 1) = left - 1 := wrap64 (by omega) (by omega)
      simp -implicitDefEqProofs (maxSteps := 1000000) (disch := omega) only [↓vcB, ↓gd, ↓opP, ↓qv, ↓ef, ↓bslS, ↓stS, ↓mkS, ↓rangeS, ↓nextS, ↓entryS, ↓delS, ↓mupS, ↓appS, ↓s2bS, ↓resS, evB, Sx.look, slot, ↓lkL, putS, putO, argsL, ↓reduceIte, ofV, of1, lookH, putH, List.length_cons, List.length_nil, List.length_append, List.replicate, List.append, List.cons_append, List.nil_append, List.append_assoc, List.map_cons, List.map_nil, convS, fldA, nthT, idxA, idxS, fldS, oslN, bnd, slS, unS, valI, lenS, lookS, takeC, psB, asRow, csB, Int.toNat_natCast, Int.le_refl, and_self, rdF, Ent.row, ldS, sz, szL, wrF, bldF, plT, bldS, srcS, nilS, nilEq, mapC, binH, binS2, structS, eqL, eqF, binS, arrS, isI, tupS, stor, storL, Value.oneCell', minS, maxS, capS, true_and, and_true, Nat.reduceAdd, Nat.reduceSub, Nat.reduceMul, Nat.reduceLT, Nat.reduceLeDiff, Nat.reduceEqDiff, Nat.reduceBEq, Int.reduceToNat, Int.reduceNeg, Nat.zero_add, Nat.add_zero, Nat.sub_self, Nat.sub_zero, Nat.zero_mul, Nat.mul_one, Nat.zero_le, if_true, if_false, reduceIte, stays, inL, same1, qn, ldN, convN, lenN, List.mem_cons, List.not_mem_nil, Option.map_some, Option.map_none, cond_true, cond_false, Sx.imp_true, Sx.imp_false, implies_true, Int.reduceEq, Int.reduceNe, Int.reduceLE, Int.reduceLT, decide_true, decide_false, List.zipIdx_cons, List.zipIdx_nil, or_false, false_or, forall_eq_or_imp, forall_eq, ne_eq, reduceCtorEq, not_false_eq_true, Bool.false_eq_true, Bool.true_eq_false, Bool.not_true, Bool.not_false, notInt, numB, tabB, ↓vyB, ↓opY, roA, liveA, lvB, frz, frz1, true_or, Array.reduceGetElem?, upG, up, nth, lay, rcB, rnm, rnmL, wrB, pcB, a0, g0]
      refine intoY_refl ⟨⟨left - 1, by congr 1; omega, by omega, ?_, rfl⟩, by simp [roA, liveA, lookH, frz, frz1, inL, Chunk.live, Chunk.wr]⟩
      split <;> omega
    · rw [if_neg hl] at hleft
      have g0 : decide (left > 0) = false := decide_eq_false (by omega)
      simp -implicitDefEqProofs (maxSteps := 1000000) (disch := omega) only [↓vcB, ↓gd, ↓opP, ↓qv, ↓ef, ↓bslS, ↓stS, ↓mkS, ↓rangeS, ↓nextS, ↓entryS, ↓delS, ↓mupS, ↓appS, ↓s2bS, ↓resS, evB, Sx.look, slot, ↓lkL, putS, putO, argsL, ↓reduceIte, ofV, of1, lookH, putH, List.length_cons, List.length_nil, List.length_append, List.replicate, List.append, List.cons_append, List.nil_append, List.append_assoc, List.map_cons, List.map_nil, convS, fldA, nthT, idxA, idxS, fldS, oslN, bnd, slS, unS, valI, lenS, lookS, takeC, psB, asRow, csB, Int.toNat_natCast, Int.le_refl, and_self, rdF, Ent.row, ldS, sz, szL, wrF, bldF, plT, bldS, srcS, nilS, nilEq, mapC, binH, binS2, structS, eqL, eqF, binS, arrS, isI, tupS, stor, storL, Value.oneCell', minS, maxS, capS, true_and, and_true, Nat.reduceAdd, Nat.reduceSub, Nat.reduceMul, Nat.reduceLT, Nat.reduceLeDiff, Nat.reduceEqDiff, Nat.reduceBEq, Int.reduceToNat, Int.reduceNeg, Nat.zero_add, Nat.add_zero, Nat.sub_self, Nat.sub_zero, Nat.zero_mul, Nat.mul_one, Nat.zero_le, if_true, if_false, reduceIte, stays, inL, same1, qn, ldN, convN, lenN, List.mem_cons, List.not_mem_nil, Option.map_some, Option.map_none, cond_true, cond_false, Sx.imp_true, Sx.imp_false, implies_true, Int.reduceEq, Int.reduceNe, Int.reduceLE, Int.reduceLT, decide_true, decide_false, List.zipIdx_cons, List.zipIdx_nil, or_false, false_or, forall_eq_or_imp, forall_eq, ne_eq, reduceCtorEq, not_false_eq_true, Bool.false_eq_true, Bool.true_eq_false, Bool.not_true, Bool.not_false, notInt, numB, tabB, ↓vyB, ↓opY, roA, liveA, lvB, frz, frz1, true_or, Array.reduceGetElem?, upG, up, nth, lay, rcB, rnm, rnmL, wrB, pcB, g0]
      exact ⟨⟨by omega, fun _ => by rw [show a.toNat + (i - a.toNat) = i by omega]; rfl⟩, intoY_refl ⟨⟨left, by congr 1; omega, by omega, by rw [if_neg (by omega)]; exact hleft, rfl⟩, by simp [roA, liveA, lookH, frz, frz1, inL, Chunk.live, Chunk.wr]⟩, rfl, intoY_refl ⟨endsG_stop (by omega), by simp [roA, liveA, lookH, frz, frz1, inL, Chunk.live, Chunk.wr]⟩⟩
  · rintro g h' ⟨left, rfl, hin, hleft, rfl⟩
    exact endsG_run (by omega)
  · rintro i g e h' hi ⟨rfl, he⟩
    exact ⟨rfl, he⟩

def fxI (φ : Int → Int) : List SV → Option SV
  | [.int .i64 x] => some (.int .i64 (φ x))
  | _ => none
def fxB (β : Int → Bool) : List SV → Option SV
  | [.int .i64 x] => some (.bool (β x))
  | _ => none
theorem fxI_1 (φ : Int → Int) (x : Int) : fxI φ [.int .i64 x] = some (.int .i64 (φ x)) := rfl
theorem fxB_1 (β : Int → Bool) (x : Int) : fxB β [.int .i64 x] = some (.bool (β x)) := rfl
theorem fxI_ok {φ : Int → Int} {args : List SV} {r : SV} (h : fxI φ args = some r) : ok 0 r := by
  unfold fxI at h
  split at h <;> cases h
  trivial
theorem fxB_ok {β : Int → Bool} {args : List SV} {r : SV} (h : fxB β args = some r) : ok 0 r := by
  unfold fxB at h
  split at h <;> cases h
  trivial
/-- A function value that only reads: what it gives. -/
def Pures (B : Nat → Prop) (fv : Value) (fx : List SV → Option SV) (w : World) : Prop := ∀ args r, fx args = some r → ok 0 r ∧ ∀ ρ, PureAt Try.prog B fv (denL ρ args) (den ρ r) w
theorem Pures.later {B : Nat → Prop} {fv : Value} {fx : List SV → Option SV} {w0 w : World} (h : Pures B fv fx w0) (hs : w0.heap.size ≤ w.heap.size) (hb : ∀ b, B b → w.heap[b]? = w0.heap[b]?) : Pures B fv fx w := fun args r hr => ⟨(h args r hr).1, fun ρ => ((h args r hr).2 ρ).later hs hb⟩
def cntB (b : Nat → Bool) (i : Nat) : Nat := ((List.range i).filter b).length
theorem cntB_succ (b : Nat → Bool) (i : Nat) : cntB b (i + 1) = cntB b i + (if b i then 1 else 0) := by
  unfold cntB
  rw [List.range_succ, List.filter_append, List.length_append]
  cases h : b i <;> simp [h]
theorem cntB_mono (b : Nat → Bool) {i j : Nat} (h : i ≤ j) : cntB b i ≤ cntB b j := by
  induction h with
  | refl => exact Nat.le_refl _
  | step h ih => rw [cntB_succ]; omega
theorem cntB_lt (b : Nat → Bool) {i n : Nat} (h : i < n) (hb : b i = true) : cntB b i < cntB b n := by
  have h1 := cntB_mono b (show i + 1 ≤ n from h)
  rw [cntB_succ, hb] at h1
  simp at h1
  omega

/-- What a function makes of each. -/
theorem gives78 (f : FuncId) (lb : List Value) (f2 : FuncId) (lb2 : List Value) (n : Nat) (A : Nat → Int) (φ : Int → Int) {ρ : Env} {B : Nat → Prop} {w0 : World} (hB : ∀ b, B b → b < w0.heap.size) (hH : ∀ k c, [Chunk.cells false [.v (.func (.func f2) #[] ⟨lb2⟩)], .cells false [.v (.func (.func f) #[] ⟨lb⟩)]][k]? = some c → Holds ρ w0 k c ∧ (Real ρ k c → B (ρ k).b))
    (hs : Gives Try.prog f lb B n (fun i => .int .i64 (A i)) w0) (hf : Pures B (.func (.func f2) #[] ⟨lb2⟩) (fxI φ) w0) : Gives Try.prog 78 (denL ρ [.ptr 0 0, .ptr 1 0]) B n (fun i => .int .i64 (φ (A i))) w0 := by
  refine gives_of_codeY (P := seqfPr Try.prog f lb n (fun i => .int .i64 (A i)) (.func (.func f2) #[] ⟨lb2⟩) (fxI φ) ⟨[.int .i64 0], _, rfl⟩) tabOk Try.func78 (by kernel_rfl) rfl res78 (Nat.le_of_ble_eq_true rfl) (by simp [slot, lkL, fixed, rg, renH, chB, lookH, eqvL, eqv, eqvF, rnmL, rnm, liveN, lvB, goodH, gdB, okL, ok, sz, szL, storL, stor, renT, okT, pcB, Value.oneCell']) (by simp [okL, ok]) (by simp [Chunk.wr]) (fun l => ?_) hB hH
    (fun w hw hb => ⟨⟨B, fun b hb hx => hx.elim id fun h => h.2 hb, hs.later hw hb⟩, B, fun b hb hx => hx.elim id fun h => h.2 hb, hf.later hw hb⟩) (fv := (.func (.func f2) #[] ⟨lb2⟩)) (fx := fxI φ) (fun args r har => ⟨fxI_ok har, fun ρ w X hk => hk.2.elim fun B h => ⟨B, h.1, (h.2 args r har).2 ρ⟩⟩)
  refine codeY_of_vc (pl := pl78) tabOk follows_mixed (by kernel_rfl) ?_
  rw [Try.ntmps78]
  simp -implicitDefEqProofs (maxSteps := 1000000) (disch := omega) only [↓vcB, ↓gd, ↓opP, ↓qv, ↓ef, ↓bslS, ↓stS, ↓mkS, ↓rangeS, ↓nextS, ↓entryS, ↓delS, ↓mupS, ↓appS, ↓s2bS, ↓resS, evB, Sx.look, slot, ↓lkL, putS, putO, argsL, ↓reduceIte, ofV, of1, lookH, putH, List.length_cons, List.length_nil, List.length_append, List.replicate, List.append, List.cons_append, List.nil_append, List.append_assoc, List.map_cons, List.map_nil, convS, fldA, nthT, idxA, idxS, fldS, oslN, bnd, slS, unS, valI, lenS, lookS, takeC, psB, asRow, csB, Int.toNat_natCast, Int.le_refl, and_self, rdF, Ent.row, ldS, sz, szL, wrF, bldF, plT, bldS, srcS, nilS, nilEq, mapC, binH, binS2, structS, eqL, eqF, binS, arrS, isI, tupS, stor, storL, Value.oneCell', minS, maxS, capS, true_and, and_true, Nat.reduceAdd, Nat.reduceSub, Nat.reduceMul, Nat.reduceLT, Nat.reduceLeDiff, Nat.reduceEqDiff, Nat.reduceBEq, Int.reduceToNat, Int.reduceNeg, Nat.zero_add, Nat.add_zero, Nat.sub_self, Nat.sub_zero, Nat.zero_mul, Nat.mul_one, Nat.zero_le, if_true, if_false, reduceIte, stays, inL, same1, qn, ldN, convN, lenN, List.mem_cons, List.not_mem_nil, Option.map_some, Option.map_none, cond_true, cond_false, Sx.imp_true, Sx.imp_false, implies_true, Int.reduceEq, Int.reduceNe, Int.reduceLE, Int.reduceLT, decide_true, decide_false, List.zipIdx_cons, List.zipIdx_nil, or_false, false_or, forall_eq_or_imp, forall_eq, ne_eq, reduceCtorEq, not_false_eq_true, Bool.false_eq_true, Bool.true_eq_false, Bool.not_true, Bool.not_false, notInt, numB, tabB, ↓vyB, ↓opY, roA, liveA, lvB, frz, frz1, true_or, Array.reduceGetElem?, upG, up, nth, lay, rcB, rnm, rnmL, wrB, pcB]
  refine callP_weak (c79 f lb _ _ ?_)
  simp -implicitDefEqProofs (maxSteps := 1000000) (disch := omega) only [↓vcB, ↓gd, ↓opP, ↓qv, ↓ef, ↓bslS, ↓stS, ↓mkS, ↓rangeS, ↓nextS, ↓entryS, ↓delS, ↓mupS, ↓appS, ↓s2bS, ↓resS, evB, Sx.look, slot, ↓lkL, putS, putO, argsL, ↓reduceIte, ofV, of1, lookH, putH, List.length_cons, List.length_nil, List.length_append, List.replicate, List.append, List.cons_append, List.nil_append, List.append_assoc, List.map_cons, List.map_nil, convS, fldA, nthT, idxA, idxS, fldS, oslN, bnd, slS, unS, valI, lenS, lookS, takeC, psB, asRow, csB, Int.toNat_natCast, Int.le_refl, and_self, rdF, Ent.row, ldS, sz, szL, wrF, bldF, plT, bldS, srcS, nilS, nilEq, mapC, binH, binS2, structS, eqL, eqF, binS, arrS, isI, tupS, stor, storL, Value.oneCell', minS, maxS, capS, true_and, and_true, Nat.reduceAdd, Nat.reduceSub, Nat.reduceMul, Nat.reduceLT, Nat.reduceLeDiff, Nat.reduceEqDiff, Nat.reduceBEq, Int.reduceToNat, Int.reduceNeg, Nat.zero_add, Nat.add_zero, Nat.sub_self, Nat.sub_zero, Nat.zero_mul, Nat.mul_one, Nat.zero_le, if_true, if_false, reduceIte, stays, inL, same1, qn, ldN, convN, lenN, List.mem_cons, List.not_mem_nil, Option.map_some, Option.map_none, cond_true, cond_false, Sx.imp_true, Sx.imp_false, implies_true, Int.reduceEq, Int.reduceNe, Int.reduceLE, Int.reduceLT, decide_true, decide_false, List.zipIdx_cons, List.zipIdx_nil, or_false, false_or, forall_eq_or_imp, forall_eq, ne_eq, reduceCtorEq, not_false_eq_true, Bool.false_eq_true, Bool.true_eq_false, Bool.not_true, Bool.not_false, notInt, numB, tabB, ↓vyB, ↓opY, roA, liveA, lvB, frz, frz1, true_or, Array.reduceGetElem?, upG, up, nth, lay, rcB, rnm, rnmL, wrB, pcB]
  refine codeY_range [] n (fun i => .int .i64 (A i)) (fun _ => trivial) (by simp [roA, liveA, lookH, Chunk.live, Chunk.wr]) (by simp) (fun ρ w X hk _ => ?_) (fun i g h' => g = .run i ∧ i ≤ n ∧ h' = [.cells false [.v (.func (.func f2) #[] ⟨lb2⟩)], .cells false [.v (.func (.func f) #[] ⟨lb⟩)], .cells true [.v (.func (.yield l) #[] #[])]]) (fun i g e h' => e = .ret ∧ endsG n g) ?_ ?_ ?_ ?_
  · exact hk.1.elim fun B hk => ⟨f, lb, B, rfl, hk.2, fun b hb => .inl (hk.1 b hb)⟩
  · exact ⟨rfl, by omega, by simp [frz, inL]⟩
  · rintro i g h' hi ⟨rfl, hin, rfl⟩
    refine codeY_of_vc (pl := pl78) tabOk follows_mixed (by kernel_rfl) ?_
    simp -implicitDefEqProofs (maxSteps := 1000000) (disch := omega) only [↓vcB, ↓gd, ↓opP, ↓qv, ↓ef, ↓bslS, ↓stS, ↓mkS, ↓rangeS, ↓nextS, ↓entryS, ↓delS, ↓mupS, ↓appS, ↓s2bS, ↓resS, evB, Sx.look, slot, ↓lkL, putS, putO, argsL, ↓reduceIte, ofV, of1, lookH, putH, List.length_cons, List.length_nil, List.length_append, List.replicate, List.append, List.cons_append, List.nil_append, List.append_assoc, List.map_cons, List.map_nil, convS, fldA, nthT, idxA, idxS, fldS, oslN, bnd, slS, unS, valI, lenS, lookS, takeC, psB, asRow, csB, Int.toNat_natCast, Int.le_refl, and_self, rdF, Ent.row, ldS, sz, szL, wrF, bldF, plT, bldS, srcS, nilS, nilEq, mapC, binH, binS2, structS, eqL, eqF, binS, arrS, isI, tupS, stor, storL, Value.oneCell', minS, maxS, capS, true_and, and_true, Nat.reduceAdd, Nat.reduceSub, Nat.reduceMul, Nat.reduceLT, Nat.reduceLeDiff, Nat.reduceEqDiff, Nat.reduceBEq, Int.reduceToNat, Int.reduceNeg, Nat.zero_add, Nat.add_zero, Nat.sub_self, Nat.sub_zero, Nat.zero_mul, Nat.mul_one, Nat.zero_le, if_true, if_false, reduceIte, stays, inL, same1, qn, ldN, convN, lenN, List.mem_cons, List.not_mem_nil, Option.map_some, Option.map_none, cond_true, cond_false, Sx.imp_true, Sx.imp_false, implies_true, Int.reduceEq, Int.reduceNe, Int.reduceLE, Int.reduceLT, decide_true, decide_false, List.zipIdx_cons, List.zipIdx_nil, or_false, false_or, forall_eq_or_imp, forall_eq, ne_eq, reduceCtorEq, not_false_eq_true, Bool.false_eq_true, Bool.true_eq_false, Bool.not_true, Bool.not_false, notInt, numB, tabB, ↓vyB, ↓opY, roA, liveA, lvB, frz, frz1, true_or, Array.reduceGetElem?, upG, up, nth, lay, rcB, rnm, rnmL, wrB, pcB]
    refine codeY_of_vc (pl := pl78) tabOk follows_mixed (by kernel_rfl) ?_
    simp -implicitDefEqProofs (maxSteps := 1000000) (disch := omega) only [↓vcB, ↓gd, ↓opP, ↓qv, ↓ef, ↓bslS, ↓stS, ↓mkS, ↓rangeS, ↓nextS, ↓entryS, ↓delS, ↓mupS, ↓appS, ↓s2bS, ↓resS, evB, Sx.look, slot, ↓lkL, putS, putO, argsL, ↓reduceIte, ofV, of1, lookH, putH, List.length_cons, List.length_nil, List.length_append, List.replicate, List.append, List.cons_append, List.nil_append, List.append_assoc, List.map_cons, List.map_nil, convS, fldA, nthT, idxA, idxS, fldS, oslN, bnd, slS, unS, valI, lenS, lookS, takeC, psB, asRow, csB, Int.toNat_natCast, Int.le_refl, and_self, rdF, Ent.row, ldS, sz, szL, wrF, bldF, plT, bldS, srcS, nilS, nilEq, mapC, binH, binS2, structS, eqL, eqF, binS, arrS, isI, tupS, stor, storL, Value.oneCell', minS, maxS, capS, true_and, and_true, Nat.reduceAdd, Nat.reduceSub, Nat.reduceMul, Nat.reduceLT, Nat.reduceLeDiff, Nat.reduceEqDiff, Nat.reduceBEq, Int.reduceToNat, Int.reduceNeg, Nat.zero_add, Nat.add_zero, Nat.sub_self, Nat.sub_zero, Nat.zero_mul, Nat.mul_one, Nat.zero_le, if_true, if_false, reduceIte, stays, inL, same1, qn, ldN, convN, lenN, List.mem_cons, List.not_mem_nil, Option.map_some, Option.map_none, cond_true, cond_false, Sx.imp_true, Sx.imp_false, implies_true, Int.reduceEq, Int.reduceNe, Int.reduceLE, Int.reduceLT, decide_true, decide_false, List.zipIdx_cons, List.zipIdx_nil, or_false, false_or, forall_eq_or_imp, forall_eq, ne_eq, reduceCtorEq, not_false_eq_true, Bool.false_eq_true, Bool.true_eq_false, Bool.not_true, Bool.not_false, notInt, numB, tabB, ↓vyB, ↓opY, roA, liveA, lvB, frz, frz1, true_or, Array.reduceGetElem?, upG, up, nth, lay, rcB, rnm, rnmL, wrB, pcB, fxI_1, pl78]
    exact ⟨⟨by omega, fun _ => rfl⟩, intoY_refl ⟨⟨by omega, rfl⟩, by simp [roA, liveA, lookH, frz, frz1, inL, Chunk.live, Chunk.wr]⟩, rfl, intoY_refl ⟨endsG_stop (by omega), by simp [roA, liveA, lookH, frz, frz1, inL, Chunk.live, Chunk.wr]⟩⟩
  · rintro g h' ⟨rfl, hin, rfl⟩
    exact endsG_run rfl
  · rintro i g e h' hi ⟨rfl, he⟩
    exact ⟨rfl, he⟩

/-- Those for which a function holds. -/
theorem gives80 (f : FuncId) (lb : List Value) (f2 : FuncId) (lb2 : List Value) (n : Nat) (A : Nat → Int) (β : Int → Bool) (N : Nat) (hN : N = cntB (fun i => β (A i)) n) (ys : Nat → Int) (hy : ∀ i, i < n → β (A i) = true → ys (cntB (fun i => β (A i)) i) = A i) {ρ : Env} {B : Nat → Prop} {w0 : World} (hB : ∀ b, B b → b < w0.heap.size) (hH : ∀ k c, [Chunk.cells false [.v (.func (.func f2) #[] ⟨lb2⟩)], .cells false [.v (.func (.func f) #[] ⟨lb⟩)]][k]? = some c → Holds ρ w0 k c ∧ (Real ρ k c → B (ρ k).b))
    (hs : Gives Try.prog f lb B n (fun i => .int .i64 (A i)) w0) (hf : Pures B (.func (.func f2) #[] ⟨lb2⟩) (fxB β) w0) : Gives Try.prog 80 (denL ρ [.ptr 0 0, .ptr 1 0]) B N (fun i => .int .i64 (ys i)) w0 := by
  refine gives_of_codeY (P := seqfPr Try.prog f lb n (fun i => .int .i64 (A i)) (.func (.func f2) #[] ⟨lb2⟩) (fxB β) ⟨[.int .i64 0], _, rfl⟩) tabOk Try.func80 (by kernel_rfl) rfl res80 (Nat.le_of_ble_eq_true rfl) (by simp [slot, lkL, fixed, rg, renH, chB, lookH, eqvL, eqv, eqvF, rnmL, rnm, liveN, lvB, goodH, gdB, okL, ok, sz, szL, storL, stor, renT, okT, pcB, Value.oneCell']) (by simp [okL, ok]) (by simp [Chunk.wr]) (fun l => ?_) hB hH
    (fun w hw hb => ⟨⟨B, fun b hb hx => hx.elim id fun h => h.2 hb, hs.later hw hb⟩, B, fun b hb hx => hx.elim id fun h => h.2 hb, hf.later hw hb⟩) (fv := (.func (.func f2) #[] ⟨lb2⟩)) (fx := fxB β) (fun args r har => ⟨fxB_ok har, fun ρ w X hk => hk.2.elim fun B h => ⟨B, h.1, (h.2 args r har).2 ρ⟩⟩)
  refine codeY_of_vc (pl := pl80) tabOk follows_mixed (by kernel_rfl) ?_
  rw [Try.ntmps80]
  simp -implicitDefEqProofs (maxSteps := 1000000) (disch := omega) only [↓vcB, ↓gd, ↓opP, ↓qv, ↓ef, ↓bslS, ↓stS, ↓mkS, ↓rangeS, ↓nextS, ↓entryS, ↓delS, ↓mupS, ↓appS, ↓s2bS, ↓resS, evB, Sx.look, slot, ↓lkL, putS, putO, argsL, ↓reduceIte, ofV, of1, lookH, putH, List.length_cons, List.length_nil, List.length_append, List.replicate, List.append, List.cons_append, List.nil_append, List.append_assoc, List.map_cons, List.map_nil, convS, fldA, nthT, idxA, idxS, fldS, oslN, bnd, slS, unS, valI, lenS, lookS, takeC, psB, asRow, csB, Int.toNat_natCast, Int.le_refl, and_self, rdF, Ent.row, ldS, sz, szL, wrF, bldF, plT, bldS, srcS, nilS, nilEq, mapC, binH, binS2, structS, eqL, eqF, binS, arrS, isI, tupS, stor, storL, Value.oneCell', minS, maxS, capS, true_and, and_true, Nat.reduceAdd, Nat.reduceSub, Nat.reduceMul, Nat.reduceLT, Nat.reduceLeDiff, Nat.reduceEqDiff, Nat.reduceBEq, Int.reduceToNat, Int.reduceNeg, Nat.zero_add, Nat.add_zero, Nat.sub_self, Nat.sub_zero, Nat.zero_mul, Nat.mul_one, Nat.zero_le, if_true, if_false, reduceIte, stays, inL, same1, qn, ldN, convN, lenN, List.mem_cons, List.not_mem_nil, Option.map_some, Option.map_none, cond_true, cond_false, Sx.imp_true, Sx.imp_false, implies_true, Int.reduceEq, Int.reduceNe, Int.reduceLE, Int.reduceLT, decide_true, decide_false, List.zipIdx_cons, List.zipIdx_nil, or_false, false_or, forall_eq_or_imp, forall_eq, ne_eq, reduceCtorEq, not_false_eq_true, Bool.false_eq_true, Bool.true_eq_false, Bool.not_true, Bool.not_false, notInt, numB, tabB, ↓vyB, ↓opY, roA, liveA, lvB, frz, frz1, true_or, Array.reduceGetElem?, upG, up, nth, lay, rcB, rnm, rnmL, wrB, pcB]
  refine callP_weak (c79 f lb _ _ ?_)
  simp -implicitDefEqProofs (maxSteps := 1000000) (disch := omega) only [↓vcB, ↓gd, ↓opP, ↓qv, ↓ef, ↓bslS, ↓stS, ↓mkS, ↓rangeS, ↓nextS, ↓entryS, ↓delS, ↓mupS, ↓appS, ↓s2bS, ↓resS, evB, Sx.look, slot, ↓lkL, putS, putO, argsL, ↓reduceIte, ofV, of1, lookH, putH, List.length_cons, List.length_nil, List.length_append, List.replicate, List.append, List.cons_append, List.nil_append, List.append_assoc, List.map_cons, List.map_nil, convS, fldA, nthT, idxA, idxS, fldS, oslN, bnd, slS, unS, valI, lenS, lookS, takeC, psB, asRow, csB, Int.toNat_natCast, Int.le_refl, and_self, rdF, Ent.row, ldS, sz, szL, wrF, bldF, plT, bldS, srcS, nilS, nilEq, mapC, binH, binS2, structS, eqL, eqF, binS, arrS, isI, tupS, stor, storL, Value.oneCell', minS, maxS, capS, true_and, and_true, Nat.reduceAdd, Nat.reduceSub, Nat.reduceMul, Nat.reduceLT, Nat.reduceLeDiff, Nat.reduceEqDiff, Nat.reduceBEq, Int.reduceToNat, Int.reduceNeg, Nat.zero_add, Nat.add_zero, Nat.sub_self, Nat.sub_zero, Nat.zero_mul, Nat.mul_one, Nat.zero_le, if_true, if_false, reduceIte, stays, inL, same1, qn, ldN, convN, lenN, List.mem_cons, List.not_mem_nil, Option.map_some, Option.map_none, cond_true, cond_false, Sx.imp_true, Sx.imp_false, implies_true, Int.reduceEq, Int.reduceNe, Int.reduceLE, Int.reduceLT, decide_true, decide_false, List.zipIdx_cons, List.zipIdx_nil, or_false, false_or, forall_eq_or_imp, forall_eq, ne_eq, reduceCtorEq, not_false_eq_true, Bool.false_eq_true, Bool.true_eq_false, Bool.not_true, Bool.not_false, notInt, numB, tabB, ↓vyB, ↓opY, roA, liveA, lvB, frz, frz1, true_or, Array.reduceGetElem?, upG, up, nth, lay, rcB, rnm, rnmL, wrB, pcB]
  refine codeY_range [] n (fun i => .int .i64 (A i)) (fun _ => trivial) (by simp [roA, liveA, lookH, Chunk.live, Chunk.wr]) (by simp) (fun ρ w X hk _ => ?_) (fun i g h' => g = .run (cntB (fun i => β (A i)) i) ∧ i ≤ n ∧ h' = [.cells false [.v (.func (.func f2) #[] ⟨lb2⟩)], .cells false [.v (.func (.func f) #[] ⟨lb⟩)], .cells true [.v (.func (.yield l) #[] #[])]]) (fun i g e h' => e = .ret ∧ endsG N g) ?_ ?_ ?_ ?_
  · exact hk.1.elim fun B hk => ⟨f, lb, B, rfl, hk.2, fun b hb => .inl (hk.1 b hb)⟩
  · exact ⟨rfl, by omega, by simp [frz, inL]⟩
  · rintro i g h' hi ⟨rfl, hin, rfl⟩
    refine codeY_of_vc (pl := pl80) tabOk follows_mixed (by kernel_rfl) ?_
    simp -implicitDefEqProofs (maxSteps := 1000000) (disch := omega) only [↓vcB, ↓gd, ↓opP, ↓qv, ↓ef, ↓bslS, ↓stS, ↓mkS, ↓rangeS, ↓nextS, ↓entryS, ↓delS, ↓mupS, ↓appS, ↓s2bS, ↓resS, evB, Sx.look, slot, ↓lkL, putS, putO, argsL, ↓reduceIte, ofV, of1, lookH, putH, List.length_cons, List.length_nil, List.length_append, List.replicate, List.append, List.cons_append, List.nil_append, List.append_assoc, List.map_cons, List.map_nil, convS, fldA, nthT, idxA, idxS, fldS, oslN, bnd, slS, unS, valI, lenS, lookS, takeC, psB, asRow, csB, Int.toNat_natCast, Int.le_refl, and_self, rdF, Ent.row, ldS, sz, szL, wrF, bldF, plT, bldS, srcS, nilS, nilEq, mapC, binH, binS2, structS, eqL, eqF, binS, arrS, isI, tupS, stor, storL, Value.oneCell', minS, maxS, capS, true_and, and_true, Nat.reduceAdd, Nat.reduceSub, Nat.reduceMul, Nat.reduceLT, Nat.reduceLeDiff, Nat.reduceEqDiff, Nat.reduceBEq, Int.reduceToNat, Int.reduceNeg, Nat.zero_add, Nat.add_zero, Nat.sub_self, Nat.sub_zero, Nat.zero_mul, Nat.mul_one, Nat.zero_le, if_true, if_false, reduceIte, stays, inL, same1, qn, ldN, convN, lenN, List.mem_cons, List.not_mem_nil, Option.map_some, Option.map_none, cond_true, cond_false, Sx.imp_true, Sx.imp_false, implies_true, Int.reduceEq, Int.reduceNe, Int.reduceLE, Int.reduceLT, decide_true, decide_false, List.zipIdx_cons, List.zipIdx_nil, or_false, false_or, forall_eq_or_imp, forall_eq, ne_eq, reduceCtorEq, not_false_eq_true, Bool.false_eq_true, Bool.true_eq_false, Bool.not_true, Bool.not_false, notInt, numB, tabB, ↓vyB, ↓opY, roA, liveA, lvB, frz, frz1, true_or, Array.reduceGetElem?, upG, up, nth, lay, rcB, rnm, rnmL, wrB, pcB]
    refine codeY_of_vc (pl := pl80) tabOk follows_mixed (by kernel_rfl) ?_
    cases hb : β (A i) with
    | false =>
      simp -implicitDefEqProofs (maxSteps := 1000000) (disch := omega) only [↓vcB, ↓gd, ↓opP, ↓qv, ↓ef, ↓bslS, ↓stS, ↓mkS, ↓rangeS, ↓nextS, ↓entryS, ↓delS, ↓mupS, ↓appS, ↓s2bS, ↓resS, evB, Sx.look, slot, ↓lkL, putS, putO, argsL, ↓reduceIte, ofV, of1, lookH, putH, List.length_cons, List.length_nil, List.length_append, List.replicate, List.append, List.cons_append, List.nil_append, List.append_assoc, List.map_cons, List.map_nil, convS, fldA, nthT, idxA, idxS, fldS, oslN, bnd, slS, unS, valI, lenS, lookS, takeC, psB, asRow, csB, Int.toNat_natCast, Int.le_refl, and_self, rdF, Ent.row, ldS, sz, szL, wrF, bldF, plT, bldS, srcS, nilS, nilEq, mapC, binH, binS2, structS, eqL, eqF, binS, arrS, isI, tupS, stor, storL, Value.oneCell', minS, maxS, capS, true_and, and_true, Nat.reduceAdd, Nat.reduceSub, Nat.reduceMul, Nat.reduceLT, Nat.reduceLeDiff, Nat.reduceEqDiff, Nat.reduceBEq, Int.reduceToNat, Int.reduceNeg, Nat.zero_add, Nat.add_zero, Nat.sub_self, Nat.sub_zero, Nat.zero_mul, Nat.mul_one, Nat.zero_le, if_true, if_false, reduceIte, stays, inL, same1, qn, ldN, convN, lenN, List.mem_cons, List.not_mem_nil, Option.map_some, Option.map_none, cond_true, cond_false, Sx.imp_true, Sx.imp_false, implies_true, Int.reduceEq, Int.reduceNe, Int.reduceLE, Int.reduceLT, decide_true, decide_false, List.zipIdx_cons, List.zipIdx_nil, or_false, false_or, forall_eq_or_imp, forall_eq, ne_eq, reduceCtorEq, not_false_eq_true, Bool.false_eq_true, Bool.true_eq_false, Bool.not_true, Bool.not_false, notInt, numB, tabB, ↓vyB, ↓opY, roA, liveA, lvB, frz, frz1, true_or, Array.reduceGetElem?, upG, up, nth, lay, rcB, rnm, rnmL, wrB, pcB, fxB_1, hb]
      refine intoY_refl ⟨⟨by rw [cntB_succ]; simp [hb], by omega, rfl⟩, by simp [roA, liveA, lookH, frz, frz1, inL, Chunk.live, Chunk.wr]⟩
    | true =>
      have hlt := cntB_lt (fun i => β (A i)) hi hb
      simp -implicitDefEqProofs (maxSteps := 1000000) (disch := omega) only [↓vcB, ↓gd, ↓opP, ↓qv, ↓ef, ↓bslS, ↓stS, ↓mkS, ↓rangeS, ↓nextS, ↓entryS, ↓delS, ↓mupS, ↓appS, ↓s2bS, ↓resS, evB, Sx.look, slot, ↓lkL, putS, putO, argsL, ↓reduceIte, ofV, of1, lookH, putH, List.length_cons, List.length_nil, List.length_append, List.replicate, List.append, List.cons_append, List.nil_append, List.append_assoc, List.map_cons, List.map_nil, convS, fldA, nthT, idxA, idxS, fldS, oslN, bnd, slS, unS, valI, lenS, lookS, takeC, psB, asRow, csB, Int.toNat_natCast, Int.le_refl, and_self, rdF, Ent.row, ldS, sz, szL, wrF, bldF, plT, bldS, srcS, nilS, nilEq, mapC, binH, binS2, structS, eqL, eqF, binS, arrS, isI, tupS, stor, storL, Value.oneCell', minS, maxS, capS, true_and, and_true, Nat.reduceAdd, Nat.reduceSub, Nat.reduceMul, Nat.reduceLT, Nat.reduceLeDiff, Nat.reduceEqDiff, Nat.reduceBEq, Int.reduceToNat, Int.reduceNeg, Nat.zero_add, Nat.add_zero, Nat.sub_self, Nat.sub_zero, Nat.zero_mul, Nat.mul_one, Nat.zero_le, if_true, if_false, reduceIte, stays, inL, same1, qn, ldN, convN, lenN, List.mem_cons, List.not_mem_nil, Option.map_some, Option.map_none, cond_true, cond_false, Sx.imp_true, Sx.imp_false, implies_true, Int.reduceEq, Int.reduceNe, Int.reduceLE, Int.reduceLT, decide_true, decide_false, List.zipIdx_cons, List.zipIdx_nil, or_false, false_or, forall_eq_or_imp, forall_eq, ne_eq, reduceCtorEq, not_false_eq_true, Bool.false_eq_true, Bool.true_eq_false, Bool.not_true, Bool.not_false, notInt, numB, tabB, ↓vyB, ↓opY, roA, liveA, lvB, frz, frz1, true_or, Array.reduceGetElem?, upG, up, nth, lay, rcB, rnm, rnmL, wrB, pcB, fxB_1, hb]
      exact ⟨⟨by omega, fun _ => by rw [hy i hi hb]; rfl⟩, intoY_refl ⟨⟨by rw [cntB_succ]; simp [hb], by omega, rfl⟩, by simp [roA, liveA, lookH, frz, frz1, inL, Chunk.live, Chunk.wr]⟩, rfl, intoY_refl ⟨endsG_stop (by omega), by simp [roA, liveA, lookH, frz, frz1, inL, Chunk.live, Chunk.wr]⟩⟩
  · rintro g h' ⟨rfl, hin, rfl⟩
    exact endsG_run hN.symm
  · rintro i g e h' hi ⟨rfl, he⟩
    exact ⟨rfl, he⟩
end Go.Proofs.Ytloinbebkhcndaa

set_option linter.all false
set_option maxRecDepth 40000
namespace Go.Proofs.Ytloinbebkhcndaa
open Go Go.Sx

/-- The numbers below one. -/
theorem gives77 (n : Nat) (a : Int) (ha : a ≤ 9223372036854775807) (hn : n = a.toNat) {ρ : Env} {B : Nat → Prop} {w0 : World} (hB : ∀ b, B b → b < w0.heap.size) (hH : ∀ k c, [Chunk.cells false [.int .i64 a]][k]? = some c → Holds ρ w0 k c ∧ (Real ρ k c → B (ρ k).b)) :
    Gives Try.prog 77 (denL ρ [.ptr 0 0]) B n (fun i => .int .i64 (i : Nat)) w0 := by
  refine gives_of_codeY (P := Pr.of Try.prog) tabOk Try.func77 (by kernel_rfl) rfl res77 (Nat.le_of_ble_eq_true rfl) (by simp [slot, lkL, fixed, rg, renH, chB, lookH, eqvL, eqv, eqvF, rnmL, rnm, liveN, lvB, goodH, gdB, okL, ok, sz, szL, storL, stor, renT, okT, pcB]) (by simp [okL, ok]) (by simp [Chunk.wr]) (fun l => ?_) hB hH (fun _ _ _ => trivial) (fv := .nilFunc) (fx := fun _ => none) (nofx _)
  refine codeY_of_vc (pl := np) tabOk follows_mixed (by kernel_rfl) ?_
  rw [Try.ntmps77]
  simp -implicitDefEqProofs (maxSteps := 1000000) (disch := omega) only [↓vcB, ↓gd, ↓opP, ↓qv, ↓ef, ↓bslS, ↓stS, ↓mkS, ↓rangeS, ↓nextS, ↓entryS, ↓delS, ↓mupS, ↓appS, ↓s2bS, ↓resS, evB, Sx.look, slot, ↓lkL, putS, putO, argsL, ↓reduceIte, ofV, of1, lookH, putH, List.length_cons, List.length_nil, List.length_append, List.replicate, List.append, List.cons_append, List.nil_append, List.append_assoc, List.map_cons, List.map_nil, convS, fldA, nthT, idxA, idxS, fldS, oslN, bnd, slS, unS, valI, lenS, lookS, takeC, psB, asRow, csB, Int.toNat_natCast, Int.le_refl, and_self, rdF, Ent.row, ldS, sz, szL, wrF, bldF, plT, bldS, srcS, nilS, nilEq, mapC, binH, binS2, structS, eqL, eqF, binS, arrS, isI, tupS, stor, storL, Value.oneCell', minS, maxS, capS, true_and, and_true, Nat.reduceAdd, Nat.reduceSub, Nat.reduceMul, Nat.reduceLT, Nat.reduceLeDiff, Nat.reduceEqDiff, Nat.reduceBEq, Int.reduceToNat, Int.reduceNeg, Nat.zero_add, Nat.add_zero, Nat.sub_self, Nat.sub_zero, Nat.zero_mul, Nat.mul_one, Nat.zero_le, if_true, if_false, reduceIte, stays, inL, same1, qn, ldN, convN, lenN, List.mem_cons, List.not_mem_nil, Option.map_some, Option.map_none, cond_true, cond_false, Sx.imp_true, Sx.imp_false, implies_true, Int.reduceEq, Int.reduceNe, Int.reduceLE, Int.reduceLT, decide_true, decide_false, List.zipIdx_cons, List.zipIdx_nil, or_false, false_or, forall_eq_or_imp, forall_eq, ne_eq, reduceCtorEq, not_false_eq_true, Bool.false_eq_true, Bool.true_eq_false, Bool.not_true, Bool.not_false, notInt, numB, tabB, ↓vyB, ↓opY, roA, liveA, lvB, frz, frz1, true_or, Array.reduceGetElem?, upG, up, nth, lay, rcB, rnm, rnmL, wrB, pcB]
  refine codeY_loop (pl := np) tabOk follows_mixed (by kernel_rfl) (fun m g t h => ∃ (k : Nat) (j : Nat → Value), k + m = n ∧ g = .run k ∧ t = ⟨13, [(0, .v (.func (.yield l) #[] #[])), (4, .int .i64 a), (5, .int .i64 (k : Nat))], j⟩ ∧ h = [Chunk.cells false [.int .i64 a]]) ?_ ?_
  · intro d
    refine into_mk [some 0] [(0, .v (.func (.yield l) #[] #[])), (4, .int .i64 a), (5, .int .i64 (0 : Nat))] [Chunk.cells false [.int .i64 a]] ?_ ?_ ?_ ?_ ?_ ?_ ?_ ?_
    · simp [slot, lkL, fixed, rg, renH, chEq, lookH, eqvL, eqv, eqvF, rnmL, rnm, liveN, Chunk.live, goodH, Chunk.good, okL, ok, sz, szL, storL, stor, renT, okT]
    · simp [slot, lkL, fixed, rg, renH, chEq, lookH, eqvL, eqv, eqvF, rnmL, rnm, liveN, Chunk.live, goodH, Chunk.good, okL, ok, sz, szL, storL, stor, renT, okT]
    · simp [slot, lkL, fixed, rg, renH, chEq, lookH, eqvL, eqv, eqvF, rnmL, rnm, liveN, Chunk.live, goodH, Chunk.good, okL, ok, sz, szL, storL, stor, renT, okT]
    · simp [slot, lkL, fixed, rg, renH, chEq, lookH, eqvL, eqv, eqvF, rnmL, rnm, liveN, Chunk.live, goodH, Chunk.good, okL, ok, sz, szL, storL, stor, renT, okT]
    · simp [slot, lkL, fixed, rg, renH, chB, lookH, eqvL, eqv, eqvF, rnmL, rnm, liveN, lvB, goodH, gdB, okL, ok, sz, szL, storL, stor, renT, okT, pcB]
    · simp [slot, lkL, fixed, rg, renH, chEq, lookH, eqvL, eqv, eqvF, rnmL, rnm, liveN, Chunk.live, goodH, Chunk.good, okL, ok, sz, szL, storL, stor, renT, okT]
    · simp [slot, lkL, fixed, rg, renH, chEq, lookH, eqvL, eqv, eqvF, rnmL, rnm, liveN, Chunk.live, goodH, Chunk.good, okL, ok, sz, szL, storL, stor, renT, okT]
    · exact fun j => ⟨rfl, n, 0, j, by omega, rfl, rfl, rfl⟩
  · rintro m g t h ⟨k, j, hk, rfl, rfl, rfl⟩
    by_cases hlt : k < n
    · have g0 : decide ((k : Int) < a) = true := decide_eq_true (by omega)
      have a0 : IntKind.i64.wrap ((k : Int) + 1) = ((k + 1 : Nat) : Int) := by rw [wrap64 (by omega) (by omega)]; omega
      simp -implicitDefEqProofs (maxSteps := 1000000) (disch := omega) only [↓vcB, ↓gd, ↓opP, ↓qv, ↓ef, ↓bslS, ↓stS, ↓mkS, ↓rangeS, ↓nextS, ↓entryS, ↓delS, ↓mupS, ↓appS, ↓s2bS, ↓resS, evB, Sx.look, slot, ↓lkL, putS, putO, argsL, ↓reduceIte, ofV, of1, lookH, putH, List.length_cons, List.length_nil, List.length_append, List.replicate, List.append, List.cons_append, List.nil_append, List.append_assoc, List.map_cons, List.map_nil, convS, fldA, nthT, idxA, idxS, fldS, oslN, bnd, slS, unS, valI, lenS, lookS, takeC, psB, asRow, csB, Int.toNat_natCast, Int.le_refl, and_self, rdF, Ent.row, ldS, sz, szL, wrF, bldF, plT, bldS, srcS, nilS, nilEq, mapC, binH, binS2, structS, eqL, eqF, binS, arrS, isI, tupS, stor, storL, Value.oneCell', minS, maxS, capS, true_and, and_true, Nat.reduceAdd, Nat.reduceSub, Nat.reduceMul, Nat.reduceLT, Nat.reduceLeDiff, Nat.reduceEqDiff, Nat.reduceBEq, Int.reduceToNat, Int.reduceNeg, Nat.zero_add, Nat.add_zero, Nat.sub_self, Nat.sub_zero, Nat.zero_mul, Nat.mul_one, Nat.zero_le, if_true, if_false, reduceIte, stays, inL, same1, qn, ldN, convN, lenN, List.mem_cons, List.not_mem_nil, Option.map_some, Option.map_none, cond_true, cond_false, Sx.imp_true, Sx.imp_false, implies_true, Int.reduceEq, Int.reduceNe, Int.reduceLE, Int.reduceLT, decide_true, decide_false, List.zipIdx_cons, List.zipIdx_nil, or_false, false_or, forall_eq_or_imp, forall_eq, ne_eq, reduceCtorEq, not_false_eq_true, Bool.false_eq_true, Bool.true_eq_false, Bool.not_true, Bool.not_false, notInt, numB, tabB, ↓vyB, ↓opY, roA, liveA, lvB, frz, frz1, true_or, Array.reduceGetElem?, upG, up, nth, lay, rcB, rnm, rnmL, wrB, pcB, g0, a0]
      refine ⟨⟨hlt, fun _ => rfl⟩, ?_, endsG_stop (by omega)⟩
      intro d
      refine into_mk [some 0] [(0, .v (.func (.yield l) #[] #[])), (4, .int .i64 a), (5, .int .i64 (k + 1 : Nat))] [Chunk.cells false [.int .i64 a]] ?_ ?_ ?_ ?_ ?_ ?_ ?_ ?_
      · simp [slot, lkL, fixed, rg, renH, chEq, lookH, eqvL, eqv, eqvF, rnmL, rnm, liveN, Chunk.live, goodH, Chunk.good, okL, ok, sz, szL, storL, stor, renT, okT]
      · simp [slot, lkL, fixed, rg, renH, chEq, lookH, eqvL, eqv, eqvF, rnmL, rnm, liveN, Chunk.live, goodH, Chunk.good, okL, ok, sz, szL, storL, stor, renT, okT]
      · simp [slot, lkL, fixed, rg, renH, chEq, lookH, eqvL, eqv, eqvF, rnmL, rnm, liveN, Chunk.live, goodH, Chunk.good, okL, ok, sz, szL, storL, stor, renT, okT]
      · simp [slot, lkL, fixed, rg, renH, chEq, lookH, eqvL, eqv, eqvF, rnmL, rnm, liveN, Chunk.live, goodH, Chunk.good, okL, ok, sz, szL, storL, stor, renT, okT]
      · simp [slot, lkL, fixed, rg, renH, chB, lookH, eqvL, eqv, eqvF, rnmL, rnm, liveN, lvB, goodH, gdB, okL, ok, sz, szL, storL, stor, renT, okT, pcB]
      · simp [slot, lkL, fixed, rg, renH, chEq, lookH, eqvL, eqv, eqvF, rnmL, rnm, liveN, Chunk.live, goodH, Chunk.good, okL, ok, sz, szL, storL, stor, renT, okT]
      · simp [slot, lkL, fixed, rg, renH, chEq, lookH, eqvL, eqv, eqvF, rnmL, rnm, liveN, Chunk.live, goodH, Chunk.good, okL, ok, sz, szL, storL, stor, renT, okT]
      · exact fun j => ⟨rfl, m - 1, by omega, k + 1, j, by omega, rfl, rfl, rfl⟩
    · have hkn : k = n := by omega
      subst k
      have g0 : decide ((n : Int) < a) = false := decide_eq_false (by omega)
      simp -implicitDefEqProofs (maxSteps := 1000000) (disch := omega) only [↓vcB, ↓gd, ↓opP, ↓qv, ↓ef, ↓bslS, ↓stS, ↓mkS, ↓rangeS, ↓nextS, ↓entryS, ↓delS, ↓mupS, ↓appS, ↓s2bS, ↓resS, evB, Sx.look, slot, ↓lkL, putS, putO, argsL, ↓reduceIte, ofV, of1, lookH, putH, List.length_cons, List.length_nil, List.length_append, List.replicate, List.append, List.cons_append, List.nil_append, List.append_assoc, List.map_cons, List.map_nil, convS, fldA, nthT, idxA, idxS, fldS, oslN, bnd, slS, unS, valI, lenS, lookS, takeC, psB, asRow, csB, Int.toNat_natCast, Int.le_refl, and_self, rdF, Ent.row, ldS, sz, szL, wrF, bldF, plT, bldS, srcS, nilS, nilEq, mapC, binH, binS2, structS, eqL, eqF, binS, arrS, isI, tupS, stor, storL, Value.oneCell', minS, maxS, capS, true_and, and_true, Nat.reduceAdd, Nat.reduceSub, Nat.reduceMul, Nat.reduceLT, Nat.reduceLeDiff, Nat.reduceEqDiff, Nat.reduceBEq, Int.reduceToNat, Int.reduceNeg, Nat.zero_add, Nat.add_zero, Nat.sub_self, Nat.sub_zero, Nat.zero_mul, Nat.mul_one, Nat.zero_le, if_true, if_false, reduceIte, stays, inL, same1, qn, ldN, convN, lenN, List.mem_cons, List.not_mem_nil, Option.map_some, Option.map_none, cond_true, cond_false, Sx.imp_true, Sx.imp_false, implies_true, Int.reduceEq, Int.reduceNe, Int.reduceLE, Int.reduceLT, decide_true, decide_false, List.zipIdx_cons, List.zipIdx_nil, or_false, false_or, forall_eq_or_imp, forall_eq, ne_eq, reduceCtorEq, not_false_eq_true, Bool.false_eq_true, Bool.true_eq_false, Bool.not_true, Bool.not_false, notInt, numB, tabB, ↓vyB, ↓opY, roA, liveA, lvB, frz, frz1, true_or, Array.reduceGetElem?, upG, up, nth, lay, rcB, rnm, rnmL, wrB, pcB, g0]
      exact endsG_run rfl

/-- A sequence of numbers, said in a symbolic heap. -/
def SeqL (P : Pr) (qs : List Nat) (h : List Chunk) (sv : SV) (L : List Int) : Prop := SeqS P qs h sv L.length fun i => .int .i64 (L.getD i 0)
theorem caps1 {qs : List Nat} {h : List Chunk} {ρ : Env} {w : World} {X B : Nat → Prop} {k1 : Nat} {w1 : Bool} {s1 s1' : SV} (hH : ∀ k ∈ qs, Holds ρ w k (lookH h k) ∧ (Real ρ k (lookH h k) → (ρ k).b < w.heap.size))
    (h1 : lookH h k1 = .cells w1 [s1]) (m1 : k1 ∈ qs) (hB : ∀ b, B b → ¬ X b ∨ ∃ k ∈ qs, Real ρ k (lookH h k) ∧ (ρ k).b = b) (hBs : ∀ b, B b → b < w.heap.size) (hv1 : ∀ ρ', den ρ' s1' = den ρ s1) :
    ∃ (ρ' : Env) (B' : Nat → Prop), denL ρ' [.ptr 0 0] = denL ρ [.ptr k1 0] ∧ (∀ b, B b → B' b) ∧ (∀ b, B' b → b < w.heap.size) ∧
      (∀ k c, [Chunk.cells false [s1']][k]? = some c → Holds ρ' w k c ∧ (Real ρ' k c → B' (ρ' k).b)) ∧ ∀ b, B' b → ¬ X b ∨ ∃ k ∈ qs, Real ρ k (lookH h k) ∧ (ρ k).b = b := by
  have q1 := hH k1 m1
  have r1 : Real ρ k1 (lookH h k1) := by rw [h1] at q1 ⊢; exact ⟨rfl, q1.1.1⟩
  refine ⟨fun _ => ρ k1, fun b => B b ∨ b = (ρ k1).b, rfl, fun b hb => .inl hb, ?_, ?_, ?_⟩
  · rintro b (hb | rfl)
    · exact hBs b hb
    · exact q1.2 r1
  · intro k c hc
    rcases k with _ | k
    · cases hc
      rw [h1] at q1
      exact ⟨hold_cell q1.1 rfl (hv1 _), fun _ => .inr rfl⟩
    · simp at hc
  · rintro b (hb | rfl)
    · exact hB b hb
    · exact .inr ⟨k1, m1, r1, rfl⟩
theorem caps2 {qs : List Nat} {h : List Chunk} {ρ : Env} {w : World} {X B : Nat → Prop} {k1 k2 : Nat} {w1 w2 : Bool} {s1 s2 s1' s2' : SV} (hH : ∀ k ∈ qs, Holds ρ w k (lookH h k) ∧ (Real ρ k (lookH h k) → (ρ k).b < w.heap.size))
    (h1 : lookH h k1 = .cells w1 [s1]) (h2 : lookH h k2 = .cells w2 [s2]) (m1 : k1 ∈ qs) (m2 : k2 ∈ qs) (hB : ∀ b, B b → ¬ X b ∨ ∃ k ∈ qs, Real ρ k (lookH h k) ∧ (ρ k).b = b) (hBs : ∀ b, B b → b < w.heap.size)
    (hv1 : ∀ ρ', den ρ' s1' = den ρ s1) (hv2 : ∀ ρ', den ρ' s2' = den ρ s2) :
    ∃ (ρ' : Env) (B' : Nat → Prop), denL ρ' [.ptr 0 0, .ptr 1 0] = denL ρ [.ptr k1 0, .ptr k2 0] ∧ (∀ b, B b → B' b) ∧ (∀ b, B' b → b < w.heap.size) ∧
      (∀ k c, [Chunk.cells false [s1'], .cells false [s2']][k]? = some c → Holds ρ' w k c ∧ (Real ρ' k c → B' (ρ' k).b)) ∧ ∀ b, B' b → ¬ X b ∨ ∃ k ∈ qs, Real ρ k (lookH h k) ∧ (ρ k).b = b := by
  have q1 := hH k1 m1
  have q2 := hH k2 m2
  have r1 : Real ρ k1 (lookH h k1) := by rw [h1] at q1 ⊢; exact ⟨rfl, q1.1.1⟩
  have r2 : Real ρ k2 (lookH h k2) := by rw [h2] at q2 ⊢; exact ⟨rfl, q2.1.1⟩
  refine ⟨fun k => match k with | 0 => ρ k1 | _ => ρ k2, fun b => B b ∨ b = (ρ k1).b ∨ b = (ρ k2).b, rfl, fun b hb => .inl hb, ?_, ?_, ?_⟩
  · rintro b (hb | rfl | rfl)
    · exact hBs b hb
    · exact q1.2 r1
    · exact q2.2 r2
  · intro k c hc
    rcases k with _ | _ | k
    · cases hc
      rw [h1] at q1
      exact ⟨hold_cell q1.1 rfl (hv1 _), fun _ => .inr (.inl rfl)⟩
    · cases hc
      rw [h2] at q2
      exact ⟨hold_cell q2.1 rfl (hv2 _), fun _ => .inr (.inr rfl)⟩
    · simp at hc
  · rintro b (hb | rfl | rfl)
    · exact hB b hb
    · exact .inr ⟨k1, m1, r1, rfl⟩
    · exact .inr ⟨k2, m2, r2, rfl⟩
section
variable {P : Pr} (hP : P.p = Try.prog) {qs : List Nat} {h : List Chunk} {sv : SV} {L : List Int} {k1 k2 : Nat} {w1 w2 : Bool}
include hP
theorem SeqL.take (hs : SeqL P qs h sv L) {a : Int} (ha : -9223372036854775808 ≤ a ∧ a ≤ 9223372036854775807) (h1 : lookH h k1 = .cells w1 [.int .i64 a]) (h2 : lookH h k2 = .cells w2 [sv]) (m1 : k1 ∈ qs) (m2 : k2 ∈ qs) :
    SeqL P qs h (.fn (.func 81) [] [.ptr k1 0, .ptr k2 0]) (L.take a.toNat) := by
  intro ρ w X hk hH
  obtain ⟨f, lb, B, hd, hg, hB⟩ := hs ρ w X hk hH
  obtain ⟨ρ', B', e1, e2, e3, e4, e5⟩ := caps2 hH h1 h2 m1 m2 hB hg.1 (s1' := .int .i64 a) (s2' := .v (.func (.func f) #[] ⟨lb⟩)) (fun _ => rfl) (fun _ => hd.symm)
  rw [hP] at hg ⊢
  refine ⟨81, denL ρ [.ptr k1 0, .ptr k2 0], B', rfl, ?_, e5⟩
  rw [← e1]
  exact (gives81 f lb L.length (fun i => L.getD i 0) a ha (min L.length a.toNat) rfl e3 e4 (hg.wider e2 e3)).cong (by simp [Nat.min_comm]) fun i hi => by
    rw [List.getD_eq_getElem?_getD, List.getD_eq_getElem?_getD, List.getElem?_take_of_lt (by omega)]
theorem SeqL.drop (hs : SeqL P qs h sv L) {a : Int} (ha : -9223372036854775808 ≤ a ∧ a ≤ 9223372036854775807) (h1 : lookH h k1 = .cells w1 [.int .i64 a]) (h2 : lookH h k2 = .cells w2 [sv]) (m1 : k1 ∈ qs) (m2 : k2 ∈ qs) :
    SeqL P qs h (.fn (.func 82) [] [.ptr k1 0, .ptr k2 0]) (L.drop a.toNat) := by
  intro ρ w X hk hH
  obtain ⟨f, lb, B, hd, hg, hB⟩ := hs ρ w X hk hH
  obtain ⟨ρ', B', e1, e2, e3, e4, e5⟩ := caps2 hH h1 h2 m1 m2 hB hg.1 (s1' := .int .i64 a) (s2' := .v (.func (.func f) #[] ⟨lb⟩)) (fun _ => rfl) (fun _ => hd.symm)
  rw [hP] at hg ⊢
  refine ⟨82, denL ρ [.ptr k1 0, .ptr k2 0], B', rfl, ?_, e5⟩
  rw [← e1]
  exact (gives82 f lb L.length (fun i => L.getD i 0) a ha _ rfl e3 e4 (hg.wider e2 e3)).cong (by simp) fun i hi => by
    rw [List.getD_eq_getElem?_getD, List.getD_eq_getElem?_getD, List.getElem?_drop]
theorem SeqL.map (hs : SeqL P qs h sv L) {sf : SV} {φ : Int → Int} (hf : FunS P qs h sf (fxI φ)) (h1 : lookH h k1 = .cells w1 [sf]) (h2 : lookH h k2 = .cells w2 [sv]) (m1 : k1 ∈ qs) (m2 : k2 ∈ qs) :
    SeqL P qs h (.fn (.func 78) [] [.ptr k1 0, .ptr k2 0]) (L.map φ) := by
  intro ρ w X hk hH
  obtain ⟨f, lb, B, hd, hg, hB⟩ := hs ρ w X hk hH
  obtain ⟨f2, lb2, B2, hd2, hs2, hp2, hB2⟩ := hf ρ w X hk hH
  obtain ⟨ρ', B', e1, e2, e3, e4, e5⟩ := caps2 (B := fun b => B b ∨ B2 b) hH h1 h2 m1 m2 (fun b hb => hb.elim (hB b) (hB2 b)) (fun b hb => hb.elim (hg.1 b) (hs2 b)) (s1' := .v (.func (.func f2) #[] ⟨lb2⟩)) (s2' := .v (.func (.func f) #[] ⟨lb⟩)) (fun _ => hd2.symm) (fun _ => hd.symm)
  rw [hP] at hg hp2 ⊢
  refine ⟨78, denL ρ [.ptr k1 0, .ptr k2 0], B', rfl, ?_, e5⟩
  rw [← e1]
  exact (gives78 f lb f2 lb2 L.length (fun i => L.getD i 0) φ e3 e4 (hg.wider (fun b hb => e2 b (.inl hb)) e3) fun args r har => ⟨(hp2 args r har).1, fun ρ => ((hp2 args r har).2 ρ).wider (fun b hb => e2 b (.inr hb)) e3⟩).cong (by simp) fun i hi => by
    rw [List.getD_eq_getElem?_getD, List.getD_eq_getElem?_getD, List.getElem?_map, List.getElem?_eq_getElem hi]
    rfl
theorem SeqL.keep (hs : SeqL P qs h sv L) {sf : SV} {β : Int → Bool} (hf : FunS P qs h sf (fxB β)) (h1 : lookH h k1 = .cells w1 [sf]) (h2 : lookH h k2 = .cells w2 [sv]) (m1 : k1 ∈ qs) (m2 : k2 ∈ qs) :
    SeqL P qs h (.fn (.func 80) [] [.ptr k1 0, .ptr k2 0]) (L.filter β) := by
  intro ρ w X hk hH
  obtain ⟨f, lb, B, hd, hg, hB⟩ := hs ρ w X hk hH
  obtain ⟨f2, lb2, B2, hd2, hs2, hp2, hB2⟩ := hf ρ w X hk hH
  obtain ⟨ρ', B', e1, e2, e3, e4, e5⟩ := caps2 (B := fun b => B b ∨ B2 b) hH h1 h2 m1 m2 (fun b hb => hb.elim (hB b) (hB2 b)) (fun b hb => hb.elim (hg.1 b) (hs2 b)) (s1' := .v (.func (.func f2) #[] ⟨lb2⟩)) (s2' := .v (.func (.func f) #[] ⟨lb⟩)) (fun _ => hd2.symm) (fun _ => hd.symm)
  rw [hP] at hg hp2 ⊢
  refine ⟨80, denL ρ [.ptr k1 0, .ptr k2 0], B', rfl, ?_, e5⟩
  rw [← e1]
  have key : ∀ i, i ≤ L.length → ((L.take i).filter β).length = cntB (fun i => β (L.getD i 0)) i := by
    intro i
    induction i with
    | zero => intro _; rfl
    | succ i ih =>
      intro hi
      rw [cntB_succ, ← ih (by omega), List.take_add_one, List.filter_append, List.length_append, List.getD_eq_getElem?_getD, List.getElem?_eq_getElem (show i < L.length by omega)]
      cases hb : β L[i] <;> simp [hb]
  have hy : ∀ i, i < L.length → β (L.getD i 0) = true → (L.filter β).getD (cntB (fun i => β (L.getD i 0)) i) 0 = L.getD i 0 := by
    intro i hi hb
    have h3 : L.filter β = (L.take i).filter β ++ (L.drop i).filter β := by rw [← List.filter_append, List.take_append_drop]
    rw [h3, List.getD_eq_getElem?_getD, ← key i (by omega), List.getElem?_append_right (Nat.le_refl _), Nat.sub_self, List.drop_eq_getElem_cons hi, List.filter_cons]
    have h4 : L.getD i 0 = L[i] := by rw [List.getD_eq_getElem?_getD, List.getElem?_eq_getElem hi]; rfl
    rw [h4] at hb ⊢
    rw [if_pos hb]
    rfl
  exact (gives80 f lb f2 lb2 L.length (fun i => L.getD i 0) β _ rfl (fun i => (L.filter β).getD i 0) hy e3 e4 (hg.wider (fun b hb => e2 b (.inl hb)) e3) fun args r har => ⟨(hp2 args r har).1, fun ρ => ((hp2 args r har).2 ρ).wider (fun b hb => e2 b (.inr hb)) e3⟩).cong (by rw [← key _ (Nat.le_refl _), List.take_length]) fun i hi => rfl
theorem SeqL.count {a : Int} (ha : a ≤ 9223372036854775807) (h1 : lookH h k1 = .cells w1 [.int .i64 a]) (m1 : k1 ∈ qs) : SeqL P qs h (.fn (.func 77) [] [.ptr k1 0]) ((List.range a.toNat).map fun i : Nat => (i : Int)) := by
  intro ρ w X hk hH
  obtain ⟨ρ', B', e1, e2, e3, e4, e5⟩ := caps1 (B := fun _ => False) hH h1 m1 (fun b hb => hb.elim) (fun b hb => hb.elim) (s1' := .int .i64 a) (fun _ => rfl)
  rw [hP]
  refine ⟨77, denL ρ [.ptr k1 0], B', rfl, ?_, e5⟩
  rw [← e1]
  exact (gives77 a.toNat a ha rfl e3 e4).cong (by simp) fun i hi => by
    rw [List.getD_eq_getElem?_getD, List.getElem?_map, List.getElem?_range hi]
    rfl
theorem SeqL.vals (n : Nat) (hn : n ≤ 9223372036854775807) (A : Nat → Int) (h1 : lookH h k1 = .cells w1 [.osl k2 0 0 1 n]) (h2 : lookH h k2 = .row w2 n 1 fun i => .int .i64 (A i)) (m1 : k1 ∈ qs) (m2 : k2 ∈ qs) : SeqL P qs h (.fn (.func 100) [] [.ptr k1 0]) ((List.range n).map A) := by
  intro ρ w X hk hH
  have q1 := hH k1 m1
  have q2 := hH k2 m2
  have r1 : Real ρ k1 (lookH h k1) := by rw [h1] at q1 ⊢; exact ⟨rfl, q1.1.1⟩
  rw [hP]
  refine ⟨100, denL ρ [.ptr k1 0], fun b => b = (ρ k1).b ∨ ((ρ k2).nil = false ∧ b = (ρ k2).b), rfl, ?_, ?_⟩
  · have e1 : denL ρ [.ptr k1 0] = denL (fun k => match k with | 0 => ρ k1 | _ => ρ k2) [.ptr 0 0] := rfl
    rw [e1]
    have r2 : (ρ k2).nil = false → Real ρ k2 (lookH h k2) := fun hn => by rw [h2]; exact ⟨rfl, hn⟩
    refine (gives100 n hn A ?_ ?_).cong (by simp) fun i hi => ?_
    · rintro b (rfl | ⟨hn, rfl⟩)
      · exact q1.2 r1
      · exact q2.2 (r2 hn)
    · intro k c hc
      rcases k with _ | _ | k
      · cases hc
        rw [h1] at q1
        refine ⟨hold_cell q1.1 rfl rfl, fun _ => .inl rfl⟩
      · cases hc
        rw [h2] at q2
        refine ⟨?_, fun hR => .inr ⟨hR.2, rfl⟩⟩
        have h3 := frz1_holds q2.1
        exact h3
      · simp at hc
    · rw [List.getD_eq_getElem?_getD, List.getElem?_map, List.getElem?_range hi]
      rfl
  · rintro b (rfl | ⟨hn, rfl⟩)
    · exact .inr ⟨k1, m1, r1, rfl⟩
    · exact .inr ⟨k2, m2, by rw [h2]; exact ⟨rfl, hn⟩, rfl⟩
end
end Go.Proofs.Ytloinbebkhcndaa

set_option linter.all false
set_option maxRecDepth 40000
namespace Go.Proofs.Ytloinbebkhcndaa
open Go Go.Sx
theorem res41 : Try.f41.results.toList = [.tmp 4] := rfl
theorem res35 : Try.f35.results.toList = [.tmp 4] := rfl
theorem res30 : Try.f30.results.toList = [.tmp 2] := rfl
theorem res28 : Try.f28.results.toList = [.tmp 4] := rfl
theorem res75 : Try.f75.results.toList = [.tmp 2] := rfl
theorem res76 : Try.f76.results.toList = [.tmp 2] := rfl
theorem res29 : Try.f29.results.toList = [.tmp 2] := rfl
def pl41 : Nat → Plan := fun _ => .nil

def pl35 : Nat → Plan := fun _ => .nil

def pl30 : Nat → Plan := fun _ => .nil

def pl28 : Nat → Plan := fun _ => .nil

def pl75 : Nat → Plan := fun _ => .nil

def pl76 : Nat → Plan := fun _ => .nil

def pl29 : Nat → Plan := fun _ => .nil


/-- Take, of a sequence. -/
theorem c41 (f : FuncId) (lb : List Value) (a : Int) (h : List Chunk) (K : Tok → SV → List Chunk → Prop) (hK : K .mk (.fn (.func 81) [] [.ptr (h.length + 1) 0, .ptr h.length 0]) (h ++ [.cells true [.v (.func (.func f) #[] ⟨lb⟩)], .cells true [.int .i64 a]])) : callP Try.prog 41 [.v (.func (.func f) #[] ⟨lb⟩), .int .i64 a] h K := by
  refine callP_of_code tabOk Try.func41 (by kernel_rfl) rfl (Nat.le_of_ble_eq_true rfl) (codeP_of_vc (pl := pl41) tabOk follows_mixed (by kernel_rfl) ?_)
  rw [Try.ntmps41]
  simp -implicitDefEqProofs (maxSteps := 1000000) (disch := omega) only [↓vcB, ↓gd, ↓opP, ↓qv, ↓ef, ↓bslS, ↓stS, ↓mkS, ↓rangeS, ↓nextS, ↓entryS, ↓delS, ↓mupS, ↓appS, ↓s2bS, ↓resS, evB, Sx.look, slot, ↓lkL, putS, putO, argsL, ↓reduceIte, ofV, of1, lookH, putH, List.length_cons, List.length_nil, List.length_append, List.replicate, List.append, List.cons_append, List.nil_append, List.append_assoc, List.map_cons, List.map_nil, convS, fldA, nthT, idxA, idxS, fldS, oslN, bnd, slS, unS, valI, lenS, lookS, takeC, psB, asRow, csB, Int.toNat_natCast, Int.le_refl, and_self, rdF, Ent.row, ldS, sz, szL, wrF, bldF, plT, bldS, srcS, nilS, nilEq, mapC, binH, binS2, structS, eqL, eqF, binS, arrS, isI, tupS, stor, storL, Value.oneCell', minS, maxS, capS, true_and, and_true, Nat.reduceAdd, Nat.reduceSub, Nat.reduceMul, Nat.reduceLT, Nat.reduceLeDiff, Nat.reduceEqDiff, Nat.reduceBEq, Int.reduceToNat, Int.reduceNeg, Nat.zero_add, Nat.add_zero, Nat.sub_self, Nat.sub_zero, Nat.zero_mul, Nat.mul_one, Nat.zero_le, if_true, if_false, reduceIte, stays, inL, same1, qn, ldN, convN, lenN, List.mem_cons, List.not_mem_nil, Option.map_some, Option.map_none, cond_true, cond_false, Sx.imp_true, Sx.imp_false, implies_true, Int.reduceEq, Int.reduceNe, Int.reduceLE, Int.reduceLT, decide_true, decide_false, List.zipIdx_cons, List.zipIdx_nil, or_false, false_or, forall_eq_or_imp, forall_eq, ne_eq, reduceCtorEq, not_false_eq_true, Bool.false_eq_true, Bool.true_eq_false, Bool.not_true, Bool.not_false, notInt, numB, tabB, Array.reduceGetElem?, upG, up, nth, lay, rcB, rnm, rnmL, wrB, pcB, res41, Value.oneCell']
  exact intoR_refl (by simp) hK

/-- Take, of a closure. -/
theorem c41f (f : Fn) (l : List SV) (a : Int) (h : List Chunk) (K : Tok → SV → List Chunk → Prop) (hK : K .mk (.fn (.func 81) [] [.ptr (h.length + 1) 0, .ptr h.length 0]) (h ++ [.cells true [.fn f [] l], .cells true [.int .i64 a]])) : callP Try.prog 41 [.fn f [] l, .int .i64 a] h K := by
  refine callP_of_code tabOk Try.func41 (by kernel_rfl) rfl (Nat.le_of_ble_eq_true rfl) (codeP_of_vc (pl := pl41) tabOk follows_mixed (by kernel_rfl) ?_)
  rw [Try.ntmps41]
  simp -implicitDefEqProofs (maxSteps := 1000000) (disch := omega) only [↓vcB, ↓gd, ↓opP, ↓qv, ↓ef, ↓bslS, ↓stS, ↓mkS, ↓rangeS, ↓nextS, ↓entryS, ↓delS, ↓mupS, ↓appS, ↓s2bS, ↓resS, evB, Sx.look, slot, ↓lkL, putS, putO, argsL, ↓reduceIte, ofV, of1, lookH, putH, List.length_cons, List.length_nil, List.length_append, List.replicate, List.append, List.cons_append, List.nil_append, List.append_assoc, List.map_cons, List.map_nil, convS, fldA, nthT, idxA, idxS, fldS, oslN, bnd, slS, unS, valI, lenS, lookS, takeC, psB, asRow, csB, Int.toNat_natCast, Int.le_refl, and_self, rdF, Ent.row, ldS, sz, szL, wrF, bldF, plT, bldS, srcS, nilS, nilEq, mapC, binH, binS2, structS, eqL, eqF, binS, arrS, isI, tupS, stor, storL, Value.oneCell', minS, maxS, capS, true_and, and_true, Nat.reduceAdd, Nat.reduceSub, Nat.reduceMul, Nat.reduceLT, Nat.reduceLeDiff, Nat.reduceEqDiff, Nat.reduceBEq, Int.reduceToNat, Int.reduceNeg, Nat.zero_add, Nat.add_zero, Nat.sub_self, Nat.sub_zero, Nat.zero_mul, Nat.mul_one, Nat.zero_le, if_true, if_false, reduceIte, stays, inL, same1, qn, ldN, convN, lenN, List.mem_cons, List.not_mem_nil, Option.map_some, Option.map_none, cond_true, cond_false, Sx.imp_true, Sx.imp_false, implies_true, Int.reduceEq, Int.reduceNe, Int.reduceLE, Int.reduceLT, decide_true, decide_false, List.zipIdx_cons, List.zipIdx_nil, or_false, false_or, forall_eq_or_imp, forall_eq, ne_eq, reduceCtorEq, not_false_eq_true, Bool.false_eq_true, Bool.true_eq_false, Bool.not_true, Bool.not_false, notInt, numB, tabB, Array.reduceGetElem?, upG, up, nth, lay, rcB, rnm, rnmL, wrB, pcB, res41, Value.oneCell']
  exact intoR_refl (by simp) hK

/-- Map or Keep, of closures. -/
theorem c35f (f : Fn) (l : List SV) (f2 : Fn) (l2 : List SV) (h : List Chunk) (K : Tok → SV → List Chunk → Prop) (hK : K .mk (.fn (.func 78) [] [.ptr (h.length + 1) 0, .ptr h.length 0]) (h ++ [.cells true [.fn f [] l], .cells true [.fn f2 [] l2]])) : callP Try.prog 35 [.fn f [] l, .fn f2 [] l2] h K := by
  refine callP_of_code tabOk Try.func35 (by kernel_rfl) rfl (Nat.le_of_ble_eq_true rfl) (codeP_of_vc (pl := pl35) tabOk follows_mixed (by kernel_rfl) ?_)
  rw [Try.ntmps35]
  simp -implicitDefEqProofs (maxSteps := 1000000) (disch := omega) only [↓vcB, ↓gd, ↓opP, ↓qv, ↓ef, ↓bslS, ↓stS, ↓mkS, ↓rangeS, ↓nextS, ↓entryS, ↓delS, ↓mupS, ↓appS, ↓s2bS, ↓resS, evB, Sx.look, slot, ↓lkL, putS, putO, argsL, ↓reduceIte, ofV, of1, lookH, putH, List.length_cons, List.length_nil, List.length_append, List.replicate, List.append, List.cons_append, List.nil_append, List.append_assoc, List.map_cons, List.map_nil, convS, fldA, nthT, idxA, idxS, fldS, oslN, bnd, slS, unS, valI, lenS, lookS, takeC, psB, asRow, csB, Int.toNat_natCast, Int.le_refl, and_self, rdF, Ent.row, ldS, sz, szL, wrF, bldF, plT, bldS, srcS, nilS, nilEq, mapC, binH, binS2, structS, eqL, eqF, binS, arrS, isI, tupS, stor, storL, Value.oneCell', minS, maxS, capS, true_and, and_true, Nat.reduceAdd, Nat.reduceSub, Nat.reduceMul, Nat.reduceLT, Nat.reduceLeDiff, Nat.reduceEqDiff, Nat.reduceBEq, Int.reduceToNat, Int.reduceNeg, Nat.zero_add, Nat.add_zero, Nat.sub_self, Nat.sub_zero, Nat.zero_mul, Nat.mul_one, Nat.zero_le, if_true, if_false, reduceIte, stays, inL, same1, qn, ldN, convN, lenN, List.mem_cons, List.not_mem_nil, Option.map_some, Option.map_none, cond_true, cond_false, Sx.imp_true, Sx.imp_false, implies_true, Int.reduceEq, Int.reduceNe, Int.reduceLE, Int.reduceLT, decide_true, decide_false, List.zipIdx_cons, List.zipIdx_nil, or_false, false_or, forall_eq_or_imp, forall_eq, ne_eq, reduceCtorEq, not_false_eq_true, Bool.false_eq_true, Bool.true_eq_false, Bool.not_true, Bool.not_false, notInt, numB, tabB, Array.reduceGetElem?, upG, up, nth, lay, rcB, rnm, rnmL, wrB, pcB, res35, Value.oneCell']
  exact intoR_refl (by simp) hK

theorem c30 (a : Int) (h : List Chunk) (K : Tok → SV → List Chunk → Prop) (hK : K .mk (.fn (.func 77) [] [.ptr h.length 0]) (h ++ [.cells true [.int .i64 a]])) : callP Try.prog 30 [.int .i64 a] h K := by
  refine callP_of_code tabOk Try.func30 (by kernel_rfl) rfl (Nat.le_of_ble_eq_true rfl) (codeP_of_vc (pl := pl30) tabOk follows_mixed (by kernel_rfl) ?_)
  rw [Try.ntmps30]
  simp -implicitDefEqProofs (maxSteps := 1000000) (disch := omega) only [↓vcB, ↓gd, ↓opP, ↓qv, ↓ef, ↓bslS, ↓stS, ↓mkS, ↓rangeS, ↓nextS, ↓entryS, ↓delS, ↓mupS, ↓appS, ↓s2bS, ↓resS, evB, Sx.look, slot, ↓lkL, putS, putO, argsL, ↓reduceIte, ofV, of1, lookH, putH, List.length_cons, List.length_nil, List.length_append, List.replicate, List.append, List.cons_append, List.nil_append, List.append_assoc, List.map_cons, List.map_nil, convS, fldA, nthT, idxA, idxS, fldS, oslN, bnd, slS, unS, valI, lenS, lookS, takeC, psB, asRow, csB, Int.toNat_natCast, Int.le_refl, and_self, rdF, Ent.row, ldS, sz, szL, wrF, bldF, plT, bldS, srcS, nilS, nilEq, mapC, binH, binS2, structS, eqL, eqF, binS, arrS, isI, tupS, stor, storL, Value.oneCell', minS, maxS, capS, true_and, and_true, Nat.reduceAdd, Nat.reduceSub, Nat.reduceMul, Nat.reduceLT, Nat.reduceLeDiff, Nat.reduceEqDiff, Nat.reduceBEq, Int.reduceToNat, Int.reduceNeg, Nat.zero_add, Nat.add_zero, Nat.sub_self, Nat.sub_zero, Nat.zero_mul, Nat.mul_one, Nat.zero_le, if_true, if_false, reduceIte, stays, inL, same1, qn, ldN, convN, lenN, List.mem_cons, List.not_mem_nil, Option.map_some, Option.map_none, cond_true, cond_false, Sx.imp_true, Sx.imp_false, implies_true, Int.reduceEq, Int.reduceNe, Int.reduceLE, Int.reduceLT, decide_true, decide_false, List.zipIdx_cons, List.zipIdx_nil, or_false, false_or, forall_eq_or_imp, forall_eq, ne_eq, reduceCtorEq, not_false_eq_true, Bool.false_eq_true, Bool.true_eq_false, Bool.not_true, Bool.not_false, notInt, numB, tabB, Array.reduceGetElem?, upG, up, nth, lay, rcB, rnm, rnmL, wrB, pcB, res30, Value.oneCell']
  exact intoR_refl (by simp) hK
end Go.Proofs.Ytloinbebkhcndaa

set_option linter.all false
set_option maxRecDepth 40000
namespace Go.Proofs.Ytloinbebkhcndaa
open Go Go.Sx

theorem csz_slice (a : Option Addr) (b c : Nat) : (Value.slice a b c).cells.size = 1 := rfl
/-- Collect, of a sequence that is known. -/
theorem c28k (f : FuncId) (lb : List Value) (L : List Int) (a : Int) (ha : -9223372036854775808 ≤ a ∧ a ≤ 9223372036854775807) (M : List Int) (hM : M = L.take a.toNat) (hlen : M.length ≤ 1000) :
    callP (seqPr Try.prog f lb L.length fun i => .int .i64 (L.getD i 0)) 28 [.v (.func (.func f) #[] ⟨lb⟩), .int .i64 a] [] fun _ v h' => v = .osl 0 0 0 1 M.length ∧ h' = [.row true M.length 1 fun i => .int .i64 (M.getD i 0)] := by
  refine callP_of_codeY (P := seqPr Try.prog f lb L.length fun i => .int .i64 (L.getD i 0)) tabOk Try.func28 (by kernel_rfl) rfl (Nat.le_of_ble_eq_true rfl) (fv := .nilFunc) (fx := fun _ => none) (nofx _) ?_
  refine codeY_of_vc (pl := pl28) tabOk follows_mixed (by kernel_rfl) ?_
  rw [Try.ntmps28]
  simp -implicitDefEqProofs (maxSteps := 1000000) (disch := omega) only [↓vcB, ↓gd, ↓opP, ↓qv, ↓ef, ↓bslS, ↓stS, ↓mkS, ↓rangeS, ↓nextS, ↓entryS, ↓delS, ↓mupS, ↓appS, ↓s2bS, ↓resS, evB, Sx.look, slot, ↓lkL, putS, putO, argsL, ↓reduceIte, ofV, of1, lookH, putH, List.length_cons, List.length_nil, List.length_append, List.replicate, List.append, List.cons_append, List.nil_append, List.append_assoc, List.map_cons, List.map_nil, convS, fldA, nthT, idxA, idxS, fldS, oslN, bnd, slS, unS, valI, lenS, lookS, takeC, psB, asRow, csB, Int.toNat_natCast, Int.le_refl, and_self, rdF, Ent.row, ldS, sz, szL, wrF, bldF, plT, bldS, srcS, nilS, nilEq, mapC, binH, binS2, structS, eqL, eqF, binS, arrS, isI, tupS, stor, storL, Value.oneCell', minS, maxS, capS, true_and, and_true, Nat.reduceAdd, Nat.reduceSub, Nat.reduceMul, Nat.reduceLT, Nat.reduceLeDiff, Nat.reduceEqDiff, Nat.reduceBEq, Int.reduceToNat, Int.reduceNeg, Nat.zero_add, Nat.add_zero, Nat.sub_self, Nat.sub_zero, Nat.zero_mul, Nat.mul_one, Nat.zero_le, if_true, if_false, reduceIte, stays, inL, same1, qn, ldN, convN, lenN, List.mem_cons, List.not_mem_nil, Option.map_some, Option.map_none, cond_true, cond_false, Sx.imp_true, Sx.imp_false, implies_true, Int.reduceEq, Int.reduceNe, Int.reduceLE, Int.reduceLT, decide_true, decide_false, List.zipIdx_cons, List.zipIdx_nil, or_false, false_or, forall_eq_or_imp, forall_eq, ne_eq, reduceCtorEq, not_false_eq_true, Bool.false_eq_true, Bool.true_eq_false, Bool.not_true, Bool.not_false, notInt, numB, tabB, ↓vyB, ↓opY, roA, liveA, lvB, frz, frz1, true_or, Array.reduceGetElem?, upG, up, nth, lay, rcB, rnm, rnmL, wrB, pcB]
  refine callP_weak (c41 f lb _ _ _ ?_)
  simp -implicitDefEqProofs (maxSteps := 1000000) (disch := omega) only [↓vcB, ↓gd, ↓opP, ↓qv, ↓ef, ↓bslS, ↓stS, ↓mkS, ↓rangeS, ↓nextS, ↓entryS, ↓delS, ↓mupS, ↓appS, ↓s2bS, ↓resS, evB, Sx.look, slot, ↓lkL, putS, putO, argsL, ↓reduceIte, ofV, of1, lookH, putH, List.length_cons, List.length_nil, List.length_append, List.replicate, List.append, List.cons_append, List.nil_append, List.append_assoc, List.map_cons, List.map_nil, convS, fldA, nthT, idxA, idxS, fldS, oslN, bnd, slS, unS, valI, lenS, lookS, takeC, psB, asRow, csB, Int.toNat_natCast, Int.le_refl, and_self, rdF, Ent.row, ldS, sz, szL, wrF, bldF, plT, bldS, srcS, nilS, nilEq, mapC, binH, binS2, structS, eqL, eqF, binS, arrS, isI, tupS, stor, storL, Value.oneCell', minS, maxS, capS, true_and, and_true, Nat.reduceAdd, Nat.reduceSub, Nat.reduceMul, Nat.reduceLT, Nat.reduceLeDiff, Nat.reduceEqDiff, Nat.reduceBEq, Int.reduceToNat, Int.reduceNeg, Nat.zero_add, Nat.add_zero, Nat.sub_self, Nat.sub_zero, Nat.zero_mul, Nat.mul_one, Nat.zero_le, if_true, if_false, reduceIte, stays, inL, same1, qn, ldN, convN, lenN, List.mem_cons, List.not_mem_nil, Option.map_some, Option.map_none, cond_true, cond_false, Sx.imp_true, Sx.imp_false, implies_true, Int.reduceEq, Int.reduceNe, Int.reduceLE, Int.reduceLT, decide_true, decide_false, List.zipIdx_cons, List.zipIdx_nil, or_false, false_or, forall_eq_or_imp, forall_eq, ne_eq, reduceCtorEq, not_false_eq_true, Bool.false_eq_true, Bool.true_eq_false, Bool.not_true, Bool.not_false, notInt, numB, tabB, ↓vyB, ↓opY, roA, liveA, lvB, frz, frz1, true_or, Array.reduceGetElem?, upG, up, nth, lay, rcB, rnm, rnmL, wrB, pcB]
  refine codeY_range [1, 2] M.length (fun i => .int .i64 (M.getD i 0)) (fun _ => trivial) (by simp [roA, liveA, lookH, Chunk.live, Chunk.wr]) (by simp [lookH, frz1, Chunk.wr]) (fun ρ w X hk hH => ?_) (fun i g h' => g = .run 0 ∧ ((i = 0 ∧ h' = [.cells true [.v (.slice none 0 0)], .cells false [.v (.func (.func f) #[] ⟨lb⟩)], .cells false [.int .i64 a]]) ∨ (1 ≤ i ∧ h' = [.cells true [.osl 3 0 0 1 i], .cells false [.v (.func (.func f) #[] ⟨lb⟩)], .cells false [.int .i64 a], .row true i 1 fun i => .int .i64 (M.getD i 0)]))) (fun i g e h' => False) ?_ ?_ ?_ ?_
  · subst hM
    exact SeqL.take (P := seqPr Try.prog f lb L.length fun i => .int .i64 (L.getD i 0)) rfl (seqS_known _ _) ha rfl rfl (by simp) (by simp) ρ w X hk (by assumption)
  · exact ⟨rfl, .inl ⟨rfl, by simp [frz, frz1, inL]⟩⟩
  · rintro i g h' hi ⟨rfl, ⟨rfl, rfl⟩ | ⟨h1, rfl⟩⟩
    · refine codeY_of_vc (pl := pl28) tabOk follows_mixed (by kernel_rfl) ?_
      simp -implicitDefEqProofs (maxSteps := 1000000) (disch := omega) only [↓vcB, ↓gd, ↓opP, ↓qv, ↓ef, ↓bslS, ↓stS, ↓mkS, ↓rangeS, ↓nextS, ↓entryS, ↓delS, ↓mupS, ↓appS, ↓s2bS, ↓resS, evB, Sx.look, slot, ↓lkL, putS, putO, argsL, ↓reduceIte, ofV, of1, lookH, putH, List.length_cons, List.length_nil, List.length_append, List.replicate, List.append, List.cons_append, List.nil_append, List.append_assoc, List.map_cons, List.map_nil, convS, fldA, nthT, idxA, idxS, fldS, oslN, bnd, slS, unS, valI, lenS, lookS, takeC, psB, asRow, csB, Int.toNat_natCast, Int.le_refl, and_self, rdF, Ent.row, ldS, sz, szL, wrF, bldF, plT, bldS, srcS, nilS, nilEq, mapC, binH, binS2, structS, eqL, eqF, binS, arrS, isI, tupS, stor, storL, Value.oneCell', minS, maxS, capS, true_and, and_true, Nat.reduceAdd, Nat.reduceSub, Nat.reduceMul, Nat.reduceLT, Nat.reduceLeDiff, Nat.reduceEqDiff, Nat.reduceBEq, Int.reduceToNat, Int.reduceNeg, Nat.zero_add, Nat.add_zero, Nat.sub_self, Nat.sub_zero, Nat.zero_mul, Nat.mul_one, Nat.zero_le, if_true, if_false, reduceIte, stays, inL, same1, qn, ldN, convN, lenN, List.mem_cons, List.not_mem_nil, Option.map_some, Option.map_none, cond_true, cond_false, Sx.imp_true, Sx.imp_false, implies_true, Int.reduceEq, Int.reduceNe, Int.reduceLE, Int.reduceLT, decide_true, decide_false, List.zipIdx_cons, List.zipIdx_nil, or_false, false_or, forall_eq_or_imp, forall_eq, ne_eq, reduceCtorEq, not_false_eq_true, Bool.false_eq_true, Bool.true_eq_false, Bool.not_true, Bool.not_false, notInt, numB, tabB, ↓vyB, ↓opY, roA, liveA, lvB, frz, frz1, true_or, Array.reduceGetElem?, upG, up, nth, lay, rcB, rnm, rnmL, wrB, pcB]
      refine codeY_of_vc (pl := pl28) tabOk follows_mixed (by kernel_rfl) ?_
      simp -implicitDefEqProofs (maxSteps := 1000000) (disch := omega) only [↓vcB, ↓gd, ↓opP, ↓qv, ↓ef, ↓bslS, ↓stS, ↓mkS, ↓rangeS, ↓nextS, ↓entryS, ↓delS, ↓mupS, ↓appS, ↓s2bS, ↓resS, evB, Sx.look, slot, ↓lkL, putS, putO, argsL, ↓reduceIte, ofV, of1, lookH, putH, List.length_cons, List.length_nil, List.length_append, List.replicate, List.append, List.cons_append, List.nil_append, List.append_assoc, List.map_cons, List.map_nil, convS, fldA, nthT, idxA, idxS, fldS, oslN, bnd, slS, unS, valI, lenS, lookS, takeC, psB, asRow, csB, Int.toNat_natCast, Int.le_refl, and_self, rdF, Ent.row, ldS, sz, szL, wrF, bldF, plT, bldS, srcS, nilS, nilEq, mapC, binH, binS2, structS, eqL, eqF, binS, arrS, isI, tupS, stor, storL, Value.oneCell', minS, maxS, capS, true_and, and_true, Nat.reduceAdd, Nat.reduceSub, Nat.reduceMul, Nat.reduceLT, Nat.reduceLeDiff, Nat.reduceEqDiff, Nat.reduceBEq, Int.reduceToNat, Int.reduceNeg, Nat.zero_add, Nat.add_zero, Nat.sub_self, Nat.sub_zero, Nat.zero_mul, Nat.mul_one, Nat.zero_le, if_true, if_false, reduceIte, stays, inL, same1, qn, ldN, convN, lenN, List.mem_cons, List.not_mem_nil, Option.map_some, Option.map_none, cond_true, cond_false, Sx.imp_true, Sx.imp_false, implies_true, Int.reduceEq, Int.reduceNe, Int.reduceLE, Int.reduceLT, decide_true, decide_false, List.zipIdx_cons, List.zipIdx_nil, or_false, false_or, forall_eq_or_imp, forall_eq, ne_eq, reduceCtorEq, not_false_eq_true, Bool.false_eq_true, Bool.true_eq_false, Bool.not_true, Bool.not_false, notInt, numB, tabB, ↓vyB, ↓opY, roA, liveA, lvB, frz, frz1, true_or, Array.reduceGetElem?, upG, up, nth, lay, rcB, rnm, rnmL, wrB, pcB, csz_slice]
      intro d
      refine into_mk [some 0, some 1, some 2, some 4] [] [.cells true [.osl 3 0 0 1 1], .cells false [.v (.func (.func f) #[] ⟨lb⟩)], .cells false [.int .i64 a], .row true 1 1 fun i => .int .i64 (M.getD i 0)] ?_ ?_ ?_ ?_ ?_ ?_ ?_ ?_
      · simp [slot, lkL, fixed, rg, renH, chEq, lookH, eqvL, eqv, eqvF, rnmL, rnm, liveN, Chunk.live, goodH, Chunk.good, okL, ok, sz, szL, storL, stor, renT, okT]
      · simp [slot, lkL, fixed, rg, renH, chEq, lookH, eqvL, eqv, eqvF, rnmL, rnm, liveN, Chunk.live, goodH, Chunk.good, okL, ok, sz, szL, storL, stor, renT, okT]
      · simp [slot, lkL, fixed, rg, renH, chEq, lookH, eqvL, eqv, eqvF, rnmL, rnm, liveN, Chunk.live, goodH, Chunk.good, okL, ok, sz, szL, storL, stor, renT, okT, Sx.look]
      · simp [slot, lkL, fixed, rg, renH, chEq, lookH, eqvL, eqv, eqvF, rnmL, rnm, liveN, Chunk.live, goodH, Chunk.good, okL, ok, sz, szL, storL, stor, renT, okT]
      · simp [slot, lkL, fixed, rg, renH, chEq, lookH, eqvL, eqv, eqvF, rnmL, rnm, liveN, Chunk.live, goodH, Chunk.good, okL, ok, sz, szL, storL, stor, renT, okT, Value.oneCell']
      · simp [slot, lkL, fixed, rg, renH, chEq, lookH, eqvL, eqv, eqvF, rnmL, rnm, liveN, Chunk.live, goodH, Chunk.good, okL, ok, sz, szL, storL, stor, renT, okT]
      · simp [slot, lkL, fixed, rg, renH, chEq, lookH, eqvL, eqv, eqvF, rnmL, rnm, liveN, Chunk.live, goodH, Chunk.good, okL, ok, sz, szL, storL, stor, renT, okT]
      · exact fun j => ⟨rfl, .inr rfl, by simp [roA, liveA, lookH, frz, frz1, inL, Chunk.live, Chunk.wr]⟩
    · refine codeY_of_vc (pl := pl28) tabOk follows_mixed (by kernel_rfl) ?_
      simp -implicitDefEqProofs (maxSteps := 1000000) (disch := omega) only [↓vcB, ↓gd, ↓opP, ↓qv, ↓ef, ↓bslS, ↓stS, ↓mkS, ↓rangeS, ↓nextS, ↓entryS, ↓delS, ↓mupS, ↓appS, ↓s2bS, ↓resS, evB, Sx.look, slot, ↓lkL, putS, putO, argsL, ↓reduceIte, ofV, of1, lookH, putH, List.length_cons, List.length_nil, List.length_append, List.replicate, List.append, List.cons_append, List.nil_append, List.append_assoc, List.map_cons, List.map_nil, convS, fldA, nthT, idxA, idxS, fldS, oslN, bnd, slS, unS, valI, lenS, lookS, takeC, psB, asRow, csB, Int.toNat_natCast, Int.le_refl, and_self, rdF, Ent.row, ldS, sz, szL, wrF, bldF, plT, bldS, srcS, nilS, nilEq, mapC, binH, binS2, structS, eqL, eqF, binS, arrS, isI, tupS, stor, storL, Value.oneCell', minS, maxS, capS, true_and, and_true, Nat.reduceAdd, Nat.reduceSub, Nat.reduceMul, Nat.reduceLT, Nat.reduceLeDiff, Nat.reduceEqDiff, Nat.reduceBEq, Int.reduceToNat, Int.reduceNeg, Nat.zero_add, Nat.add_zero, Nat.sub_self, Nat.sub_zero, Nat.zero_mul, Nat.mul_one, Nat.zero_le, if_true, if_false, reduceIte, stays, inL, same1, qn, ldN, convN, lenN, List.mem_cons, List.not_mem_nil, Option.map_some, Option.map_none, cond_true, cond_false, Sx.imp_true, Sx.imp_false, implies_true, Int.reduceEq, Int.reduceNe, Int.reduceLE, Int.reduceLT, decide_true, decide_false, List.zipIdx_cons, List.zipIdx_nil, or_false, false_or, forall_eq_or_imp, forall_eq, ne_eq, reduceCtorEq, not_false_eq_true, Bool.false_eq_true, Bool.true_eq_false, Bool.not_true, Bool.not_false, notInt, numB, tabB, ↓vyB, ↓opY, roA, liveA, lvB, frz, frz1, true_or, Array.reduceGetElem?, upG, up, nth, lay, rcB, rnm, rnmL, wrB, pcB]
      refine codeY_of_vc (pl := pl28) tabOk follows_mixed (by kernel_rfl) ?_
      simp -implicitDefEqProofs (maxSteps := 1000000) (disch := omega) only [↓vcB, ↓gd, ↓opP, ↓qv, ↓ef, ↓bslS, ↓stS, ↓mkS, ↓rangeS, ↓nextS, ↓entryS, ↓delS, ↓mupS, ↓appS, ↓s2bS, ↓resS, evB, Sx.look, slot, ↓lkL, putS, putO, argsL, ↓reduceIte, ofV, of1, lookH, putH, List.length_cons, List.length_nil, List.length_append, List.replicate, List.append, List.cons_append, List.nil_append, List.append_assoc, List.map_cons, List.map_nil, convS, fldA, nthT, idxA, idxS, fldS, oslN, bnd, slS, unS, valI, lenS, lookS, takeC, psB, asRow, csB, Int.toNat_natCast, Int.le_refl, and_self, rdF, Ent.row, ldS, sz, szL, wrF, bldF, plT, bldS, srcS, nilS, nilEq, mapC, binH, binS2, structS, eqL, eqF, binS, arrS, isI, tupS, stor, storL, Value.oneCell', minS, maxS, capS, true_and, and_true, Nat.reduceAdd, Nat.reduceSub, Nat.reduceMul, Nat.reduceLT, Nat.reduceLeDiff, Nat.reduceEqDiff, Nat.reduceBEq, Int.reduceToNat, Int.reduceNeg, Nat.zero_add, Nat.add_zero, Nat.sub_self, Nat.sub_zero, Nat.zero_mul, Nat.mul_one, Nat.zero_le, if_true, if_false, reduceIte, stays, inL, same1, qn, ldN, convN, lenN, List.mem_cons, List.not_mem_nil, Option.map_some, Option.map_none, cond_true, cond_false, Sx.imp_true, Sx.imp_false, implies_true, Int.reduceEq, Int.reduceNe, Int.reduceLE, Int.reduceLT, decide_true, decide_false, List.zipIdx_cons, List.zipIdx_nil, or_false, false_or, forall_eq_or_imp, forall_eq, ne_eq, reduceCtorEq, not_false_eq_true, Bool.false_eq_true, Bool.true_eq_false, Bool.not_true, Bool.not_false, notInt, numB, tabB, ↓vyB, ↓opY, roA, liveA, lvB, frz, frz1, true_or, Array.reduceGetElem?, upG, up, nth, lay, rcB, rnm, rnmL, wrB, pcB, csz_slice]
      refine ⟨by omega, ?_⟩
      intro d
      refine into_mk [some 0, some 1, some 2, some 5] [] [.cells true [.osl 3 0 0 1 (i + 1)], .cells false [.v (.func (.func f) #[] ⟨lb⟩)], .cells false [.int .i64 a], .row true (i + 1) 1 fun i => .int .i64 (M.getD i 0)] ?_ ?_ ?_ ?_ ?_ ?_ ?_ ?_
      · simp [slot, lkL, fixed, rg, renH, chEq, lookH, eqvL, eqv, eqvF, rnmL, rnm, liveN, Chunk.live, goodH, Chunk.good, okL, ok, sz, szL, storL, stor, renT, okT]
      · simp [slot, lkL, fixed, rg, renH, chEq, lookH, eqvL, eqv, eqvF, rnmL, rnm, liveN, Chunk.live, goodH, Chunk.good, okL, ok, sz, szL, storL, stor, renT, okT]
      · simp [slot, lkL, fixed, rg, renH, chEq, lookH, eqvL, eqv, eqvF, rnmL, rnm, liveN, Chunk.live, goodH, Chunk.good, okL, ok, sz, szL, storL, stor, renT, okT, Sx.look]
        intro k hk
        by_cases h : k < i
        · simp [h, eqv]
        · obtain rfl : k = i := by omega
          simp [Sx.look, eqv]
      · simp [slot, lkL, fixed, rg, renH, chEq, lookH, eqvL, eqv, eqvF, rnmL, rnm, liveN, Chunk.live, goodH, Chunk.good, okL, ok, sz, szL, storL, stor, renT, okT]
      · simp [slot, lkL, fixed, rg, renH, chEq, lookH, eqvL, eqv, eqvF, rnmL, rnm, liveN, Chunk.live, goodH, Chunk.good, okL, ok, sz, szL, storL, stor, renT, okT, Value.oneCell']
      · simp [slot, lkL, fixed, rg, renH, chEq, lookH, eqvL, eqv, eqvF, rnmL, rnm, liveN, Chunk.live, goodH, Chunk.good, okL, ok, sz, szL, storL, stor, renT, okT]
      · simp [slot, lkL, fixed, rg, renH, chEq, lookH, eqvL, eqv, eqvF, rnmL, rnm, liveN, Chunk.live, goodH, Chunk.good, okL, ok, sz, szL, storL, stor, renT, okT]
      · exact fun j => ⟨rfl, .inr rfl, by simp [roA, liveA, lookH, frz, frz1, inL, Chunk.live, Chunk.wr]⟩
  · rintro g h' ⟨rfl, ⟨h0, rfl⟩ | ⟨h1, rfl⟩⟩
    · simp -implicitDefEqProofs (maxSteps := 1000000) (disch := omega) only [↓vcB, ↓gd, ↓opP, ↓qv, ↓ef, ↓bslS, ↓stS, ↓mkS, ↓rangeS, ↓nextS, ↓entryS, ↓delS, ↓mupS, ↓appS, ↓s2bS, ↓resS, evB, Sx.look, slot, ↓lkL, putS, putO, argsL, ↓reduceIte, ofV, of1, lookH, putH, List.length_cons, List.length_nil, List.length_append, List.replicate, List.append, List.cons_append, List.nil_append, List.append_assoc, List.map_cons, List.map_nil, convS, fldA, nthT, idxA, idxS, fldS, oslN, bnd, slS, unS, valI, lenS, lookS, takeC, psB, asRow, csB, Int.toNat_natCast, Int.le_refl, and_self, rdF, Ent.row, ldS, sz, szL, wrF, bldF, plT, bldS, srcS, nilS, nilEq, mapC, binH, binS2, structS, eqL, eqF, binS, arrS, isI, tupS, stor, storL, Value.oneCell', minS, maxS, capS, true_and, and_true, Nat.reduceAdd, Nat.reduceSub, Nat.reduceMul, Nat.reduceLT, Nat.reduceLeDiff, Nat.reduceEqDiff, Nat.reduceBEq, Int.reduceToNat, Int.reduceNeg, Nat.zero_add, Nat.add_zero, Nat.sub_self, Nat.sub_zero, Nat.zero_mul, Nat.mul_one, Nat.zero_le, if_true, if_false, reduceIte, stays, inL, same1, qn, ldN, convN, lenN, List.mem_cons, List.not_mem_nil, Option.map_some, Option.map_none, cond_true, cond_false, Sx.imp_true, Sx.imp_false, implies_true, Int.reduceEq, Int.reduceNe, Int.reduceLE, Int.reduceLT, decide_true, decide_false, List.zipIdx_cons, List.zipIdx_nil, or_false, false_or, forall_eq_or_imp, forall_eq, ne_eq, reduceCtorEq, not_false_eq_true, Bool.false_eq_true, Bool.true_eq_false, Bool.not_true, Bool.not_false, notInt, numB, tabB, ↓vyB, ↓opY, roA, liveA, lvB, frz, frz1, true_or, Array.reduceGetElem?, upG, up, nth, lay, rcB, rnm, rnmL, wrB, pcB, res28]
      refine intoR_nilT [] rfl rfl trivial ⟨by rw [h0], by rw [h0]; rfl⟩
    · simp -implicitDefEqProofs (maxSteps := 1000000) (disch := omega) only [↓vcB, ↓gd, ↓opP, ↓qv, ↓ef, ↓bslS, ↓stS, ↓mkS, ↓rangeS, ↓nextS, ↓entryS, ↓delS, ↓mupS, ↓appS, ↓s2bS, ↓resS, evB, Sx.look, slot, ↓lkL, putS, putO, argsL, ↓reduceIte, ofV, of1, lookH, putH, List.length_cons, List.length_nil, List.length_append, List.replicate, List.append, List.cons_append, List.nil_append, List.append_assoc, List.map_cons, List.map_nil, convS, fldA, nthT, idxA, idxS, fldS, oslN, bnd, slS, unS, valI, lenS, lookS, takeC, psB, asRow, csB, Int.toNat_natCast, Int.le_refl, and_self, rdF, Ent.row, ldS, sz, szL, wrF, bldF, plT, bldS, srcS, nilS, nilEq, mapC, binH, binS2, structS, eqL, eqF, binS, arrS, isI, tupS, stor, storL, Value.oneCell', minS, maxS, capS, true_and, and_true, Nat.reduceAdd, Nat.reduceSub, Nat.reduceMul, Nat.reduceLT, Nat.reduceLeDiff, Nat.reduceEqDiff, Nat.reduceBEq, Int.reduceToNat, Int.reduceNeg, Nat.zero_add, Nat.add_zero, Nat.sub_self, Nat.sub_zero, Nat.zero_mul, Nat.mul_one, Nat.zero_le, if_true, if_false, reduceIte, stays, inL, same1, qn, ldN, convN, lenN, List.mem_cons, List.not_mem_nil, Option.map_some, Option.map_none, cond_true, cond_false, Sx.imp_true, Sx.imp_false, implies_true, Int.reduceEq, Int.reduceNe, Int.reduceLE, Int.reduceLT, decide_true, decide_false, List.zipIdx_cons, List.zipIdx_nil, or_false, false_or, forall_eq_or_imp, forall_eq, ne_eq, reduceCtorEq, not_false_eq_true, Bool.false_eq_true, Bool.true_eq_false, Bool.not_true, Bool.not_false, notInt, numB, tabB, ↓vyB, ↓opY, roA, liveA, lvB, frz, frz1, true_or, Array.reduceGetElem?, upG, up, nth, lay, rcB, rnm, rnmL, wrB, pcB, res28]
      refine intoR_mk [some 3] (.osl 0 0 0 1 M.length) [.row true M.length 1 fun i => .int .i64 (M.getD i 0)] ?_ ?_ ?_ ?_ ?_ ?_ ?_ ⟨rfl, rfl⟩
      all_goals simp [slot, lkL, fixed, rg, renH, chEq, lookH, eqvL, eqv, eqvF, rnmL, rnm, liveN, Chunk.live, goodH, Chunk.good, okL, ok, sz, szL, storL, stor, renT, okT]
  · rintro i g e h' hi he
    exact he.elim
end Go.Proofs.Ytloinbebkhcndaa

set_option linter.all false
set_option maxRecDepth 40000
namespace Go.Proofs.Ytloinbebkhcndaa
open Go Go.Sx
theorem res26 : Try.f26.results.toList = [.tmp 2] := rfl
theorem res39 : Try.f39.results.toList = [.tmp 2] := rfl
theorem res31 : Try.f31.results.toList = [.tmp 0] := rfl
def pl26 : Nat → Plan := fun _ => .nil

def pl39 : Nat → Plan := fun _ => .nil

def pl31 : Nat → Plan := fun _ => .nil


section
variable {P : Pr} (hP : P.p = Try.prog)
include hP
/-- Collect, of a sequence in a heap. -/
theorem c28 {qs : List Nat} {h : List Chunk} {sv : SV} {L : List Int} (hs : SeqL P qs h sv L) (a : Int) (ha : -9223372036854775808 ≤ a ∧ a ≤ 9223372036854775807) (M : List Int) (hM : M = L.take a.toNat) (hlen : M.length ≤ 1000) (K : Tok → SV → List Chunk → Prop)
    (hK : K .mk (.osl h.length 0 0 1 M.length) (h ++ [.row true M.length 1 fun i => .int .i64 (M.getD i 0)])) : callP P 28 [sv, .int .i64 a] h K := by
  refine callP_open (KL := fun _ v h' => v = .osl 0 0 0 1 M.length ∧ h' = [.row true M.length 1 fun i => .int .i64 (M.getD i 0)]) (fun C ρ w hk hMo => ?_) ?_
  · obtain ⟨f, lb, B, hd, hg, _⟩ := hs ρ w (fun b => C.X b ∨ C.w0.heap.size ≤ b) (P.keep hk hMo.keep fun b hb => hb) fun k hkq => ⟨lookH_holds hMo k, fun hR => hMo.size k _ (lookH_some rfl (by intro e; rw [e] at hR; cases hR.1)) hR⟩
    rw [hP] at hg
    have hd' : ∀ ρ', denL ρ [sv, .int .i64 a] = denL ρ' [.v (.func (.func f) #[] ⟨lb⟩), .int .i64 a] := fun ρ' => by simp only [denL, hd, den]
    exact ⟨seqPr Try.prog f lb L.length fun i => .int .i64 (L.getD i 0), [.v (.func (.func f) #[] ⟨lb⟩), .int .i64 a], hP.symm, ⟨B, fun _ _ h => h, hg⟩, ⟨trivial, trivial, trivial⟩, hd', c28k f lb L a ha M hM hlen⟩
  · rintro v hl' ⟨rfl, rfl⟩
    refine ⟨by simp [Chunk.wr], ?_⟩
    have e1 : rnm (upG [] h.length) (.osl 0 0 0 1 M.length) = .osl h.length 0 0 1 M.length := by simp [rnm, upG, up, nth]
    have e2 : [Chunk.row true M.length 1 fun i => SV.int .i64 (M.getD i 0)].map (rnmC (upG [] h.length)) = [Chunk.row true M.length 1 fun i => SV.int .i64 (M.getD i 0)] := by simp [rnmC, rnm]
    rw [e1, e2]
    exact hK
end

theorem c26 (h : List Chunk) (k n : Nat) (wr : Bool) (A : Nat → SV) (hk : lookH h k = .row wr n 1 A) (hn : n ≤ 9223372036854775807) (m : Nat) (hm : m = min n 60) (K : Tok → SV → List Chunk → Prop) (hK : K .mk (.osl k 0 0 1 m) h) : callP Try.prog 26 [.osl k 0 0 1 n] h K := by
  refine callP_of_code tabOk Try.func26 (by kernel_rfl) rfl (Nat.le_of_ble_eq_true rfl) (codeP_of_vc (pl := pl26) tabOk follows_mixed (by kernel_rfl) ?_)
  rw [Try.ntmps26]
  simp -implicitDefEqProofs (maxSteps := 1000000) (disch := omega) only [↓vcB, ↓gd, ↓opP, ↓qv, ↓ef, ↓bslS, ↓stS, ↓mkS, ↓rangeS, ↓nextS, ↓entryS, ↓delS, ↓mupS, ↓appS, ↓s2bS, ↓resS, evB, Sx.look, slot, ↓lkL, putS, putO, argsL, ↓reduceIte, ofV, of1, lookH, putH, List.length_cons, List.length_nil, List.length_append, List.replicate, List.append, List.cons_append, List.nil_append, List.append_assoc, List.map_cons, List.map_nil, convS, fldA, nthT, idxA, idxS, fldS, oslN, bnd, slS, unS, valI, lenS, lookS, takeC, psB, asRow, csB, Int.toNat_natCast, Int.le_refl, and_self, rdF, Ent.row, ldS, sz, szL, wrF, bldF, plT, bldS, srcS, nilS, nilEq, mapC, binH, binS2, structS, eqL, eqF, binS, arrS, isI, tupS, stor, storL, Value.oneCell', minS, maxS, capS, true_and, and_true, Nat.reduceAdd, Nat.reduceSub, Nat.reduceMul, Nat.reduceLT, Nat.reduceLeDiff, Nat.reduceEqDiff, Nat.reduceBEq, Int.reduceToNat, Int.reduceNeg, Nat.zero_add, Nat.add_zero, Nat.sub_self, Nat.sub_zero, Nat.zero_mul, Nat.mul_one, Nat.zero_le, if_true, if_false, reduceIte, stays, inL, same1, qn, ldN, convN, lenN, List.mem_cons, List.not_mem_nil, Option.map_some, Option.map_none, cond_true, cond_false, Sx.imp_true, Sx.imp_false, implies_true, Int.reduceEq, Int.reduceNe, Int.reduceLE, Int.reduceLT, decide_true, decide_false, List.zipIdx_cons, List.zipIdx_nil, or_false, false_or, forall_eq_or_imp, forall_eq, ne_eq, reduceCtorEq, not_false_eq_true, Bool.false_eq_true, Bool.true_eq_false, Bool.not_true, Bool.not_false, notInt, numB, tabB, Array.reduceGetElem?, upG, up, nth, lay, rcB, rnm, rnmL, wrB, pcB, res26, hk]
  have e : (if (60 : Int) < n then (60 : Int) else n).toNat = m := by split <;> omega
  refine ⟨⟨by split <;> omega, by split <;> omega⟩, ?_⟩
  rw [e]
  exact intoR_refl (Nat.le_refl _) hK
theorem c75 (h : List Chunk) (k n : Nat) (K : Tok → SV → List Chunk → Prop) (hK : K .mk (.fn (.func 100) [] [.ptr h.length 0]) (h ++ [.cells true [.osl k 0 0 1 n]])) : callP Try.prog 75 [.osl k 0 0 1 n] h K := by
  refine callP_of_code tabOk Try.func75 (by kernel_rfl) rfl (Nat.le_of_ble_eq_true rfl) (codeP_of_vc (pl := pl75) tabOk follows_mixed (by kernel_rfl) ?_)
  rw [Try.ntmps75]
  simp -implicitDefEqProofs (maxSteps := 1000000) (disch := omega) only [↓vcB, ↓gd, ↓opP, ↓qv, ↓ef, ↓bslS, ↓stS, ↓mkS, ↓rangeS, ↓nextS, ↓entryS, ↓delS, ↓mupS, ↓appS, ↓s2bS, ↓resS, evB, Sx.look, slot, ↓lkL, putS, putO, argsL, ↓reduceIte, ofV, of1, lookH, putH, List.length_cons, List.length_nil, List.length_append, List.replicate, List.append, List.cons_append, List.nil_append, List.append_assoc, List.map_cons, List.map_nil, convS, fldA, nthT, idxA, idxS, fldS, oslN, bnd, slS, unS, valI, lenS, lookS, takeC, psB, asRow, csB, Int.toNat_natCast, Int.le_refl, and_self, rdF, Ent.row, ldS, sz, szL, wrF, bldF, plT, bldS, srcS, nilS, nilEq, mapC, binH, binS2, structS, eqL, eqF, binS, arrS, isI, tupS, stor, storL, Value.oneCell', minS, maxS, capS, true_and, and_true, Nat.reduceAdd, Nat.reduceSub, Nat.reduceMul, Nat.reduceLT, Nat.reduceLeDiff, Nat.reduceEqDiff, Nat.reduceBEq, Int.reduceToNat, Int.reduceNeg, Nat.zero_add, Nat.add_zero, Nat.sub_self, Nat.sub_zero, Nat.zero_mul, Nat.mul_one, Nat.zero_le, if_true, if_false, reduceIte, stays, inL, same1, qn, ldN, convN, lenN, List.mem_cons, List.not_mem_nil, Option.map_some, Option.map_none, cond_true, cond_false, Sx.imp_true, Sx.imp_false, implies_true, Int.reduceEq, Int.reduceNe, Int.reduceLE, Int.reduceLT, decide_true, decide_false, List.zipIdx_cons, List.zipIdx_nil, or_false, false_or, forall_eq_or_imp, forall_eq, ne_eq, reduceCtorEq, not_false_eq_true, Bool.false_eq_true, Bool.true_eq_false, Bool.not_true, Bool.not_false, notInt, numB, tabB, Array.reduceGetElem?, upG, up, nth, lay, rcB, rnm, rnmL, wrB, pcB, res75, Value.oneCell']
  exact intoR_refl (by simp) hK
theorem c76 (n q : Nat) (hnq : n ≤ q) (hq : n ≤ 1000) (A : Nat → Int) (K : Tok → SV → List Chunk → Prop) (hK : K .mk (.osl 1 0 0 1 n) [.row false q 1 fun i => .int .i64 (A i), .row true n 1 fun i => .int .i64 (A i)]) :
    callP Try.prog 76 [.osl 0 0 0 1 n] [.row false q 1 fun i => .int .i64 (A i)] K := by
  refine callP_osl1 hnq (fun hn => ?_) (fun cap => ?_)
  · subst hn
    refine callP_of_code tabOk Try.func76 (by kernel_rfl) rfl (Nat.le_of_ble_eq_true rfl) (codeP_of_vc (pl := pl76) tabOk follows_mixed (by kernel_rfl) ?_)
    rw [Try.ntmps76]
    simp -implicitDefEqProofs (maxSteps := 1000000) (disch := omega) only [↓vcB, ↓gd, ↓opP, ↓qv, ↓ef, ↓bslS, ↓stS, ↓mkS, ↓rangeS, ↓nextS, ↓entryS, ↓delS, ↓mupS, ↓appS, ↓s2bS, ↓resS, evB, Sx.look, slot, ↓lkL, putS, putO, argsL, ↓reduceIte, ofV, of1, lookH, putH, List.length_cons, List.length_nil, List.length_append, List.replicate, List.append, List.cons_append, List.nil_append, List.append_assoc, List.map_cons, List.map_nil, convS, fldA, nthT, idxA, idxS, fldS, oslN, bnd, slS, unS, valI, lenS, lookS, takeC, psB, asRow, csB, Int.toNat_natCast, Int.le_refl, and_self, rdF, Ent.row, ldS, sz, szL, wrF, bldF, plT, bldS, srcS, nilS, nilEq, mapC, binH, binS2, structS, eqL, eqF, binS, arrS, isI, tupS, stor, storL, Value.oneCell', minS, maxS, capS, true_and, and_true, Nat.reduceAdd, Nat.reduceSub, Nat.reduceMul, Nat.reduceLT, Nat.reduceLeDiff, Nat.reduceEqDiff, Nat.reduceBEq, Int.reduceToNat, Int.reduceNeg, Nat.zero_add, Nat.add_zero, Nat.sub_self, Nat.sub_zero, Nat.zero_mul, Nat.mul_one, Nat.zero_le, if_true, if_false, reduceIte, stays, inL, same1, qn, ldN, convN, lenN, List.mem_cons, List.not_mem_nil, Option.map_some, Option.map_none, cond_true, cond_false, Sx.imp_true, Sx.imp_false, implies_true, Int.reduceEq, Int.reduceNe, Int.reduceLE, Int.reduceLT, decide_true, decide_false, List.zipIdx_cons, List.zipIdx_nil, or_false, false_or, forall_eq_or_imp, forall_eq, ne_eq, reduceCtorEq, not_false_eq_true, Bool.false_eq_true, Bool.true_eq_false, Bool.not_true, Bool.not_false, notInt, numB, tabB, Array.reduceGetElem?, upG, up, nth, lay, rcB, rnm, rnmL, wrB, pcB, res76, Option.isNone]
    exact intoR_nilT [.row false q 1 fun i => .int .i64 (A i)] rfl rfl (by simp [slot, lkL, fixed, rg, renH, chB, lookH, eqvL, eqv, eqvF, rnmL, rnm, liveN, lvB, goodH, gdB, okL, ok, sz, szL, storL, stor, renT, okT, pcB]) hK
  · refine callP_of_code tabOk Try.func76 (by kernel_rfl) rfl (Nat.le_of_ble_eq_true rfl) (codeP_of_vc (pl := pl76) tabOk follows_mixed (by kernel_rfl) ?_)
    rw [Try.ntmps76]
    simp -implicitDefEqProofs (maxSteps := 1000000) (disch := omega) only [↓vcB, ↓gd, ↓opP, ↓qv, ↓ef, ↓bslS, ↓stS, ↓mkS, ↓rangeS, ↓nextS, ↓entryS, ↓delS, ↓mupS, ↓appS, ↓s2bS, ↓resS, evB, Sx.look, slot, ↓lkL, putS, putO, argsL, ↓reduceIte, ofV, of1, lookH, putH, List.length_cons, List.length_nil, List.length_append, List.replicate, List.append, List.cons_append, List.nil_append, List.append_assoc, List.map_cons, List.map_nil, convS, fldA, nthT, idxA, idxS, fldS, oslN, bnd, slS, unS, valI, lenS, lookS, takeC, psB, asRow, csB, Int.toNat_natCast, Int.le_refl, and_self, rdF, Ent.row, ldS, sz, szL, wrF, bldF, plT, bldS, srcS, nilS, nilEq, mapC, binH, binS2, structS, eqL, eqF, binS, arrS, isI, tupS, stor, storL, Value.oneCell', minS, maxS, capS, true_and, and_true, Nat.reduceAdd, Nat.reduceSub, Nat.reduceMul, Nat.reduceLT, Nat.reduceLeDiff, Nat.reduceEqDiff, Nat.reduceBEq, Int.reduceToNat, Int.reduceNeg, Nat.zero_add, Nat.add_zero, Nat.sub_self, Nat.sub_zero, Nat.zero_mul, Nat.mul_one, Nat.zero_le, if_true, if_false, reduceIte, stays, inL, same1, qn, ldN, convN, lenN, List.mem_cons, List.not_mem_nil, Option.map_some, Option.map_none, cond_true, cond_false, Sx.imp_true, Sx.imp_false, implies_true, Int.reduceEq, Int.reduceNe, Int.reduceLE, Int.reduceLT, decide_true, decide_false, List.zipIdx_cons, List.zipIdx_nil, or_false, false_or, forall_eq_or_imp, forall_eq, ne_eq, reduceCtorEq, not_false_eq_true, Bool.false_eq_true, Bool.true_eq_false, Bool.not_true, Bool.not_false, notInt, numB, tabB, Array.reduceGetElem?, upG, up, nth, lay, rcB, rnm, rnmL, wrB, pcB, res76, Option.isNone]
    refine ⟨fun x hx => hx.elim, ⟨hnq, by omega, by omega⟩, ?_⟩
    refine intoR_mk [some 0, some 2] (.osl 1 0 0 1 n) [.cells false [.fam q 1 fun i => .int .i64 (A i)], .row true n 1 fun i => .int .i64 (A i)] ?_ ?_ ?_ ?_ ?_ ?_ ?_ ⟨_, rfl, hK⟩
    all_goals simp [slot, lkL, fixed, rg, renH, chEq, lookH, eqvL, eqv, eqvF, rnmL, rnm, liveN, Chunk.live, goodH, Chunk.good, okL, ok, sz, szL, storL, stor, renT, okT]

/-- gen.Of: the elements of a list, as they are now. -/
theorem c29k (n q : Nat) (hnq : n ≤ q) (hq : n ≤ 1000) (A : Nat → Int) (K : Tok → SV → List Chunk → Prop)
    (hK : K .mk (.fn (.func 100) [] [.ptr 2 0]) [.row false q 1 fun i => .int .i64 (A i), .row true n 1 fun i => .int .i64 (A i), .cells true [.osl 1 0 0 1 n]]) : callP Try.prog 29 [.osl 0 0 0 1 n] [.row false q 1 fun i => .int .i64 (A i)] K := by
  refine callP_of_code tabOk Try.func29 (by kernel_rfl) rfl (Nat.le_of_ble_eq_true rfl) (codeP_of_vc (pl := pl29) tabOk follows_mixed (by kernel_rfl) ?_)
  rw [Try.ntmps29]
  simp -implicitDefEqProofs (maxSteps := 1000000) (disch := omega) only [↓vcB, ↓gd, ↓opP, ↓qv, ↓ef, ↓bslS, ↓stS, ↓mkS, ↓rangeS, ↓nextS, ↓entryS, ↓delS, ↓mupS, ↓appS, ↓s2bS, ↓resS, evB, Sx.look, slot, ↓lkL, putS, putO, argsL, ↓reduceIte, ofV, of1, lookH, putH, List.length_cons, List.length_nil, List.length_append, List.replicate, List.append, List.cons_append, List.nil_append, List.append_assoc, List.map_cons, List.map_nil, convS, fldA, nthT, idxA, idxS, fldS, oslN, bnd, slS, unS, valI, lenS, lookS, takeC, psB, asRow, csB, Int.toNat_natCast, Int.le_refl, and_self, rdF, Ent.row, ldS, sz, szL, wrF, bldF, plT, bldS, srcS, nilS, nilEq, mapC, binH, binS2, structS, eqL, eqF, binS, arrS, isI, tupS, stor, storL, Value.oneCell', minS, maxS, capS, true_and, and_true, Nat.reduceAdd, Nat.reduceSub, Nat.reduceMul, Nat.reduceLT, Nat.reduceLeDiff, Nat.reduceEqDiff, Nat.reduceBEq, Int.reduceToNat, Int.reduceNeg, Nat.zero_add, Nat.add_zero, Nat.sub_self, Nat.sub_zero, Nat.zero_mul, Nat.mul_one, Nat.zero_le, if_true, if_false, reduceIte, stays, inL, same1, qn, ldN, convN, lenN, List.mem_cons, List.not_mem_nil, Option.map_some, Option.map_none, cond_true, cond_false, Sx.imp_true, Sx.imp_false, implies_true, Int.reduceEq, Int.reduceNe, Int.reduceLE, Int.reduceLT, decide_true, decide_false, List.zipIdx_cons, List.zipIdx_nil, or_false, false_or, forall_eq_or_imp, forall_eq, ne_eq, reduceCtorEq, not_false_eq_true, Bool.false_eq_true, Bool.true_eq_false, Bool.not_true, Bool.not_false, notInt, numB, tabB, Array.reduceGetElem?, upG, up, nth, lay, rcB, rnm, rnmL, wrB, pcB, res29]
  refine c76 n q hnq hq A _ ?_
  simp -implicitDefEqProofs (maxSteps := 1000000) (disch := omega) only [↓vcB, ↓gd, ↓opP, ↓qv, ↓ef, ↓bslS, ↓stS, ↓mkS, ↓rangeS, ↓nextS, ↓entryS, ↓delS, ↓mupS, ↓appS, ↓s2bS, ↓resS, evB, Sx.look, slot, ↓lkL, putS, putO, argsL, ↓reduceIte, ofV, of1, lookH, putH, List.length_cons, List.length_nil, List.length_append, List.replicate, List.append, List.cons_append, List.nil_append, List.append_assoc, List.map_cons, List.map_nil, convS, fldA, nthT, idxA, idxS, fldS, oslN, bnd, slS, unS, valI, lenS, lookS, takeC, psB, asRow, csB, Int.toNat_natCast, Int.le_refl, and_self, rdF, Ent.row, ldS, sz, szL, wrF, bldF, plT, bldS, srcS, nilS, nilEq, mapC, binH, binS2, structS, eqL, eqF, binS, arrS, isI, tupS, stor, storL, Value.oneCell', minS, maxS, capS, true_and, and_true, Nat.reduceAdd, Nat.reduceSub, Nat.reduceMul, Nat.reduceLT, Nat.reduceLeDiff, Nat.reduceEqDiff, Nat.reduceBEq, Int.reduceToNat, Int.reduceNeg, Nat.zero_add, Nat.add_zero, Nat.sub_self, Nat.sub_zero, Nat.zero_mul, Nat.mul_one, Nat.zero_le, if_true, if_false, reduceIte, stays, inL, same1, qn, ldN, convN, lenN, List.mem_cons, List.not_mem_nil, Option.map_some, Option.map_none, cond_true, cond_false, Sx.imp_true, Sx.imp_false, implies_true, Int.reduceEq, Int.reduceNe, Int.reduceLE, Int.reduceLT, decide_true, decide_false, List.zipIdx_cons, List.zipIdx_nil, or_false, false_or, forall_eq_or_imp, forall_eq, ne_eq, reduceCtorEq, not_false_eq_true, Bool.false_eq_true, Bool.true_eq_false, Bool.not_true, Bool.not_false, notInt, numB, tabB, Array.reduceGetElem?, upG, up, nth, lay, rcB, rnm, rnmL, wrB, pcB, res29]
  refine c75 _ 1 n _ ?_
  simp -implicitDefEqProofs (maxSteps := 1000000) (disch := omega) only [↓vcB, ↓gd, ↓opP, ↓qv, ↓ef, ↓bslS, ↓stS, ↓mkS, ↓rangeS, ↓nextS, ↓entryS, ↓delS, ↓mupS, ↓appS, ↓s2bS, ↓resS, evB, Sx.look, slot, ↓lkL, putS, putO, argsL, ↓reduceIte, ofV, of1, lookH, putH, List.length_cons, List.length_nil, List.length_append, List.replicate, List.append, List.cons_append, List.nil_append, List.append_assoc, List.map_cons, List.map_nil, convS, fldA, nthT, idxA, idxS, fldS, oslN, bnd, slS, unS, valI, lenS, lookS, takeC, psB, asRow, csB, Int.toNat_natCast, Int.le_refl, and_self, rdF, Ent.row, ldS, sz, szL, wrF, bldF, plT, bldS, srcS, nilS, nilEq, mapC, binH, binS2, structS, eqL, eqF, binS, arrS, isI, tupS, stor, storL, Value.oneCell', minS, maxS, capS, true_and, and_true, Nat.reduceAdd, Nat.reduceSub, Nat.reduceMul, Nat.reduceLT, Nat.reduceLeDiff, Nat.reduceEqDiff, Nat.reduceBEq, Int.reduceToNat, Int.reduceNeg, Nat.zero_add, Nat.add_zero, Nat.sub_self, Nat.sub_zero, Nat.zero_mul, Nat.mul_one, Nat.zero_le, if_true, if_false, reduceIte, stays, inL, same1, qn, ldN, convN, lenN, List.mem_cons, List.not_mem_nil, Option.map_some, Option.map_none, cond_true, cond_false, Sx.imp_true, Sx.imp_false, implies_true, Int.reduceEq, Int.reduceNe, Int.reduceLE, Int.reduceLT, decide_true, decide_false, List.zipIdx_cons, List.zipIdx_nil, or_false, false_or, forall_eq_or_imp, forall_eq, ne_eq, reduceCtorEq, not_false_eq_true, Bool.false_eq_true, Bool.true_eq_false, Bool.not_true, Bool.not_false, notInt, numB, tabB, Array.reduceGetElem?, upG, up, nth, lay, rcB, rnm, rnmL, wrB, pcB, res29]
  exact intoR_refl (by simp) hK
theorem c29 (h : List Chunk) (k n q : Nat) (wr : Bool) (hnq : n ≤ q) (hq : n ≤ 1000) (A : Nat → Int) (hk : lookH h k = .row wr q 1 fun i => .int .i64 (A i)) (hkl : k < h.length) (K : Tok → SV → List Chunk → Prop)
    (hK : K .mk (.fn (.func 100) [] [.ptr (h.length + 1) 0]) (h ++ [.row true n 1 fun i => .int .i64 (A i), .cells true [.osl h.length 0 0 1 n]])) : callP Try.prog 29 [.osl k 0 0 1 n] h K := by
  refine callP_frame (argsL := [.osl 0 0 0 1 n]) (KL := fun _ v h' => v = .fn (.func 100) [] [.ptr 2 0] ∧ h' = [.row false q 1 fun i => .int .i64 (A i), .row true n 1 fun i => .int .i64 (A i), .cells true [.osl 1 0 0 1 n]]) [k] (c29k n q hnq hq A _ ⟨rfl, rfl⟩) ?_ ?_ ?_ ?_ ?_ ?_
  · simp
  · exact ⟨hkl, by rw [hk]; simp [slot, lkL, fixed, rg, renH, chEq, lookH, eqvL, eqv, eqvF, rnmL, rnm, liveN, Chunk.live, goodH, Chunk.good, okL, ok, sz, szL, storL, stor, renT, okT], trivial⟩
  · simp [slot, lkL, fixed, rg, renH, chEq, lookH, eqvL, eqv, eqvF, rnmL, rnm, liveN, Chunk.live, goodH, Chunk.good, okL, ok, sz, szL, storL, stor, renT, okT]
  · simp [slot, lkL, fixed, rg, renH, chEq, lookH, eqvL, eqv, eqvF, rnmL, rnm, liveN, Chunk.live, goodH, Chunk.good, okL, ok, sz, szL, storL, stor, renT, okT]
  · simp [rnmL, rnm, upG, up, nth]
  · rintro v h' ⟨rfl, rfl⟩
    refine ⟨?_, ?_, ?_⟩
    · simp [roOk, Chunk.wr]
    · simp [keepsLive, Chunk.live]
    · have e1 : rnm (upG [k] h.length) (.fn (.func 100) [] [.ptr 2 0]) = .fn (.func 100) [] [.ptr (h.length + 1) 0] := by simp [rnm, rnmL, upG, up, nth]
      have e2 : lay (upG [k] h.length) [k] [.row false q 1 fun i => .int .i64 (A i)] [.row false q 1 fun i => .int .i64 (A i), .row true n 1 fun i => .int .i64 (A i), .cells true [.osl 1 0 0 1 n]] h = h ++ [.row true n 1 fun i => .int .i64 (A i), .cells true [.osl h.length 0 0 1 n]] := by
        simp [lay, Chunk.wr, rnmC, rnm, rnmL, upG, up, nth]
      rw [e1, e2]
      exact hK
theorem c39 (x : Int) (h : List Chunk) (K : Tok → SV → List Chunk → Prop) (hK : K .mk (.int .i64 (IntKind.i64.wrap (2 * x))) h) : callP Try.prog 39 [.int .i64 x] h K := by
  refine callP_of_code tabOk Try.func39 (by kernel_rfl) rfl (Nat.le_of_ble_eq_true rfl) (codeP_of_vc (pl := pl39) tabOk follows_mixed (by kernel_rfl) ?_)
  rw [Try.ntmps39]
  simp -implicitDefEqProofs (maxSteps := 1000000) (disch := omega) only [↓vcB, ↓gd, ↓opP, ↓qv, ↓ef, ↓bslS, ↓stS, ↓mkS, ↓rangeS, ↓nextS, ↓entryS, ↓delS, ↓mupS, ↓appS, ↓s2bS, ↓resS, evB, Sx.look, slot, ↓lkL, putS, putO, argsL, ↓reduceIte, ofV, of1, lookH, putH, List.length_cons, List.length_nil, List.length_append, List.replicate, List.append, List.cons_append, List.nil_append, List.append_assoc, List.map_cons, List.map_nil, convS, fldA, nthT, idxA, idxS, fldS, oslN, bnd, slS, unS, valI, lenS, lookS, takeC, psB, asRow, csB, Int.toNat_natCast, Int.le_refl, and_self, rdF, Ent.row, ldS, sz, szL, wrF, bldF, plT, bldS, srcS, nilS, nilEq, mapC, binH, binS2, structS, eqL, eqF, binS, arrS, isI, tupS, stor, storL, Value.oneCell', minS, maxS, capS, true_and, and_true, Nat.reduceAdd, Nat.reduceSub, Nat.reduceMul, Nat.reduceLT, Nat.reduceLeDiff, Nat.reduceEqDiff, Nat.reduceBEq, Int.reduceToNat, Int.reduceNeg, Nat.zero_add, Nat.add_zero, Nat.sub_self, Nat.sub_zero, Nat.zero_mul, Nat.mul_one, Nat.zero_le, if_true, if_false, reduceIte, stays, inL, same1, qn, ldN, convN, lenN, List.mem_cons, List.not_mem_nil, Option.map_some, Option.map_none, cond_true, cond_false, Sx.imp_true, Sx.imp_false, implies_true, Int.reduceEq, Int.reduceNe, Int.reduceLE, Int.reduceLT, decide_true, decide_false, List.zipIdx_cons, List.zipIdx_nil, or_false, false_or, forall_eq_or_imp, forall_eq, ne_eq, reduceCtorEq, not_false_eq_true, Bool.false_eq_true, Bool.true_eq_false, Bool.not_true, Bool.not_false, notInt, numB, tabB, Array.reduceGetElem?, upG, up, nth, lay, rcB, rnm, rnmL, wrB, pcB, res39]
  exact intoR_refl (Nat.le_refl _) hK

/-- A plain function of one number, as a value. -/
theorem funS_plain {P : Pr} (hP : P.p = Try.prog) {g : FuncId} {fn : Func} {c : Code} {fx : List SV → Option SV} (hf : Try.prog.funcs[g]? = some fn) (hname : (fn.name == "runtime.NumGoroutine") = false) (hb : fn.body = some c)
    (hc : ∀ args r, fx args = some r → okL 0 args ∧ ok 0 r ∧ callP Try.prog g args [] fun _ v _ => v = r) (qs : List Nat) (h : List Chunk) : FunS P qs h (.fn (.func g) [] []) fx := by
  intro ρ w X hk hH
  refine ⟨g, [], fun _ => False, rfl, fun b hb => hb.elim, fun args r har => ?_, fun b hb => hb.elim⟩
  obtain ⟨h1, h2, h3⟩ := hc args r har
  refine ⟨h2, fun ρ' => ?_⟩
  rw [hP]
  exact pure_of_callP (p := Try.prog) hf hname hb (caps := []) (h0 := []) trivial (by simp) (by simpa using h1) h2 (by simpa using h3) (ρ := ρ') (fun b hb => hb.elim) (by simp)
theorem fxI_inv {φ : Int → Int} {args : List SV} {r : SV} (h : fxI φ args = some r) : ∃ x, args = [.int .i64 x] ∧ r = .int .i64 (φ x) := by
  unfold fxI at h
  split at h <;> cases h
  exact ⟨_, rfl, rfl⟩
theorem funS39 {P : Pr} (hP : P.p = Try.prog) (qs : List Nat) (h : List Chunk) : FunS P qs h (.fn (.func 39) [] []) (fxI fun x => IntKind.i64.wrap (2 * x)) :=
  funS_plain hP Try.func39 (by kernel_rfl) rfl (fun args r har => by obtain ⟨x, rfl, rfl⟩ := fxI_inv har; exact ⟨⟨trivial, trivial⟩, trivial, c39 x [] _ rfl⟩) qs h
def awakeL : List Int := (((((List.range (9 : Int).toNat).map fun i : Nat => (i : Int)).map fun x => IntKind.i64.wrap (2 * x)).take (3 : Int).toNat).take (9 : Int).toNat)
theorem awakeL_eq : awakeL = [0, 2, 4] := by decide +kernel
theorem c31k (K : Tok → SV → List Chunk → Prop) (hK : K .mk (.bool true) []) : callP Try.prog 31 [] [] K := by
  refine callP_of_code tabOk Try.func31 (by kernel_rfl) rfl (Nat.le_of_ble_eq_true rfl) (codeP_of_vc (pl := pl31) tabOk follows_mixed (by kernel_rfl) ?_)
  rw [Try.ntmps31]
  simp -implicitDefEqProofs (maxSteps := 1000000) (disch := omega) only [↓vcB, ↓gd, ↓opP, ↓qv, ↓ef, ↓bslS, ↓stS, ↓mkS, ↓rangeS, ↓nextS, ↓entryS, ↓delS, ↓mupS, ↓appS, ↓s2bS, ↓resS, evB, Sx.look, slot, ↓lkL, putS, putO, argsL, ↓reduceIte, ofV, of1, lookH, putH, List.length_cons, List.length_nil, List.length_append, List.replicate, List.append, List.cons_append, List.nil_append, List.append_assoc, List.map_cons, List.map_nil, convS, fldA, nthT, idxA, idxS, fldS, oslN, bnd, slS, unS, valI, lenS, lookS, takeC, psB, asRow, csB, Int.toNat_natCast, Int.le_refl, and_self, rdF, Ent.row, ldS, sz, szL, wrF, bldF, plT, bldS, srcS, nilS, nilEq, mapC, binH, binS2, structS, eqL, eqF, binS, arrS, isI, tupS, stor, storL, Value.oneCell', minS, maxS, capS, true_and, and_true, Nat.reduceAdd, Nat.reduceSub, Nat.reduceMul, Nat.reduceLT, Nat.reduceLeDiff, Nat.reduceEqDiff, Nat.reduceBEq, Int.reduceToNat, Int.reduceNeg, Nat.zero_add, Nat.add_zero, Nat.sub_self, Nat.sub_zero, Nat.zero_mul, Nat.mul_one, Nat.zero_le, if_true, if_false, reduceIte, stays, inL, same1, qn, ldN, convN, lenN, List.mem_cons, List.not_mem_nil, Option.map_some, Option.map_none, cond_true, cond_false, Sx.imp_true, Sx.imp_false, implies_true, Int.reduceEq, Int.reduceNe, Int.reduceLE, Int.reduceLT, decide_true, decide_false, List.zipIdx_cons, List.zipIdx_nil, or_false, false_or, forall_eq_or_imp, forall_eq, ne_eq, reduceCtorEq, not_false_eq_true, Bool.false_eq_true, Bool.true_eq_false, Bool.not_true, Bool.not_false, notInt, numB, tabB, Array.reduceGetElem?, upG, up, nth, lay, rcB, rnm, rnmL, wrB, pcB, res31]
  refine c30 9 _ _ ?_
  simp -implicitDefEqProofs (maxSteps := 1000000) (disch := omega) only [↓vcB, ↓gd, ↓opP, ↓qv, ↓ef, ↓bslS, ↓stS, ↓mkS, ↓rangeS, ↓nextS, ↓entryS, ↓delS, ↓mupS, ↓appS, ↓s2bS, ↓resS, evB, Sx.look, slot, ↓lkL, putS, putO, argsL, ↓reduceIte, ofV, of1, lookH, putH, List.length_cons, List.length_nil, List.length_append, List.replicate, List.append, List.cons_append, List.nil_append, List.append_assoc, List.map_cons, List.map_nil, convS, fldA, nthT, idxA, idxS, fldS, oslN, bnd, slS, unS, valI, lenS, lookS, takeC, psB, asRow, csB, Int.toNat_natCast, Int.le_refl, and_self, rdF, Ent.row, ldS, sz, szL, wrF, bldF, plT, bldS, srcS, nilS, nilEq, mapC, binH, binS2, structS, eqL, eqF, binS, arrS, isI, tupS, stor, storL, Value.oneCell', minS, maxS, capS, true_and, and_true, Nat.reduceAdd, Nat.reduceSub, Nat.reduceMul, Nat.reduceLT, Nat.reduceLeDiff, Nat.reduceEqDiff, Nat.reduceBEq, Int.reduceToNat, Int.reduceNeg, Nat.zero_add, Nat.add_zero, Nat.sub_self, Nat.sub_zero, Nat.zero_mul, Nat.mul_one, Nat.zero_le, if_true, if_false, reduceIte, stays, inL, same1, qn, ldN, convN, lenN, List.mem_cons, List.not_mem_nil, Option.map_some, Option.map_none, cond_true, cond_false, Sx.imp_true, Sx.imp_false, implies_true, Int.reduceEq, Int.reduceNe, Int.reduceLE, Int.reduceLT, decide_true, decide_false, List.zipIdx_cons, List.zipIdx_nil, or_false, false_or, forall_eq_or_imp, forall_eq, ne_eq, reduceCtorEq, not_false_eq_true, Bool.false_eq_true, Bool.true_eq_false, Bool.not_true, Bool.not_false, notInt, numB, tabB, Array.reduceGetElem?, upG, up, nth, lay, rcB, rnm, rnmL, wrB, pcB, res31]
  refine c35f _ _ _ _ _ _ ?_
  simp -implicitDefEqProofs (maxSteps := 1000000) (disch := omega) only [↓vcB, ↓gd, ↓opP, ↓qv, ↓ef, ↓bslS, ↓stS, ↓mkS, ↓rangeS, ↓nextS, ↓entryS, ↓delS, ↓mupS, ↓appS, ↓s2bS, ↓resS, evB, Sx.look, slot, ↓lkL, putS, putO, argsL, ↓reduceIte, ofV, of1, lookH, putH, List.length_cons, List.length_nil, List.length_append, List.replicate, List.append, List.cons_append, List.nil_append, List.append_assoc, List.map_cons, List.map_nil, convS, fldA, nthT, idxA, idxS, fldS, oslN, bnd, slS, unS, valI, lenS, lookS, takeC, psB, asRow, csB, Int.toNat_natCast, Int.le_refl, and_self, rdF, Ent.row, ldS, sz, szL, wrF, bldF, plT, bldS, srcS, nilS, nilEq, mapC, binH, binS2, structS, eqL, eqF, binS, arrS, isI, tupS, stor, storL, Value.oneCell', minS, maxS, capS, true_and, and_true, Nat.reduceAdd, Nat.reduceSub, Nat.reduceMul, Nat.reduceLT, Nat.reduceLeDiff, Nat.reduceEqDiff, Nat.reduceBEq, Int.reduceToNat, Int.reduceNeg, Nat.zero_add, Nat.add_zero, Nat.sub_self, Nat.sub_zero, Nat.zero_mul, Nat.mul_one, Nat.zero_le, if_true, if_false, reduceIte, stays, inL, same1, qn, ldN, convN, lenN, List.mem_cons, List.not_mem_nil, Option.map_some, Option.map_none, cond_true, cond_false, Sx.imp_true, Sx.imp_false, implies_true, Int.reduceEq, Int.reduceNe, Int.reduceLE, Int.reduceLT, decide_true, decide_false, List.zipIdx_cons, List.zipIdx_nil, or_false, false_or, forall_eq_or_imp, forall_eq, ne_eq, reduceCtorEq, not_false_eq_true, Bool.false_eq_true, Bool.true_eq_false, Bool.not_true, Bool.not_false, notInt, numB, tabB, Array.reduceGetElem?, upG, up, nth, lay, rcB, rnm, rnmL, wrB, pcB, res31]
  refine c41f _ _ _ _ _ ?_
  simp -implicitDefEqProofs (maxSteps := 1000000) (disch := omega) only [↓vcB, ↓gd, ↓opP, ↓qv, ↓ef, ↓bslS, ↓stS, ↓mkS, ↓rangeS, ↓nextS, ↓entryS, ↓delS, ↓mupS, ↓appS, ↓s2bS, ↓resS, evB, Sx.look, slot, ↓lkL, putS, putO, argsL, ↓reduceIte, ofV, of1, lookH, putH, List.length_cons, List.length_nil, List.length_append, List.replicate, List.append, List.cons_append, List.nil_append, List.append_assoc, List.map_cons, List.map_nil, convS, fldA, nthT, idxA, idxS, fldS, oslN, bnd, slS, unS, valI, lenS, lookS, takeC, psB, asRow, csB, Int.toNat_natCast, Int.le_refl, and_self, rdF, Ent.row, ldS, sz, szL, wrF, bldF, plT, bldS, srcS, nilS, nilEq, mapC, binH, binS2, structS, eqL, eqF, binS, arrS, isI, tupS, stor, storL, Value.oneCell', minS, maxS, capS, true_and, and_true, Nat.reduceAdd, Nat.reduceSub, Nat.reduceMul, Nat.reduceLT, Nat.reduceLeDiff, Nat.reduceEqDiff, Nat.reduceBEq, Int.reduceToNat, Int.reduceNeg, Nat.zero_add, Nat.add_zero, Nat.sub_self, Nat.sub_zero, Nat.zero_mul, Nat.mul_one, Nat.zero_le, if_true, if_false, reduceIte, stays, inL, same1, qn, ldN, convN, lenN, List.mem_cons, List.not_mem_nil, Option.map_some, Option.map_none, cond_true, cond_false, Sx.imp_true, Sx.imp_false, implies_true, Int.reduceEq, Int.reduceNe, Int.reduceLE, Int.reduceLT, decide_true, decide_false, List.zipIdx_cons, List.zipIdx_nil, or_false, false_or, forall_eq_or_imp, forall_eq, ne_eq, reduceCtorEq, not_false_eq_true, Bool.false_eq_true, Bool.true_eq_false, Bool.not_true, Bool.not_false, notInt, numB, tabB, Array.reduceGetElem?, upG, up, nth, lay, rcB, rnm, rnmL, wrB, pcB, res31]
  have q1 := SeqL.count (P := Pr.of Try.prog) rfl (qs := [0, 1, 2, 3, 4]) (h := [.cells true [.int .i64 9], .cells true [.fn (.func 77) [] [.ptr 0 0]], .cells true [.fn (.func 39) [] []], .cells true [.fn (.func 78) [] [.ptr 2 0, .ptr 1 0]], .cells true [.int .i64 3]]) (k1 := 0) (a := 9) (by omega) rfl (by simp)
  have q2 := SeqL.map (P := Pr.of Try.prog) rfl q1 (funS39 rfl _ _) (k1 := 2) (k2 := 1) rfl rfl (by simp) (by simp)
  have q3 := SeqL.take (P := Pr.of Try.prog) rfl q2 (a := 3) ⟨by omega, by omega⟩ (k1 := 4) (k2 := 3) rfl rfl (by simp) (by simp)
  refine c28 (P := Pr.of Try.prog) rfl q3 9 ⟨by omega, by omega⟩ awakeL rfl (by rw [awakeL_eq]; decide) _ ?_
  rw [awakeL_eq]
  have z1 : (((3 : Nat) : Int) == 3) = true := rfl
  have z2 : (([0, 2, 4] : List Int).getD 2 0 == 4) = true := rfl
  simp -implicitDefEqProofs (maxSteps := 1000000) (disch := omega) only [↓vcB, ↓gd, ↓opP, ↓qv, ↓ef, ↓bslS, ↓stS, ↓mkS, ↓rangeS, ↓nextS, ↓entryS, ↓delS, ↓mupS, ↓appS, ↓s2bS, ↓resS, evB, Sx.look, slot, ↓lkL, putS, putO, argsL, ↓reduceIte, ofV, of1, lookH, putH, List.length_cons, List.length_nil, List.length_append, List.replicate, List.append, List.cons_append, List.nil_append, List.append_assoc, List.map_cons, List.map_nil, convS, fldA, nthT, idxA, idxS, fldS, oslN, bnd, slS, unS, valI, lenS, lookS, takeC, psB, asRow, csB, Int.toNat_natCast, Int.le_refl, and_self, rdF, Ent.row, ldS, sz, szL, wrF, bldF, plT, bldS, srcS, nilS, nilEq, mapC, binH, binS2, structS, eqL, eqF, binS, arrS, isI, tupS, stor, storL, Value.oneCell', minS, maxS, capS, true_and, and_true, Nat.reduceAdd, Nat.reduceSub, Nat.reduceMul, Nat.reduceLT, Nat.reduceLeDiff, Nat.reduceEqDiff, Nat.reduceBEq, Int.reduceToNat, Int.reduceNeg, Nat.zero_add, Nat.add_zero, Nat.sub_self, Nat.sub_zero, Nat.zero_mul, Nat.mul_one, Nat.zero_le, if_true, if_false, reduceIte, stays, inL, same1, qn, ldN, convN, lenN, List.mem_cons, List.not_mem_nil, Option.map_some, Option.map_none, cond_true, cond_false, Sx.imp_true, Sx.imp_false, implies_true, Int.reduceEq, Int.reduceNe, Int.reduceLE, Int.reduceLT, decide_true, decide_false, List.zipIdx_cons, List.zipIdx_nil, or_false, false_or, forall_eq_or_imp, forall_eq, ne_eq, reduceCtorEq, not_false_eq_true, Bool.false_eq_true, Bool.true_eq_false, Bool.not_true, Bool.not_false, notInt, numB, tabB, Array.reduceGetElem?, upG, up, nth, lay, rcB, rnm, rnmL, wrB, pcB, res31, z1, z2]
  exact ⟨by omega, intoR_take [] rfl rfl trivial trivial hK⟩
theorem c31 (h : List Chunk) (K : Tok → SV → List Chunk → Prop) (hK : K .mk (.bool true) h) : callP Try.prog 31 [] h K := by
  refine callP_frame (argsL := []) (KL := fun _ v h' => v = .bool true ∧ h' = []) [] (c31k _ ⟨rfl, rfl⟩) (by simp) trivial trivial trivial rfl ?_
  rintro v h' ⟨rfl, rfl⟩
  refine ⟨by simp [roOk], by simp [keepsLive], ?_⟩
  have e2 : lay (upG [] h.length) [] [] [] h = h := by simp [lay]
  rw [e2]
  exact hK
end Go.Proofs.Ytloinbebkhcndaa

set_option linter.all false
set_option maxRecDepth 40000
namespace Go.Proofs.Ytloinbebkhcndaa
open Go Go.Sx

end Go.Proofs.Ytloinbebkhcndaa

set_option linter.all false
set_option maxRecDepth 40000
namespace Go.Proofs.Ytloinbebkhcndaa
open Go Go.Sx
end Go.Proofs.Ytloinbebkhcndaa

set_option linter.all false
set_option maxRecDepth 40000
namespace Go.Proofs.Ytloinbebkhcndaa
open Go Go.Sx

end Go.Proofs.Ytloinbebkhcndaa

set_option linter.all false
set_option maxRecDepth 40000
namespace Go.Proofs.Ytloinbebkhcndaa
open Go Go.Sx
end Go.Proofs.Ytloinbebkhcndaa

set_option linter.all false
set_option maxRecDepth 40000
namespace Go.Proofs.Ytloinbebkhcndaa
open Go Go.Sx
section
variable {P : Pr} (hP : P.p = Try.prog) {qs : List Nat} {h : List Chunk} {k1 k2 : Nat} {w1 w2 : Bool} {a : Int}
include hP
end
end Go.Proofs.Ytloinbebkhcndaa

set_option linter.all false
set_option maxRecDepth 40000
namespace Go.Proofs.Ytloinbebkhcndaa
open Go Go.Sx
section
variable {P : Pr} (hP : P.p = Try.prog)
include hP
end
end Go.Proofs.Ytloinbebkhcndaa

set_option linter.all false
set_option maxRecDepth 40000
namespace Go.Proofs.Ytloinbebkhcndaa
open Go Go.Sx

@[reducible] def seqsPr (p : Program) (n : Nat) (Fv : Nat → Value) (m : Nat → Nat) (A : Nat → Nat → Int) : Pr :=
  ⟨p, fun w X => ∀ i, i < n → (Fv i = .nilFunc ∧ m i = 0) ∨ ∃ f lb, Fv i = .func (.func f) #[] ⟨lb⟩ ∧ seqK p f lb (m i) (fun k => .int .i64 (A i k)) w X, fun h hk hY i hi => (h i hi).imp id fun ⟨f, lb, e, h⟩ => ⟨f, lb, e, h.keep hk hY⟩⟩
end Go.Proofs.Ytloinbebkhcndaa

set_option linter.all false
set_option maxRecDepth 40000
namespace Go.Proofs.Ytloinbebkhcndaa
open Go Go.Sx

theorem SeqL.valsL {P : Pr} (hP : P.p = Try.prog) {qs : List Nat} {h : List Chunk} {k1 k2 : Nat} {w1 w2 : Bool} {L : List Int} (n : Nat) (hn : n ≤ 9223372036854775807) (A : Nat → Int) (hL : L = (List.range n).map A) (h1 : lookH h k1 = .cells w1 [.osl k2 0 0 1 n]) (h2 : lookH h k2 = .row w2 n 1 fun i => .int .i64 (A i)) (m1 : k1 ∈ qs) (m2 : k2 ∈ qs) : SeqL P qs h (.fn (.func 100) [] [.ptr k1 0]) L :=
  hL ▸ SeqL.vals hP n hn A h1 h2 m1 m2
end Go.Proofs.Ytloinbebkhcndaa

set_option linter.all false
set_option maxRecDepth 40000
namespace Go.Proofs.Ytloinbebkhcndaa
open Go Go.Sx

/-- A map's keys, as a list. -/
theorem mfindF_L {α : Type} [BEq α] {kt : TypeId} {sv : α → SV} {d : α} (hE : ∀ x y, ∃ p, keyE tab kt (sv x) (sv y) = some (p, x == y) ∧ p) (x : α) : ∀ (L pre : List α), mfindF tab kt (sv x) (fun i => sv ((pre ++ L).getD i d)) L.length pre.length = (L.findIdx? (x == ·)).map (· + pre.length)
  | [], pre => rfl
  | y :: L, pre => by
    have e0 : (pre ++ y :: L).getD pre.length d = y := by
      rw [List.getD_eq_getElem?_getD, List.getElem?_append_right (Nat.le_refl _), Nat.sub_self]
      rfl
    have ih := mfindF_L (d := d) hE x L (pre ++ [y])
    rw [List.append_assoc, List.length_append] at ih
    simp only [List.singleton_append, List.length_singleton] at ih
    obtain ⟨p, hp, _⟩ := hE x y
    simp only [List.length_cons, mfindF, e0, hp, List.findIdx?_cons]
    cases hxy : x == y with
    | true => simp
    | false =>
      simp only [Bool.false_eq_true, if_false]
      rw [ih]
      cases L.findIdx? (x == ·) <;> simp <;> omega
theorem mfind_L {α : Type} [BEq α] {kt : TypeId} {sv : α → SV} {d : α} (hE : ∀ x y, ∃ p, keyE tab kt (sv x) (sv y) = some (p, x == y) ∧ p) (x : α) (L : List α) : mfind tab kt (sv x) L.length (fun i => sv (L.getD i d)) = L.findIdx? (x == ·) := by
  have := mfindF_L (d := d) hE x L []
  simpa [mfind] using this
theorem keysS_L {α : Type} [BEq α] {kt : TypeId} {sv : α → SV} {d : α} (hE : ∀ x y, ∃ p, keyE tab kt (sv x) (sv y) = some (p, x == y) ∧ p) (x : α) (L : List α) : keysS tab kt (sv x) L.length (fun i => sv (L.getD i d)) := fun i _ => by
  obtain ⟨p, h1, h2⟩ := hE x (L.getD i d)
  exact ⟨p, _, h1, h2⟩
theorem find_none {α : Type} [BEq α] [LawfulBEq α] {x : α} {L : List α} : L.findIdx? (x == ·) = none ↔ x ∉ L := by
  rw [List.findIdx?_eq_none_iff]
  constructor
  · intro h hm
    have := h x hm
    simp at this
  · intro h y hy
    rw [beq_eq_false_iff_ne]
    rintro rfl
    exact h hy
theorem find_some {α : Type} [BEq α] [LawfulBEq α] {x : α} {L : List α} {i : Nat} (h : L.findIdx? (x == ·) = some i) : ∃ hi : i < L.length, L[i] = x := by
  obtain ⟨hi, h1, _⟩ := List.findIdx?_eq_some_iff_getElem.1 h
  exact ⟨hi, (eq_of_beq h1).symm⟩
theorem keyI (x y : Int) : ∃ p, keyE tab 3 (.int .i64 x) (.int .i64 y) = some (p, x == y) ∧ p := ⟨_, rfl, rfl⟩
theorem one1 : ((1 : Int) == 1) = true := rfl
theorem zero1 : ((0 : Int) == 1) = false := rfl

theorem res53 : Try.f53.results.toList = [.tmp 4] := rfl
theorem res51 : Try.f51.results.toList = [.tmp 4] := rfl
theorem res54 : Try.f54.results.toList = [.tmp 2] := rfl
def pl53 : Nat → Plan := fun _ => .nil

def pl51 : Nat → Plan := fun _ => .nil

/-- Has, of a set that is not empty ever. -/
theorem c53 (x : Int) (L : List Int) (h : List Chunk) (p m : Nat) (w : Bool) (born : Nat → Nat) (clock : Nat) (hp : lookH h p = .cells w [.mp m]) (hm : lookH h m = .map L.length (fun i => .int .i64 (L.getD i default)) (fun _ => .int .i64 1) born clock) (b : Bool) (hb : b = decide (x ∈ L)) (K : Tok → SV → List Chunk → Prop) (hK : K .mk (.bool b) h) :
    callP Try.prog 53 [.ptr p 0, .int .i64 x] h K := by
  have hks := keysS_L (d := default) keyI x L
  have hf := mfind_L (d := default) keyI x L
  have hkk : keyS tab 3 (.int .i64 x) := trivial
  refine callP_of_code tabOk Try.func53 (by kernel_rfl) rfl (Nat.le_of_ble_eq_true rfl) (codeP_of_vc (pl := pl53) tabOk follows_mixed (by kernel_rfl) ?_)
  rw [Try.ntmps53]
  cases hq : L.findIdx? (x == ·) with
  | none =>
    have hbf : b = false := by rw [hb, decide_eq_false]; exact find_none.1 hq
    rw [hq] at hf
    rw [hbf] at hK
    simp -implicitDefEqProofs (maxSteps := 1000000) (disch := omega) only [↓vcB, ↓gd, ↓opP, ↓qv, ↓ef, ↓bslS, ↓stS, ↓mkS, ↓rangeS, ↓nextS, ↓entryS, ↓delS, ↓mupS, ↓appS, ↓s2bS, ↓resS, evB, Sx.look, slot, ↓lkL, putS, putO, argsL, ↓reduceIte, ofV, of1, lookH, putH, List.length_cons, List.length_nil, List.length_append, List.replicate, List.append, List.cons_append, List.nil_append, List.append_assoc, List.map_cons, List.map_nil, convS, fldA, nthT, idxA, idxS, fldS, oslN, bnd, slS, unS, valI, lenS, lookS, takeC, psB, asRow, csB, Int.toNat_natCast, Int.le_refl, and_self, rdF, Ent.row, ldS, sz, szL, wrF, bldF, plT, bldS, srcS, nilS, nilEq, mapC, binH, binS2, structS, eqL, eqF, binS, arrS, isI, tupS, stor, storL, Value.oneCell', minS, maxS, capS, true_and, and_true, Nat.reduceAdd, Nat.reduceSub, Nat.reduceMul, Nat.reduceLT, Nat.reduceLeDiff, Nat.reduceEqDiff, Nat.reduceBEq, Int.reduceToNat, Int.reduceNeg, Nat.zero_add, Nat.add_zero, Nat.sub_self, Nat.sub_zero, Nat.zero_mul, Nat.mul_one, Nat.zero_le, if_true, if_false, reduceIte, stays, inL, same1, qn, ldN, convN, lenN, List.mem_cons, List.not_mem_nil, Option.map_some, Option.map_none, cond_true, cond_false, Sx.imp_true, Sx.imp_false, implies_true, Int.reduceEq, Int.reduceNe, Int.reduceLE, Int.reduceLT, decide_true, decide_false, List.zipIdx_cons, List.zipIdx_nil, or_false, false_or, forall_eq_or_imp, forall_eq, ne_eq, reduceCtorEq, not_false_eq_true, Bool.false_eq_true, Bool.true_eq_false, Bool.not_true, Bool.not_false, notInt, numB, tabB, Array.reduceGetElem?, upG, up, nth, lay, rcB, rnm, rnmL, wrB, pcB, Option.isNone, res53, pl53, hp, hm, hf, hks, hkk, zero1]
    exact intoR_refl (Nat.le_refl _) hK
  | some i =>
    obtain ⟨hi, he⟩ := find_some hq
    have hbf : b = true := by rw [hb, decide_eq_true]; rw [← he]; exact List.getElem_mem hi
    rw [hq] at hf
    rw [hbf] at hK
    simp -implicitDefEqProofs (maxSteps := 1000000) (disch := omega) only [↓vcB, ↓gd, ↓opP, ↓qv, ↓ef, ↓bslS, ↓stS, ↓mkS, ↓rangeS, ↓nextS, ↓entryS, ↓delS, ↓mupS, ↓appS, ↓s2bS, ↓resS, evB, Sx.look, slot, ↓lkL, putS, putO, argsL, ↓reduceIte, ofV, of1, lookH, putH, List.length_cons, List.length_nil, List.length_append, List.replicate, List.append, List.cons_append, List.nil_append, List.append_assoc, List.map_cons, List.map_nil, convS, fldA, nthT, idxA, idxS, fldS, oslN, bnd, slS, unS, valI, lenS, lookS, takeC, psB, asRow, csB, Int.toNat_natCast, Int.le_refl, and_self, rdF, Ent.row, ldS, sz, szL, wrF, bldF, plT, bldS, srcS, nilS, nilEq, mapC, binH, binS2, structS, eqL, eqF, binS, arrS, isI, tupS, stor, storL, Value.oneCell', minS, maxS, capS, true_and, and_true, Nat.reduceAdd, Nat.reduceSub, Nat.reduceMul, Nat.reduceLT, Nat.reduceLeDiff, Nat.reduceEqDiff, Nat.reduceBEq, Int.reduceToNat, Int.reduceNeg, Nat.zero_add, Nat.add_zero, Nat.sub_self, Nat.sub_zero, Nat.zero_mul, Nat.mul_one, Nat.zero_le, if_true, if_false, reduceIte, stays, inL, same1, qn, ldN, convN, lenN, List.mem_cons, List.not_mem_nil, Option.map_some, Option.map_none, cond_true, cond_false, Sx.imp_true, Sx.imp_false, implies_true, Int.reduceEq, Int.reduceNe, Int.reduceLE, Int.reduceLT, decide_true, decide_false, List.zipIdx_cons, List.zipIdx_nil, or_false, false_or, forall_eq_or_imp, forall_eq, ne_eq, reduceCtorEq, not_false_eq_true, Bool.false_eq_true, Bool.true_eq_false, Bool.not_true, Bool.not_false, notInt, numB, tabB, Array.reduceGetElem?, upG, up, nth, lay, rcB, rnm, rnmL, wrB, pcB, Option.isNone, res53, pl53, hp, hm, hf, hks, hkk, one1]
    exact intoR_refl (Nat.le_refl _) hK
theorem c53n (x : Int) (h : List Chunk) (p : Nat) (w : Bool) (hp : lookH h p = .cells w [.v (.map none)]) (K : Tok → SV → List Chunk → Prop) (hK : K .mk (.bool false) h) : callP Try.prog 53 [.ptr p 0, .int .i64 x] h K := by
  have hkk : keyS tab 3 (.int .i64 x) := trivial
  refine callP_of_code tabOk Try.func53 (by kernel_rfl) rfl (Nat.le_of_ble_eq_true rfl) (codeP_of_vc (pl := pl53) tabOk follows_mixed (by kernel_rfl) ?_)
  rw [Try.ntmps53]
  simp -implicitDefEqProofs (maxSteps := 1000000) (disch := omega) only [↓vcB, ↓gd, ↓opP, ↓qv, ↓ef, ↓bslS, ↓stS, ↓mkS, ↓rangeS, ↓nextS, ↓entryS, ↓delS, ↓mupS, ↓appS, ↓s2bS, ↓resS, evB, Sx.look, slot, ↓lkL, putS, putO, argsL, ↓reduceIte, ofV, of1, lookH, putH, List.length_cons, List.length_nil, List.length_append, List.replicate, List.append, List.cons_append, List.nil_append, List.append_assoc, List.map_cons, List.map_nil, convS, fldA, nthT, idxA, idxS, fldS, oslN, bnd, slS, unS, valI, lenS, lookS, takeC, psB, asRow, csB, Int.toNat_natCast, Int.le_refl, and_self, rdF, Ent.row, ldS, sz, szL, wrF, bldF, plT, bldS, srcS, nilS, nilEq, mapC, binH, binS2, structS, eqL, eqF, binS, arrS, isI, tupS, stor, storL, Value.oneCell', minS, maxS, capS, true_and, and_true, Nat.reduceAdd, Nat.reduceSub, Nat.reduceMul, Nat.reduceLT, Nat.reduceLeDiff, Nat.reduceEqDiff, Nat.reduceBEq, Int.reduceToNat, Int.reduceNeg, Nat.zero_add, Nat.add_zero, Nat.sub_self, Nat.sub_zero, Nat.zero_mul, Nat.mul_one, Nat.zero_le, if_true, if_false, reduceIte, stays, inL, same1, qn, ldN, convN, lenN, List.mem_cons, List.not_mem_nil, Option.map_some, Option.map_none, cond_true, cond_false, Sx.imp_true, Sx.imp_false, implies_true, Int.reduceEq, Int.reduceNe, Int.reduceLE, Int.reduceLT, decide_true, decide_false, List.zipIdx_cons, List.zipIdx_nil, or_false, false_or, forall_eq_or_imp, forall_eq, ne_eq, reduceCtorEq, not_false_eq_true, Bool.false_eq_true, Bool.true_eq_false, Bool.not_true, Bool.not_false, notInt, numB, tabB, Array.reduceGetElem?, upG, up, nth, lay, rcB, rnm, rnmL, wrB, pcB, Option.isNone, res53, pl53, hp, hkk, zero1]
  exact intoR_refl (Nat.le_refl _) hK
/-- Add, of what is in it. -/
theorem c51p (x : Int) (L : List Int) (h : List Chunk) (p m : Nat) (w : Bool) (born : Nat → Nat) (clock : Nat) (hp : lookH h p = .cells w [.mp m]) (hm : lookH h m = .map L.length (fun i => .int .i64 (L.getD i default)) (fun _ => .int .i64 1) born clock) (hx : x ∈ L) (K : Tok → SV → List Chunk → Prop) (hK : K .mk (.bool false) h) :
    callP Try.prog 51 [.ptr p 0, .int .i64 x] h K := by
  refine callP_of_code tabOk Try.func51 (by kernel_rfl) rfl (Nat.le_of_ble_eq_true rfl) (codeP_of_vc (pl := pl51) tabOk follows_mixed (by kernel_rfl) ?_)
  rw [Try.ntmps51]
  simp -implicitDefEqProofs (maxSteps := 1000000) (disch := omega) only [↓vcB, ↓gd, ↓opP, ↓qv, ↓ef, ↓bslS, ↓stS, ↓mkS, ↓rangeS, ↓nextS, ↓entryS, ↓delS, ↓mupS, ↓appS, ↓s2bS, ↓resS, evB, Sx.look, slot, ↓lkL, putS, putO, argsL, ↓reduceIte, ofV, of1, lookH, putH, List.length_cons, List.length_nil, List.length_append, List.replicate, List.append, List.cons_append, List.nil_append, List.append_assoc, List.map_cons, List.map_nil, convS, fldA, nthT, idxA, idxS, fldS, oslN, bnd, slS, unS, valI, lenS, lookS, takeC, psB, asRow, csB, Int.toNat_natCast, Int.le_refl, and_self, rdF, Ent.row, ldS, sz, szL, wrF, bldF, plT, bldS, srcS, nilS, nilEq, mapC, binH, binS2, structS, eqL, eqF, binS, arrS, isI, tupS, stor, storL, Value.oneCell', minS, maxS, capS, true_and, and_true, Nat.reduceAdd, Nat.reduceSub, Nat.reduceMul, Nat.reduceLT, Nat.reduceLeDiff, Nat.reduceEqDiff, Nat.reduceBEq, Int.reduceToNat, Int.reduceNeg, Nat.zero_add, Nat.add_zero, Nat.sub_self, Nat.sub_zero, Nat.zero_mul, Nat.mul_one, Nat.zero_le, if_true, if_false, reduceIte, stays, inL, same1, qn, ldN, convN, lenN, List.mem_cons, List.not_mem_nil, Option.map_some, Option.map_none, cond_true, cond_false, Sx.imp_true, Sx.imp_false, implies_true, Int.reduceEq, Int.reduceNe, Int.reduceLE, Int.reduceLT, decide_true, decide_false, List.zipIdx_cons, List.zipIdx_nil, or_false, false_or, forall_eq_or_imp, forall_eq, ne_eq, reduceCtorEq, not_false_eq_true, Bool.false_eq_true, Bool.true_eq_false, Bool.not_true, Bool.not_false, notInt, numB, tabB, Array.reduceGetElem?, upG, up, nth, lay, rcB, rnm, rnmL, wrB, pcB, Option.isNone, res51, pl51]
  refine c53 x L _ p m w born clock hp hm true (decide_eq_true hx).symm _ ?_
  simp -implicitDefEqProofs (maxSteps := 1000000) (disch := omega) only [↓vcB, ↓gd, ↓opP, ↓qv, ↓ef, ↓bslS, ↓stS, ↓mkS, ↓rangeS, ↓nextS, ↓entryS, ↓delS, ↓mupS, ↓appS, ↓s2bS, ↓resS, evB, Sx.look, slot, ↓lkL, putS, putO, argsL, ↓reduceIte, ofV, of1, lookH, putH, List.length_cons, List.length_nil, List.length_append, List.replicate, List.append, List.cons_append, List.nil_append, List.append_assoc, List.map_cons, List.map_nil, convS, fldA, nthT, idxA, idxS, fldS, oslN, bnd, slS, unS, valI, lenS, lookS, takeC, psB, asRow, csB, Int.toNat_natCast, Int.le_refl, and_self, rdF, Ent.row, ldS, sz, szL, wrF, bldF, plT, bldS, srcS, nilS, nilEq, mapC, binH, binS2, structS, eqL, eqF, binS, arrS, isI, tupS, stor, storL, Value.oneCell', minS, maxS, capS, true_and, and_true, Nat.reduceAdd, Nat.reduceSub, Nat.reduceMul, Nat.reduceLT, Nat.reduceLeDiff, Nat.reduceEqDiff, Nat.reduceBEq, Int.reduceToNat, Int.reduceNeg, Nat.zero_add, Nat.add_zero, Nat.sub_self, Nat.sub_zero, Nat.zero_mul, Nat.mul_one, Nat.zero_le, if_true, if_false, reduceIte, stays, inL, same1, qn, ldN, convN, lenN, List.mem_cons, List.not_mem_nil, Option.map_some, Option.map_none, cond_true, cond_false, Sx.imp_true, Sx.imp_false, implies_true, Int.reduceEq, Int.reduceNe, Int.reduceLE, Int.reduceLT, decide_true, decide_false, List.zipIdx_cons, List.zipIdx_nil, or_false, false_or, forall_eq_or_imp, forall_eq, ne_eq, reduceCtorEq, not_false_eq_true, Bool.false_eq_true, Bool.true_eq_false, Bool.not_true, Bool.not_false, notInt, numB, tabB, Array.reduceGetElem?, upG, up, nth, lay, rcB, rnm, rnmL, wrB, pcB, Option.isNone, res51, pl51]
  exact intoR_refl (Nat.le_refl _) hK
/-- Add, of what is not. -/
theorem c51a (x : Int) (L : List Int) (h : List Chunk) (p m : Nat) (w : Bool) (born : Nat → Nat) (clock : Nat) (hp : lookH h p = .cells w [.mp m]) (hm : lookH h m = .map L.length (fun i => .int .i64 (L.getD i default)) (fun _ => .int .i64 1) born clock) (hx : x ∉ L) (K : Tok → SV → List Chunk → Prop)
    (hK : K .mk (.bool true) (putH h m (.map (L.length + 1) (fun j => if j < L.length then .int .i64 (L.getD j default) else .int .i64 x) (fun _ => .int .i64 1) (fun j => if j < L.length then born j else clock) (clock + 1)))) :
    callP Try.prog 51 [.ptr p 0, .int .i64 x] h K := by
  have hks := keysS_L (d := default) keyI x L
  have hf := mfind_L (d := default) keyI x L
  have hkk : keyS tab 3 (.int .i64 x) := trivial
  rw [find_none.2 hx] at hf
  refine callP_of_code tabOk Try.func51 (by kernel_rfl) rfl (Nat.le_of_ble_eq_true rfl) (codeP_of_vc (pl := pl51) tabOk follows_mixed (by kernel_rfl) ?_)
  rw [Try.ntmps51]
  simp -implicitDefEqProofs (maxSteps := 1000000) (disch := omega) only [↓vcB, ↓gd, ↓opP, ↓qv, ↓ef, ↓bslS, ↓stS, ↓mkS, ↓rangeS, ↓nextS, ↓entryS, ↓delS, ↓mupS, ↓appS, ↓s2bS, ↓resS, evB, Sx.look, slot, ↓lkL, putS, putO, argsL, ↓reduceIte, ofV, of1, lookH, putH, List.length_cons, List.length_nil, List.length_append, List.replicate, List.append, List.cons_append, List.nil_append, List.append_assoc, List.map_cons, List.map_nil, convS, fldA, nthT, idxA, idxS, fldS, oslN, bnd, slS, unS, valI, lenS, lookS, takeC, psB, asRow, csB, Int.toNat_natCast, Int.le_refl, and_self, rdF, Ent.row, ldS, sz, szL, wrF, bldF, plT, bldS, srcS, nilS, nilEq, mapC, binH, binS2, structS, eqL, eqF, binS, arrS, isI, tupS, stor, storL, Value.oneCell', minS, maxS, capS, true_and, and_true, Nat.reduceAdd, Nat.reduceSub, Nat.reduceMul, Nat.reduceLT, Nat.reduceLeDiff, Nat.reduceEqDiff, Nat.reduceBEq, Int.reduceToNat, Int.reduceNeg, Nat.zero_add, Nat.add_zero, Nat.sub_self, Nat.sub_zero, Nat.zero_mul, Nat.mul_one, Nat.zero_le, if_true, if_false, reduceIte, stays, inL, same1, qn, ldN, convN, lenN, List.mem_cons, List.not_mem_nil, Option.map_some, Option.map_none, cond_true, cond_false, Sx.imp_true, Sx.imp_false, implies_true, Int.reduceEq, Int.reduceNe, Int.reduceLE, Int.reduceLT, decide_true, decide_false, List.zipIdx_cons, List.zipIdx_nil, or_false, false_or, forall_eq_or_imp, forall_eq, ne_eq, reduceCtorEq, not_false_eq_true, Bool.false_eq_true, Bool.true_eq_false, Bool.not_true, Bool.not_false, notInt, numB, tabB, Array.reduceGetElem?, upG, up, nth, lay, rcB, rnm, rnmL, wrB, pcB, Option.isNone, res51, pl51]
  refine c53 x L _ p m w born clock hp hm false (decide_eq_false hx).symm _ ?_
  simp -implicitDefEqProofs (maxSteps := 1000000) (disch := omega) only [↓vcB, ↓gd, ↓opP, ↓qv, ↓ef, ↓bslS, ↓stS, ↓mkS, ↓rangeS, ↓nextS, ↓entryS, ↓delS, ↓mupS, ↓appS, ↓s2bS, ↓resS, evB, Sx.look, slot, ↓lkL, putS, putO, argsL, ↓reduceIte, ofV, of1, lookH, putH, List.length_cons, List.length_nil, List.length_append, List.replicate, List.append, List.cons_append, List.nil_append, List.append_assoc, List.map_cons, List.map_nil, convS, fldA, nthT, idxA, idxS, fldS, oslN, bnd, slS, unS, valI, lenS, lookS, takeC, psB, asRow, csB, Int.toNat_natCast, Int.le_refl, and_self, rdF, Ent.row, ldS, sz, szL, wrF, bldF, plT, bldS, srcS, nilS, nilEq, mapC, binH, binS2, structS, eqL, eqF, binS, arrS, isI, tupS, stor, storL, Value.oneCell', minS, maxS, capS, true_and, and_true, Nat.reduceAdd, Nat.reduceSub, Nat.reduceMul, Nat.reduceLT, Nat.reduceLeDiff, Nat.reduceEqDiff, Nat.reduceBEq, Int.reduceToNat, Int.reduceNeg, Nat.zero_add, Nat.add_zero, Nat.sub_self, Nat.sub_zero, Nat.zero_mul, Nat.mul_one, Nat.zero_le, if_true, if_false, reduceIte, stays, inL, same1, qn, ldN, convN, lenN, List.mem_cons, List.not_mem_nil, Option.map_some, Option.map_none, cond_true, cond_false, Sx.imp_true, Sx.imp_false, implies_true, Int.reduceEq, Int.reduceNe, Int.reduceLE, Int.reduceLT, decide_true, decide_false, List.zipIdx_cons, List.zipIdx_nil, or_false, false_or, forall_eq_or_imp, forall_eq, ne_eq, reduceCtorEq, not_false_eq_true, Bool.false_eq_true, Bool.true_eq_false, Bool.not_true, Bool.not_false, notInt, numB, tabB, Array.reduceGetElem?, upG, up, nth, lay, rcB, rnm, rnmL, wrB, pcB, Option.isNone, res51, pl51, hp, hm, hf, hks, hkk, ite_self]
  exact intoR_refl (by rw [putH_len]; exact Nat.le_refl _) hK
/-- Add, the first ever. -/
theorem c51n (x : Int) (h : List Chunk) (p : Nat) (hp : lookH h p = .cells true [.v (.map none)]) (K : Tok → SV → List Chunk → Prop)
    (hK : K .mk (.bool true) (putH h p (.cells true [.mp h.length]) ++ [.map 1 (fun _ => .int .i64 x) (fun _ => .int .i64 1) (fun _ => 0) 1])) :
    callP Try.prog 51 [.ptr p 0, .int .i64 x] h K := by
  have hks : keysS tab 3 (.int .i64 x) 0 (fun _ => .tup []) := fun i hi => absurd hi (Nat.not_lt_zero _)
  have hf : mfind tab 3 (.int .i64 x) 0 (fun _ => .tup []) = none := rfl
  have hkk : keyS tab 3 (.int .i64 x) := trivial
  have hpl := lookH_lt hp (by simp)
  have k1 : ∀ l, lookH (h ++ l) p = .cells true [.v (.map none)] := fun l => lookH_old l p _ hp (by simp)
  have k2 : ∀ l c, putH (h ++ l) p c = putH h p c ++ l := fun l c => putH_old l c hpl
  have k3 : ∀ l c, lookH (putH h p c ++ l) p = c ∨ c = .none := fun l c => (Classical.em (c = .none)).elim .inr fun hc => .inl (lookH_old l p c (lookH_put_same c hpl) hc)
  have k4 : ∀ l c, lookH (putH h p c ++ l) h.length = lookH l 0 := fun l c => by rw [← putH_length h p c]; exact lookH_app0 l _
  have k5 : ∀ l c c', putH (putH h p c ++ l) h.length c' = putH h p c ++ putH l 0 c' := fun l c c' => by rw [← putH_length h p c]; exact putH_app0 l c' _
  have k6 : ∀ l, lookH (putH h p (.cells true [.mp h.length]) ++ l) p = .cells true [.mp h.length] := fun l => (k3 l _).elim id fun h => by cases h
  have hmc : (Value.map none).cells.size = 1 := rfl
  refine callP_of_code tabOk Try.func51 (by kernel_rfl) rfl (Nat.le_of_ble_eq_true rfl) (codeP_of_vc (pl := pl51) tabOk follows_mixed (by kernel_rfl) ?_)
  rw [Try.ntmps51]
  simp -implicitDefEqProofs (maxSteps := 1000000) (disch := omega) only [↓vcB, ↓gd, ↓opP, ↓qv, ↓ef, ↓bslS, ↓stS, ↓mkS, ↓rangeS, ↓nextS, ↓entryS, ↓delS, ↓mupS, ↓appS, ↓s2bS, ↓resS, evB, Sx.look, slot, ↓lkL, putS, putO, argsL, ↓reduceIte, ofV, of1, lookH, putH, List.length_cons, List.length_nil, List.length_append, List.replicate, List.append, List.cons_append, List.nil_append, List.append_assoc, List.map_cons, List.map_nil, convS, fldA, nthT, idxA, idxS, fldS, oslN, bnd, slS, unS, valI, lenS, lookS, takeC, psB, asRow, csB, Int.toNat_natCast, Int.le_refl, and_self, rdF, Ent.row, ldS, sz, szL, wrF, bldF, plT, bldS, srcS, nilS, nilEq, mapC, binH, binS2, structS, eqL, eqF, binS, arrS, isI, tupS, stor, storL, Value.oneCell', minS, maxS, capS, true_and, and_true, Nat.reduceAdd, Nat.reduceSub, Nat.reduceMul, Nat.reduceLT, Nat.reduceLeDiff, Nat.reduceEqDiff, Nat.reduceBEq, Int.reduceToNat, Int.reduceNeg, Nat.zero_add, Nat.add_zero, Nat.sub_self, Nat.sub_zero, Nat.zero_mul, Nat.mul_one, Nat.zero_le, if_true, if_false, reduceIte, stays, inL, same1, qn, ldN, convN, lenN, List.mem_cons, List.not_mem_nil, Option.map_some, Option.map_none, cond_true, cond_false, Sx.imp_true, Sx.imp_false, implies_true, Int.reduceEq, Int.reduceNe, Int.reduceLE, Int.reduceLT, decide_true, decide_false, List.zipIdx_cons, List.zipIdx_nil, or_false, false_or, forall_eq_or_imp, forall_eq, ne_eq, reduceCtorEq, not_false_eq_true, Bool.false_eq_true, Bool.true_eq_false, Bool.not_true, Bool.not_false, notInt, numB, tabB, Array.reduceGetElem?, upG, up, nth, lay, rcB, rnm, rnmL, wrB, pcB, Option.isNone, res51, pl51]
  refine c53n x _ p true hp _ ?_
  simp -implicitDefEqProofs (maxSteps := 1000000) (disch := omega) only [↓vcB, ↓gd, ↓opP, ↓qv, ↓ef, ↓bslS, ↓stS, ↓mkS, ↓rangeS, ↓nextS, ↓entryS, ↓delS, ↓mupS, ↓appS, ↓s2bS, ↓resS, evB, Sx.look, slot, ↓lkL, putS, putO, argsL, ↓reduceIte, ofV, of1, lookH, putH, List.length_cons, List.length_nil, List.length_append, List.replicate, List.append, List.cons_append, List.nil_append, List.append_assoc, List.map_cons, List.map_nil, convS, fldA, nthT, idxA, idxS, fldS, oslN, bnd, slS, unS, valI, lenS, lookS, takeC, psB, asRow, csB, Int.toNat_natCast, Int.le_refl, and_self, rdF, Ent.row, ldS, sz, szL, wrF, bldF, plT, bldS, srcS, nilS, nilEq, mapC, binH, binS2, structS, eqL, eqF, binS, arrS, isI, tupS, stor, storL, Value.oneCell', minS, maxS, capS, true_and, and_true, Nat.reduceAdd, Nat.reduceSub, Nat.reduceMul, Nat.reduceLT, Nat.reduceLeDiff, Nat.reduceEqDiff, Nat.reduceBEq, Int.reduceToNat, Int.reduceNeg, Nat.zero_add, Nat.add_zero, Nat.sub_self, Nat.sub_zero, Nat.zero_mul, Nat.mul_one, Nat.zero_le, if_true, if_false, reduceIte, stays, inL, same1, qn, ldN, convN, lenN, List.mem_cons, List.not_mem_nil, Option.map_some, Option.map_none, cond_true, cond_false, Sx.imp_true, Sx.imp_false, implies_true, Int.reduceEq, Int.reduceNe, Int.reduceLE, Int.reduceLT, decide_true, decide_false, List.zipIdx_cons, List.zipIdx_nil, or_false, false_or, forall_eq_or_imp, forall_eq, ne_eq, reduceCtorEq, not_false_eq_true, Bool.false_eq_true, Bool.true_eq_false, Bool.not_true, Bool.not_false, notInt, numB, tabB, Array.reduceGetElem?, upG, up, nth, lay, rcB, rnm, rnmL, wrB, pcB, Option.isNone, res51, pl51, hp, hf, hks, hkk, hmc, k1, k2, k4, k5, k6, Nat.not_lt_zero, Nat.le_refl]
  exact intoR_refl (by simp [putH_len]) hK
theorem c54 (n : Nat) (key val : Nat → SV) (h : List Chunk) (p m : Nat) (w : Bool) (born : Nat → Nat) (clock : Nat) (hp : lookH h p = .cells w [.mp m]) (hm : lookH h m = .map n key val born clock) (K : Tok → SV → List Chunk → Prop) (hK : K .mk (.int .i64 (n : Nat)) h) : callP Try.prog 54 [.ptr p 0] h K := by
  refine callP_of_code tabOk Try.func54 (by kernel_rfl) rfl (Nat.le_of_ble_eq_true rfl) (codeP_of_vc (pl := np) tabOk follows_mixed (by kernel_rfl) ?_)
  rw [Try.ntmps54]
  simp -implicitDefEqProofs (maxSteps := 1000000) (disch := omega) only [↓vcB, ↓gd, ↓opP, ↓qv, ↓ef, ↓bslS, ↓stS, ↓mkS, ↓rangeS, ↓nextS, ↓entryS, ↓delS, ↓mupS, ↓appS, ↓s2bS, ↓resS, evB, Sx.look, slot, ↓lkL, putS, putO, argsL, ↓reduceIte, ofV, of1, lookH, putH, List.length_cons, List.length_nil, List.length_append, List.replicate, List.append, List.cons_append, List.nil_append, List.append_assoc, List.map_cons, List.map_nil, convS, fldA, nthT, idxA, idxS, fldS, oslN, bnd, slS, unS, valI, lenS, lookS, takeC, psB, asRow, csB, Int.toNat_natCast, Int.le_refl, and_self, rdF, Ent.row, ldS, sz, szL, wrF, bldF, plT, bldS, srcS, nilS, nilEq, mapC, binH, binS2, structS, eqL, eqF, binS, arrS, isI, tupS, stor, storL, Value.oneCell', minS, maxS, capS, true_and, and_true, Nat.reduceAdd, Nat.reduceSub, Nat.reduceMul, Nat.reduceLT, Nat.reduceLeDiff, Nat.reduceEqDiff, Nat.reduceBEq, Int.reduceToNat, Int.reduceNeg, Nat.zero_add, Nat.add_zero, Nat.sub_self, Nat.sub_zero, Nat.zero_mul, Nat.mul_one, Nat.zero_le, if_true, if_false, reduceIte, stays, inL, same1, qn, ldN, convN, lenN, List.mem_cons, List.not_mem_nil, Option.map_some, Option.map_none, cond_true, cond_false, Sx.imp_true, Sx.imp_false, implies_true, Int.reduceEq, Int.reduceNe, Int.reduceLE, Int.reduceLT, decide_true, decide_false, List.zipIdx_cons, List.zipIdx_nil, or_false, false_or, forall_eq_or_imp, forall_eq, ne_eq, reduceCtorEq, not_false_eq_true, Bool.false_eq_true, Bool.true_eq_false, Bool.not_true, Bool.not_false, notInt, numB, tabB, Array.reduceGetElem?, upG, up, nth, lay, rcB, rnm, rnmL, wrB, pcB, Option.isNone, res54, hp, hm]
  exact intoR_refl (Nat.le_refl _) hK
theorem c54n (h : List Chunk) (p : Nat) (w : Bool) (hp : lookH h p = .cells w [.v (.map none)]) (K : Tok → SV → List Chunk → Prop) (hK : K .mk (.int .i64 0) h) : callP Try.prog 54 [.ptr p 0] h K := by
  refine callP_of_code tabOk Try.func54 (by kernel_rfl) rfl (Nat.le_of_ble_eq_true rfl) (codeP_of_vc (pl := np) tabOk follows_mixed (by kernel_rfl) ?_)
  rw [Try.ntmps54]
  simp -implicitDefEqProofs (maxSteps := 1000000) (disch := omega) only [↓vcB, ↓gd, ↓opP, ↓qv, ↓ef, ↓bslS, ↓stS, ↓mkS, ↓rangeS, ↓nextS, ↓entryS, ↓delS, ↓mupS, ↓appS, ↓s2bS, ↓resS, evB, Sx.look, slot, ↓lkL, putS, putO, argsL, ↓reduceIte, ofV, of1, lookH, putH, List.length_cons, List.length_nil, List.length_append, List.replicate, List.append, List.cons_append, List.nil_append, List.append_assoc, List.map_cons, List.map_nil, convS, fldA, nthT, idxA, idxS, fldS, oslN, bnd, slS, unS, valI, lenS, lookS, takeC, psB, asRow, csB, Int.toNat_natCast, Int.le_refl, and_self, rdF, Ent.row, ldS, sz, szL, wrF, bldF, plT, bldS, srcS, nilS, nilEq, mapC, binH, binS2, structS, eqL, eqF, binS, arrS, isI, tupS, stor, storL, Value.oneCell', minS, maxS, capS, true_and, and_true, Nat.reduceAdd, Nat.reduceSub, Nat.reduceMul, Nat.reduceLT, Nat.reduceLeDiff, Nat.reduceEqDiff, Nat.reduceBEq, Int.reduceToNat, Int.reduceNeg, Nat.zero_add, Nat.add_zero, Nat.sub_self, Nat.sub_zero, Nat.zero_mul, Nat.mul_one, Nat.zero_le, if_true, if_false, reduceIte, stays, inL, same1, qn, ldN, convN, lenN, List.mem_cons, List.not_mem_nil, Option.map_some, Option.map_none, cond_true, cond_false, Sx.imp_true, Sx.imp_false, implies_true, Int.reduceEq, Int.reduceNe, Int.reduceLE, Int.reduceLT, decide_true, decide_false, List.zipIdx_cons, List.zipIdx_nil, or_false, false_or, forall_eq_or_imp, forall_eq, ne_eq, reduceCtorEq, not_false_eq_true, Bool.false_eq_true, Bool.true_eq_false, Bool.not_true, Bool.not_false, notInt, numB, tabB, Array.reduceGetElem?, upG, up, nth, lay, rcB, rnm, rnmL, wrB, pcB, Option.isNone, res54, hp]
  exact intoR_refl (Nat.le_refl _) hK
end Go.Proofs.Ytloinbebkhcndaa

set_option linter.all false
set_option maxRecDepth 40000
namespace Go.Proofs.Ytloinbebkhcndaa
open Go Go.Sx
set_option maxHeartbeats 1000000

theorem res50 : Try.f50.results.toList = [.tmp 2] := rfl
end Go.Proofs.Ytloinbebkhcndaa
