/- A range over a function, symbolically: the rule. No condition. -/
import Derived.Test.YtloinbebkhcndaaSyc
set_option linter.all false
namespace Go.Sx
open Go.RowKit
variable {P : Pr}

/-- Entering: the loop's record (and at an outermost loop the block of the mark) are new. -/
theorem enter_loop {F : Fence} {Ob : List (Nat × Obj)} {Y : Nat → Prop} {g : Gh} {G : Ghost} {ρ : Env} {H : List Chunk} {w : World} (hM : MG G Ob Y g ρ H w) (hro : RoundOk F Ob) (fn : FuncId) (tmps : Array Value) (ps : Array Tmp) (assign body : Code) :
    ∃ (l : Nat) (Dn : List Nat) (dd : Nat) (w1 : World), (Instr.enterLoop fn tmps ps assign body F.round).run P.p w = .ok (l, Dn.map mark) w1 ∧ Keep (fun _ => False) w w1 ∧ w.heap.size ≤ l ∧ l < w1.heap.size ∧
      w1.heap[l]? = some (.loop { state := .ready, pending := none, fn, tmps, params := ps, assign, body, defers := dd }) ∧ Dn.Nodup ∧ ∀ D ∈ Dn, w.heap.size ≤ D ∧ D < w1.heap.size ∧ D ≠ l ∧ w1.heap[D]? = some (.deferred (some [])) := by
  cases hr : F.round with
  | none =>
    refine ⟨w.heap.size + 1, [w.heap.size], w.heap.size, _, run_enterLoop_outer fn tmps ps assign body, ?_, by omega, by simp, ?_, ?_⟩
    · exact (keep_alloc w _).step (keep_alloc _ _) fun _ h => h.elim
    · have := World.alloc_heap_new (w.alloc (.deferred (some []))) (.loop { state := .ready, pending := none, fn, tmps, params := ps, assign, body, defers := w.heap.size })
      rwa [World.size_alloc] at this
    · refine ⟨by simp, ?_⟩
      intro D hD
      obtain rfl : D = w.heap.size := by simpa using hD
      exact ⟨Nat.le_refl _, by simp; omega, by omega, (Below.heap_alloc _ _ _ (by simp)).trans (World.alloc_heap_new w _)⟩
  | some l0 =>
    obtain ⟨r, hr0⟩ := hro l0 hr
    have hl := (hM.ob _ hr0).1
    simp only at hl
    refine ⟨w.heap.size, [], r.defers, w.alloc (.loop { state := .ready, pending := none, fn, tmps, params := ps, assign, body, defers := r.defers }), ?_, keep_alloc w _, Nat.le_refl _, by simp, World.alloc_heap_new w _, by simp, fun D hD => by cases hD⟩
    unfold Instr.enterLoop
    simp only [Sem.run_bind, run_getLoop hl, Result.andThen, Sem.run_pure, run_newObj_alloc, List.map_nil]

theorem tmps_put (ρ : Env) {n : Nat} (t : Slots) (p : Nat) (v : SV) : ((#[p].zip #[den ρ v]).foldl (fun (tm : Array Value) (x : Nat × Value) => tm.setIfInBounds x.1 x.2) (tmpsD ρ t).toArray) = (tmpsD ρ (putS t p v)).toArray := by
  have := act_put ρ ⟨t, [], []⟩ (some p) v
  simp only [act, Act.put, putO, Act.mk.injEq, and_true] at this
  simpa using this

section
variable {F : Fence} {tab : Tab} {nf : Nat}

theorem codeY_range {S : Sq} {gop : Operand} {p : Nat} {assign body : Code} {g : Gh} {t : Slots} {h : List Chunk} {N : Gh → Slots → List Chunk → Prop} {E : Gh → Exit → Slots → List Chunk → Prop}
    (qs : List Nat) (n' : Nat) (xs' : Nat → SV) (hflat : ∀ i, ok 0 (xs' i)) (hra : roA S.A 0 h) (hnm : ∀ k ∈ qs, (frz1 (lookH h k)).wr = false)
    (hgv : ∀ ρ w X, P.know w X → (∀ k ∈ qs, Holds ρ w k (lookH h k) ∧ (Real ρ k (lookH h k) → (ρ k).b < w.heap.size)) →
      ∃ f lb B, den ρ (ev t gop) = .func (.func f) #[] lb.toArray ∧ Gives P.p f lb B n' (fun i => den ρ (xs' i)) w ∧ ∀ b, B b → ¬ X b ∨ ∃ k ∈ qs, Real ρ k (lookH h k) ∧ (ρ k).b = b)
    (I : Nat → Gh → List Chunk → Prop) (Ix : Nat → Gh → Exit → List Chunk → Prop) (h0 : I 0 g (frz qs 0 h))
    (hround : ∀ i g h', i < n' → I i g h' → codeY P h.length { S with A := liveA (frz qs 0 h) } assign g (putS t p (xs' i)) h'
      (fun g t1 h1 => codeY P h.length { S with A := liveA (frz qs 0 h) } body g t1 h1 (fun g t2 h2 => IntoY h.length t2 h2 fun _ h4 => I (i + 1) g h4 ∧ roA (liveA (frz qs 0 h)) 0 h4)
        (fun g e t2 h2 => (leaves e).isSome = true ∧ IntoY h.length t2 h2 fun _ h4 => Ix (i + 1) g e h4 ∧ roA (liveA (frz qs 0 h)) 0 h4)) (fun _ _ _ _ => False))
    (hdone : ∀ g h', I n' g h' → N g t h') (hstop : ∀ i g e h', i ≤ n' → Ix i g e h' → E g e t h') :
    codeY P nf S (.rangeFunc gop #[p] assign body) g t h N E := by
  intro G Ob Y Ds ρ w F m hG hs hC hF hro hM hok hD
  subst hs
  -- the iterator
  have hkX : P.know w fun b => G.C.X b ∨ G.V b ∨ G.C.w0.heap.size ≤ b := P.keep hG.kn hM.m.keep fun b hb => by
    rcases hb with h | h | h
    · exact .inl (.inl h)
    · exact .inl (.inr h)
    · exact .inr h
  obtain ⟨f, lb, B, hden, ⟨hBs, hent, hgive⟩, hB⟩ := hgv ρ w _ hkX fun k hk => ⟨lookH_holds hM.m k, fun hR => hM.m.size k _ (lookH_some rfl (by intro e; rw [e] at hR; cases hR.1)) hR⟩
  have hget : ∀ k, Real ρ k (lookH h k) → h[k]? = some (lookH h k) := fun k hR => lookH_some rfl (by intro e; rw [e] at hR; cases hR.1)
  have hBV : ∀ b, B b → ¬ G.V b := fun b hb => by
    rcases hB b hb with h1 | ⟨k, hk, hR, rfl⟩
    · exact fun hv => h1 (.inr (.inl hv))
    · exact (hM.away hG hra (hget k hR) hR).2
  have hBY : ∀ b, B b → ¬ Y b := fun b hb => by
    rcases hB b hb with h1 | ⟨k, hk, hR, rfl⟩
    · exact fun hy => h1 (.inr (.inr (hM.yb b hy).1))
    · exact (hM.away hG hra (hget k hR) hR).1
  have hM1 := hM.freeze qs
  have hBR : ∀ k c, (frz qs 0 h)[k]? = some c → RealW ρ k c → ¬ B (ρ k).b := fun k c hc hR hb => by
    rcases hB _ hb with h1 | ⟨k', hk', hR', he⟩
    · rcases hM1.own k c hc hR with ho | ho
      · exact h1 (.inl ho)
      · exact h1 (.inr (.inr ho))
    · obtain ⟨c0, g1, g2⟩ := frz_get hc
      have hmem : inL qs (0 + k') = true := by
        rw [Nat.zero_add]
        have : ∀ (l : List Nat), k' ∈ l → inL l k' = true := by
          intro l
          induction l with
          | nil => intro h; cases h
          | cons x l ih =>
            intro h
            simp only [inL]
            split
            · rfl
            · rename_i hx
              rcases List.mem_cons.1 h with h | h
              · exact absurd h.symm hx
              · exact ih h
        exact this qs hk'
      by_cases hkk : k = k'
      · subst hkk
        rcases g2 with ⟨_, g3⟩ | ⟨rfl, _⟩
        · rw [hmem] at g3; cases g3
        · have := hnm k hk'
          rw [lookH_get? g1] at this
          have h5 := hR.1
          rw [this] at h5; cases h5
      · obtain ⟨c1, q1, q2, q3, _, _⟩ := frz_all hc
        exact hM.m.sep k k' c1 _ q1 (hget k' hR') hkk ⟨q3 hR.1, hR.2⟩ hR' he.symm
  have hsw : G.C.w0.heap.size ≤ w.heap.size := hM.m.keep.size
  refine wpIn_rangeFunc ?_
  intro fn hfn
  obtain ⟨l, Dn, dd, w1, hent1, hk1, hwl, hl1, hrec, hDnn, hDn⟩ := enter_loop (P := P) hM hro fn (actY ρ t Ds).tmps #[p] assign body
  obtain ⟨rec, hrecdef⟩ : ∃ rec : LoopState → Option Code → Loop, rec = fun st pe => { state := st, pending := pe, fn, tmps := (tmpsD ρ t).toArray, params := #[p], assign, body, defers := dd } := ⟨_, rfl⟩
  have hrec' : w1.heap[l]? = some (.loop (rec .ready none)) := by rw [hrecdef]; exact hrec
  have hlt1 : w.heap.size ≤ w1.heap.size := hk1.size
  have hwlt : ∀ b, B b → b < w.heap.size := hBs
  refine ⟨l, Dn.map mark, w1, { target := .fn (.func f) lb.toArray, args := #[.func (.yield l) #[] #[]] }, w1, f, (Value.func (.yield l) #[] #[] :: lb).toArray, w1, hent1, ?_, ?_, ?_, ?_, ?_⟩
  · have he : (actY ρ t Ds).eval gop = .func (.func f) #[] lb.toArray := by rw [← act_actY ρ t h Ds, act_eval ρ ⟨t, h, Ds.map mark⟩ hok]; exact hden
    simp only [resolve, he]
    simp [go_sem]
  · intro f' _; exact hF.fn f'
  · simp only [invoke]
    rw [show ((#[Value.func (.yield l) #[] #[]] : Array Value) ++ lb.toArray) = (Value.func (.yield l) #[] #[] :: lb).toArray from by apply Array.ext'; simp]
    exact hent _ _
  · exact fun hd => absurd hd (by rw [hF.depth]; simp)
  · let A1 := liveA (frz qs 0 h)
    let Ob1 : List (Nat × Obj) := Dn.map (fun D => (D, Obj.deferred (some []))) ++ Ob
    let J : Inv := fun gh W Yc => ∃ gO Yo ρ' h',
      (match gh with
        | .run i => I i gO h' ∧ MG G ((l, Obj.loop (rec .ready none)) :: Ob1) Yo gO ρ' h' W
        | .stop i => ∃ e c, Ix i gO e h' ∧ leaves e = some c ∧ MG G ((l, Obj.loop (rec .done (some c))) :: Ob1) Yo gO ρ' h' W) ∧
      Agree h.length ρ ρ' ∧ h.length ≤ h'.length ∧ roA A1 0 h' ∧ (∀ k c, h'[k]? = some c → RealW ρ' k c → ¬ B (ρ' k).b ∧ ((ρ' k).b < w1.heap.size ∨ Yc (ρ' k).b)) ∧ (∀ b, Yo b → ¬ B b ∧ (b < w1.heap.size ∨ Yc b)) ∧
      (∀ k, A1 k = true → (ρ k).nil = false → ¬ Yo (ρ k).b)
    have hplace : ∀ k, A1 k = true → (ρ k).nil = false → k < h.length ∧ (ρ k).b < w.heap.size ∧ ¬ Y (ρ k).b ∧ ¬ G.V (ρ k).b := fun k hk hn => by
      obtain ⟨c, hc, hl⟩ := liveA_lt hk
      obtain ⟨c0, q1, q2, _⟩ := frz_all hc
      have hR : Real ρ k c0 := ⟨by rw [← q2]; exact hl, hn⟩
      exact ⟨get_lt q1, hM.m.size k c0 q1 hR, hM.away hG hra q1 hR⟩
    have hlB : ¬ B l := fun hb => by have := hwlt l hb; omega
    have hObl : ∀ q ∈ Ob1, q.1 < w1.heap.size ∧ q.1 ≠ l := fun q hq => by
      rcases List.mem_append.1 hq with hq | hq
      · obtain ⟨D, hD', rfl⟩ := List.mem_map.1 hq
        exact ⟨(hDn D hD').2.1, (hDn D hD').2.2.1⟩
      · have := heap_lt (hM.ob q hq).1
        exact ⟨by omega, by omega⟩
    have hls0 : G.C.w0.heap.size ≤ l := by omega
    -- the memory as the loop begins
    have hJ0 : J (.run 0) w1 (fun _ => False) := by
      obtain ⟨X, _, _, hm, back⟩ := hM1.step hG
      have hMw1 := back _ _ _ (hm.same hk1)
      refine ⟨g, Y, ρ, frz qs 0 h, ⟨h0, ⟨hMw1.m, hMw1.own, hMw1.ny, ?_, ?_, hMw1.yb, hMw1.j⟩⟩, fun _ _ => rfl, by rw [frz_length]; exact Nat.le_refl _, roA_live _, ?_, ?_, ?_⟩
      · intro k c hc hR q hq
        have hb := hM1.m.size k c hc hR.real
        rcases List.mem_cons.1 hq with rfl | hq
        · simp only; omega
        · rcases List.mem_append.1 hq with hq | hq
          · obtain ⟨D, hD', rfl⟩ := List.mem_map.1 hq
            have := (hDn D hD').1
            simp only; omega
          · exact hM1.no k c hc hR q hq
      · intro q hq
        rcases List.mem_cons.1 hq with rfl | hq
        · exact ⟨hrec', fun hv => by have := (hG.v _ hv).1; simp only at this; omega, fun hy => by have := (hM.yb _ hy).2; simp only at this; omega⟩
        · rcases List.mem_append.1 hq with hq | hq
          · obtain ⟨D, hD', rfl⟩ := List.mem_map.1 hq
            have hd := hDn D hD'
            exact ⟨hd.2.2.2, fun hv => by have := (hG.v _ hv).1; simp only at this; omega, fun hy => by have := (hM.yb _ hy).2; simp only at this; omega⟩
          · exact hMw1.ob q hq
      · intro k c hc hR
        exact ⟨hBR k c hc hR, .inl (by have := hM1.m.size k c hc hR.real; omega)⟩
      · intro b hb
        exact ⟨fun hx => hBY b hx hb, .inl (by have := (hM.yb b hb).2; omega)⟩
      · intro k hk hn
        exact (hplace k hk hn).2.2.1
    -- the names of a round
    have hkeepA : ∀ {gO Yo ρ' h' W Ob' }, MG G Ob' Yo gO ρ' h' W → Agree h.length ρ ρ' → roA A1 0 h' → ∀ {Yc : Nat → Prop}, (∀ k c, h'[k]? = some c → RealW ρ' k c → ¬ B (ρ' k).b ∧ ((ρ' k).b < w1.heap.size ∨ Yc (ρ' k).b)) →
        ∀ k c, h'[k]? = some c → Real ρ' k c → (ρ' k).b < w1.heap.size ∨ Yc (ρ' k).b := by
      intro gO Yo ρ' h' W Ob' hMG ag hra' Yc hrw k c hc hR
      rcases roA_spec hra' hc with hw | hl | ha
      · exact (hrw k c hc ⟨hw, hR.2⟩).2
      · rw [hR.1] at hl; cases hl
      · rw [Nat.zero_add] at ha
        obtain ⟨c1, hc1, _⟩ := liveA_lt ha
        have hkl : k < h.length := by rw [← frz_length qs 0 h]; exact get_lt hc1
        have hn : (ρ k).nil = false := by rw [← ag k hkl]; exact hR.2
        have := (hplace k ha hn).2.1
        rw [ag k hkl]
        exact .inl (by omega)
    have hcl : Client (fun _ => False) w1.heap.size J := by
      constructor
      · rintro gh W W' Yc Z ⟨gO, Yo, ρ', h', hcase, ag, hlen, hra', hrw, hyo, ha⟩ hk hZ
        have hz : ∀ {Ob'}, MG G Ob' Yo gO ρ' h' W → (∀ q ∈ Ob', q.1 < w1.heap.size) → MG G Ob' Yo gO ρ' h' W' := fun hMG hq => hMG.beside hG hk fun b hb => by
          have hb1 := (hZ b hb).1.resolve_left id
          refine ⟨by omega, fun hy => ?_, fun q hq' he => ?_, fun k c hc hR he => ?_⟩
          · exact (hyo b hy).2.elim (fun h => by omega) (hZ b hb).2
          · have := hq q hq'; omega
          · have := hkeepA hMG ag hra' hrw k c hc hR
            rw [he] at this
            exact this.elim (fun h => by omega) (hZ b hb).2
        have hq1 : ∀ (o : Obj), ∀ q ∈ (l, o) :: Ob1, q.1 < w1.heap.size := fun o q hq => by
          rcases List.mem_cons.1 hq with rfl | hq
          · exact hl1
          · exact (hObl q hq).1
        refine ⟨gO, Yo, ρ', h', ?_, ag, hlen, hra', hrw, hyo, ha⟩
        cases gh with
        | run i => exact ⟨hcase.1, hz hcase.2 (hq1 _)⟩
        | stop i =>
          obtain ⟨e, c, h1, h2, h3⟩ := hcase
          exact ⟨e, c, h1, h2, hz h3 (hq1 _)⟩
      · rintro gh W Yc Yc' ⟨gO, Yo, ρ', h', hcase, ag, hlen, hra', hrw, hyo, ha⟩ hyy
        exact ⟨gO, Yo, ρ', h', hcase, ag, hlen, hra', fun k c hc hR => ⟨(hrw k c hc hR).1, (hrw k c hc hR).2.imp id (hyy _)⟩, fun b hb => ⟨(hyo b hb).1, (hyo b hb).2.imp id (hyy _)⟩, ha⟩
    -- a round
    have hyl : YieldsTo P.p l J (fun b => b < w1.heap.size ∧ ¬ B b) w1.heap.size n' (fun i => den ρ (xs' i)) := by
      rintro i W Yc F' k hF' hi hsW hYc ⟨gO, Yo, ρ', h', ⟨hI, hMG⟩, ag, hlen, hra', hrw, hyo, ha⟩
      have hlW := (hMG.ob _ (List.mem_cons_self ..)).1
      simp only at hlW
      have hy := run_yield (P := P.p) (args := #[den ρ (xs' i)]) hlW (by rw [hrecdef]; rfl)
      have hden' : den ρ (xs' i) = den ρ' (xs' i) := (den_agree (n := 0) (fun k hk => absurd hk (by omega)) _ (hflat i)).symm
      have htmp : ((rec .ready none).params.zip #[den ρ (xs' i)]).foldl (fun (tm : Array Value) (x : Nat × Value) => tm.setIfInBounds x.1 x.2) (rec .ready none).tmps = (tmpsD ρ' (putS t p (xs' i))).toArray := by
        rw [hrecdef]
        simp only
        rw [← tmps_put ρ' (n := 0) t p (xs' i), hden', tmpsD_agree ag hok]
      refine ⟨_, _, _, _, hy, ?_⟩
      rw [show (rec .ready none).fn = fn by rw [hrecdef], show (rec .ready none).assign = assign by rw [hrecdef], show (rec .ready none).body = body by rw [hrecdef]]
      rw [show (((rec .ready none).params.zip #[den ρ (xs' i)]).foldl (fun tmps (t, a) => tmps.setIfInBounds t a) (rec .ready none).tmps) = (tmpsD ρ' (putS t p (xs' i))).toArray from htmp]
      -- the round's own context
      let X2 : Nat → Prop := fun b => (b < w1.heap.size ∨ Yc b) ∧ (G.C.X b ∨ G.C.w0.heap.size ≤ b) ∧ ¬ Yo b ∧ ¬ B b
      let G2 : Ghost := { C := ⟨W, X2, ρ', h.length⟩, V := fun b => G.V b ∨ Yo b, J := fun gh w Yn => G.J gh w (fun b => Yo b ∨ Yn b), s := { G.s with A := A1 } }
      have hWs0 : G.C.w0.heap.size ≤ W.heap.size := hMG.m.keep.size
      have hls : ¬ Yo l ∧ ¬ G.V l := ⟨(hMG.ob _ (List.mem_cons_self ..)).2.2, (hMG.ob _ (List.mem_cons_self ..)).2.1⟩
      have hX2l : X2 l := ⟨.inl hl1, .inr hls0, hls.1, hlB⟩
      have hG2 : G2.Ok P := by
        refine ⟨⟨?_, ?_⟩, ?_, ?_, ?_, ?_, ?_⟩
        · intro gh w w' Yn Z hj hk hZ
          refine hG.cl.stable hj hk fun b hb => ?_
          obtain ⟨h1, h2⟩ := hZ b hb
          rcases h1 with h1 | h1
          · exact ⟨h1.2.1, fun hx => hx.elim h1.2.2.1 h2⟩
          · simp only [G2] at h1
            exact ⟨.inr (by omega), fun hx => hx.elim (fun hy => by have := (hMG.yb b hy).2; omega) h2⟩
        · intro gh w Yn Yn' hj hyy
          exact hG.cl.mono hj fun b hb => hb.imp id (hyy b)
        · intro i2 w2 Yn F2 k2 hF2 hi2 hs2 hYn hj
          simp only [G2] at hs2 hYn
          refine YieldAt.mono (hG.yl i2 w2 _ F2 k2 hF2 hi2 (by omega) (fun b hb => ?_) hj) ?_
          · rcases hb with hb | hb
            · have := hMG.yb b hb; exact ⟨this.1, by omega⟩
            · have := hYn b hb; exact ⟨by omega, this.2⟩
          · rintro e w3 ⟨hk, hjj⟩
            refine ⟨hk.mono fun b hb => ?_, ?_⟩
            · rcases hb with (hb | hb) | hb
              · exact .inr (.inr hb)
              · exact .inl hb
              · exact .inr (.inl hb)
            · have hgr : ∀ b, grow (fun b => Yo b ∨ Yn b) w2 w3 b → Yo b ∨ grow Yn w2 w3 b := fun b hb => by
                rcases hb with (hb | hb) | hb
                · exact .inl hb
                · exact .inr (.inl hb)
                · exact .inr (.inr hb)
              exact hjj.imp (fun h => ⟨h.1, hG.cl.mono h.2 hgr⟩) fun h => ⟨h.1, hG.cl.mono h.2 hgr⟩
        · intro b hb
          rcases hb with hb | hb
          · have h1 := hG.v b hb
            refine ⟨by simp only [G2]; omega, fun hx => ?_⟩
            exact hx.2.1.elim h1.2 fun h => by omega
          · exact ⟨(hMG.yb b hb).2, fun hx => hx.2.2.1 hb⟩
        · intro k2 hk2
          obtain ⟨c1, hc1, _⟩ := liveA_lt hk2
          have hkl : k2 < h.length := by rw [← frz_length qs 0 h]; exact get_lt hc1
          refine ⟨hkl, fun hn => ?_⟩
          have hn' : (ρ k2).nil = false := by rw [← ag k2 hkl]; exact hn
          have h1 := hplace k2 hk2 hn'
          simp only [G2]
          rw [ag k2 hkl]
          exact ⟨by omega, fun hx => hx.elim h1.2.2.2 (ha k2 hk2 hn')⟩
        · refine P.keep hG.kn hMG.m.keep fun b hb => ?_
          rcases hb with hb | hb | hb
          · exact hb.2.1.elim (fun h => .inl (.inl h)) .inr
          · exact .inl (.inr hb)
          · exact .inr (hMG.yb b hb).1
        · exact hG.fx
      have hMG2 : MG G2 ((l, Obj.loop (rec .ready none)) :: Ob1) (fun _ => False) gO ρ' h' W := by
        have hown : ∀ k c, h'[k]? = some c → RealW ρ' k c → X2 (ρ' k).b := fun k c hc hR => ⟨(hrw k c hc hR).2, hMG.own k c hc hR, hMG.ny k c hc hR, (hrw k c hc hR).1⟩
        refine ⟨⟨Keep.refl _ _, fun _ _ => rfl, hlen, hMG.m.holds, hMG.m.okc, hMG.m.size, fun k c hc hR => .inl (.inl (hown k c hc hR)), hMG.m.sep⟩, fun k c hc hR => .inl (hown k c hc hR), fun _ _ _ _ h => h, hMG.no, ?_, fun b hb => hb.elim, hG.cl.mono hMG.j fun b hb => .inl hb⟩
        intro q hq
        have := hMG.ob q hq
        exact ⟨this.1, fun hx => hx.elim this.2.1 this.2.2, fun h => h⟩
      have hF2 : WideF (F'.inRound l) := ⟨hF'.fn, hF'.depth⟩
      refine roundIn_of_wpIn (hF'.fn fn) ?_
      refine Code.wpIn_mono ?_ (hround i gO h' hi hI G2 _ (fun _ => False) [] ρ' W (F'.inRound l) k hG2 rfl (Nat.le_refl _) hF2 (fun l0 hl0 => by obtain rfl : l = l0 := (by simpa using hl0); exact ⟨_, List.mem_cons_self ..⟩) hMG2
        (okS_put (okS_mono hlen hok) (ok_mono (Nat.zero_le _) _ (hflat i))) ⟨List.nodup_nil, fun D hD => by cases hD⟩)
      rintro e a W2 ⟨g2, Y2, Ob2, Ds2, ρ2, t2, h2, hq2, hM2, hok2, hob2, hD2, rfl⟩
      cases e with
      | normal =>
        have hr2 := (hM2.ob _ (hob2 _ (List.mem_cons_self ..))).1
        simp only at hr2
        refine ⟨_, run_beginRound hr2 (by rw [hrecdef]), ?_⟩
        have hM3 := hM2.put hG2 rfl (.loop { rec .ready none with state := .busy }) (hob2 _ (List.mem_cons_self ..)) (.inl hX2l)
        have hmem3 : ∀ q ∈ (l, Obj.loop { rec .ready none with state := .busy }) :: Ob1, q ∈ Ob2.map (rep l (.loop { rec .ready none with state := .busy })) := fun q hq => by
          rcases List.mem_cons.1 hq with rfl | hq
          · exact List.mem_map.2 ⟨_, hob2 _ (List.mem_cons_self ..), by simp [rep]⟩
          · exact List.mem_map.2 ⟨q, hob2 q (List.mem_cons_of_mem _ hq), by simp [rep, (hObl q hq).2]⟩
        have hD3 : Marked G2.C.w0.heap.size Ds2 (Ob2.map (rep l (.loop { rec .ready none with state := .busy }))) := ⟨hD2.1, fun D hD => by
          have h1 := hD2.2 D hD
          refine ⟨List.mem_map.2 ⟨_, h1.1, ?_⟩, h1.2⟩
          have h3 := (hM2.ob _ h1.1).1
          simp only at h3
          have : D ≠ l := fun he => by rw [he, hr2] at h3; cases h3
          simp [rep, this]⟩
        refine Code.wpIn_mono ?_ (hq2 G2 _ Y2 Ds2 ρ2 _ (F'.inRound l) k hG2 rfl (Nat.le_refl _) hF2 (fun l0 hl0 => by obtain rfl : l = l0 := (by simpa using hl0); exact ⟨_, hmem3 _ (List.mem_cons_self ..)⟩) hM3 hok2 hD3)
        rintro e a W3 ⟨g3, Y3, Ob3, Ds3, ρ3, t3, h3, hq3, hMM3, hok3, hob3, hD3', rfl⟩
        have hr3 := (hMM3.ob _ (hob3 _ (hmem3 _ (List.mem_cons_self ..)))).1
        simp only at hr3
        -- how a round ends
        have fin : ∀ (jump : Option Code) (J4 : List Chunk → Prop), IntoY h.length t3 h3 (fun _ h4 => J4 h4 ∧ roA A1 0 h4) →
            ∃ W4, (Instr.endRound l jump).run P.p W3 = .ok (.bool jump.isNone) W4 ∧ Keep (fun b => Yc b ∨ (b < w1.heap.size ∧ ¬ B b)) W W4 ∧ ∃ Yo4 ρ4 h4, J4 h4 ∧ MG G ((l, Obj.loop (rec (if jump.isNone then .ready else .done) jump)) :: Ob1) Yo4 g3 ρ4 h4 W4 ∧
              Agree h.length ρ ρ4 ∧ h.length ≤ h4.length ∧ roA A1 0 h4 ∧ (∀ k c, h4[k]? = some c → RealW ρ4 k c → ¬ B (ρ4 k).b ∧ ((ρ4 k).b < w1.heap.size ∨ grow Yc W W4 (ρ4 k).b)) ∧ (∀ b, Yo4 b → ¬ B b ∧ (b < w1.heap.size ∨ grow Yc W W4 b)) ∧
              (∀ k, A1 k = true → (ρ k).nil = false → ¬ Yo4 (ρ k).b) := by
          intro jump J4 hinto
          obtain ⟨ρ4, t4, h4, ⟨hJ4, hra4⟩, hM4, _, _⟩ := hinto.run hG2 (Nat.le_refl _) hMM3 hok3
          have hendr := run_endRound (P := P.p) jump hr3
          have hM5 := hM4.put hG2 rfl (.loop (rec (if jump.isNone then .ready else .done) jump)) (hob3 _ (hmem3 _ (List.mem_cons_self ..))) (.inl hX2l)
          have hrr : ({ ({ rec .ready none with state := .busy } : Loop) with state := if jump.isNone then .ready else .done, pending := jump } : Loop) = rec (if jump.isNone then .ready else .done) jump := by rw [hrecdef]
          rw [hrr] at hendr
          obtain ⟨W4, hW4⟩ : ∃ W4, W3.putObj l (.loop (rec (if jump.isNone then .ready else .done) jump)) = W4 := ⟨_, rfl⟩
          rw [hW4] at hendr hM5
          have hkeep : Keep (fun b => X2 b ∨ (G.V b ∨ Yo b)) W W4 := hM5.m.keep
          have hs4 : W.heap.size ≤ W4.heap.size := hkeep.size
          refine ⟨W4, hendr, hkeep.mono fun b hb => ?_, fun b => Yo b ∨ Y3 b, ρ4, h4, hJ4, ?_, ?_, hM5.m.len, hra4, ?_, ?_, ?_⟩
          · rcases hb with hb | hb | hb
            · exact hb.1.elim (fun h => .inr ⟨h, hb.2.2.2⟩) .inl
            · have := (hG.v b hb).1
              exact .inr ⟨by omega, fun hx => hBV b hx hb⟩
            · exact (hyo b hb).2.elim (fun h => .inr ⟨h, (hyo b hb).1⟩) .inl
          · have hown4 : ∀ k c, h4[k]? = some c → RealW ρ4 k c → X2 (ρ4 k).b ∨ W.heap.size ≤ (ρ4 k).b := hM5.own
            refine ⟨⟨?_, ?_, ?_, hM5.m.holds, hM5.m.okc, hM5.m.size, ?_, hM5.m.sep⟩, ?_, ?_, ?_, ?_, ?_, ?_⟩
            · refine hMG.m.keep.step hkeep fun b hb => ?_
              rcases hb with hb | hb | hb
              · exact hb.2.1.elim (fun h => .inl (.inl h)) .inr
              · exact .inl (.inr hb)
              · exact .inr (hMG.yb b hb).1
            · intro k hk
              have h1 := hM5.m.agree k (Nat.lt_of_lt_of_le hk hM.m.len)
              simp only [G2] at h1
              rw [h1]
              exact hMG.m.agree k hk
            · exact Nat.le_trans hM.m.len hM5.m.len
            · intro k c hc hR
              rcases hown4 k c hc hR with hb | hb
              · exact hb.2.1.elim (fun h => .inl (.inl h)) .inr
              · exact .inr (by simp only; omega)
            · intro k c hc hR
              rcases hown4 k c hc hR with hb | hb
              · exact hb.2.1
              · exact .inr (by omega)
            · intro k c hc hR hy
              rcases hy with hy | hy
              · rcases hown4 k c hc hR with hb | hb
                · exact hb.2.2.1 hy
                · have := (hMG.yb _ hy).2; omega
              · exact hM5.ny k c hc hR hy
            · intro k c hc hR q hq
              rcases List.mem_cons.1 hq with rfl | hq
              · exact hM5.no k c hc hR (l, _) (List.mem_map.2 ⟨_, hob3 _ (hmem3 _ (List.mem_cons_self ..)), by simp [rep]⟩)
              · refine hM5.no k c hc hR q (List.mem_map.2 ⟨q, hob3 _ (hmem3 q (List.mem_cons_of_mem _ hq)), by simp [rep, (hObl q hq).2]⟩)
            · intro q hq
              have h6 : q ∈ Ob3.map (rep l (.loop (rec (if jump.isNone then .ready else .done) jump))) := by
                rcases List.mem_cons.1 hq with rfl | hq
                · exact List.mem_map.2 ⟨_, hob3 _ (hmem3 _ (List.mem_cons_self ..)), by simp [rep]⟩
                · exact List.mem_map.2 ⟨q, hob3 _ (hmem3 q (List.mem_cons_of_mem _ hq)), by simp [rep, (hObl q hq).2]⟩
              obtain ⟨h7, h8, h9⟩ := hM5.ob q h6
              exact ⟨h7, fun hv => h8 (.inl hv), fun hy => hy.elim (fun hy => h8 (.inr hy)) h9⟩
            · intro b hb
              rcases hb with hb | hb
              · have := hMG.yb b hb; exact ⟨this.1, by omega⟩
              · have := hM5.yb b hb; simp only [G2] at this; exact ⟨by omega, this.2⟩
            · exact hM5.j
          · intro k hk
            have h1 := hM5.m.agree k hk
            simp only [G2] at h1
            rw [h1]
            exact ag k hk
          · intro k c hc hR
            rcases hM5.own k c hc hR with hb | hb
            · exact ⟨hb.2.2.2, hb.1.imp id fun h => .inl h⟩
            · simp only [G2] at hb
              exact ⟨fun hx => (by have := hwlt _ hx; omega), .inr (.inr ⟨hb, hM5.m.size k c hc hR.real⟩)⟩
          · intro b hb
            rcases hb with hb | hb
            · exact ⟨(hyo b hb).1, (hyo b hb).2.imp id fun h => .inl h⟩
            · have := hM5.yb b hb
              simp only [G2] at this
              exact ⟨fun hx => (by have := hwlt _ hx; omega), .inr (.inr this)⟩
          · intro k hk hn hy
            rcases hy with hy | hy
            · exact ha k hk hn hy
            · have h1 := hM5.yb _ hy
              have h2 := (hplace k hk hn).2.1
              simp only [G2] at h1
              omega
        cases e with
        | normal =>
          obtain ⟨W4, h1, h2, Yo4, ρ4, h4, h5, h6, h7, h8, h9, h10, h11, h12⟩ := fin none (I (i + 1) g3) hq3
          exact ⟨_, W4, h1, h2, .inl ⟨rfl, g3, Yo4, ρ4, h4, ⟨h5, h6⟩, h7, h8, h9, h10, h11, h12⟩⟩
        | ret =>
          obtain ⟨W4, h1, h2, Yo4, ρ4, h4, h5, h6, h7, h8, h9, h10, h11, h12⟩ := fin (some .ret) (Ix (i + 1) g3 .ret) hq3.2
          exact ⟨_, W4, h1, h2, .inr ⟨rfl, g3, Yo4, ρ4, h4, ⟨.ret, .ret, h5, rfl, h6⟩, h7, h8, h9, h10, h11, h12⟩⟩
        | exit id =>
          obtain ⟨W4, h1, h2, Yo4, ρ4, h4, h5, h6, h7, h8, h9, h10, h11, h12⟩ := fin (some (.exit id)) (Ix (i + 1) g3 (.exit id)) hq3.2
          exact ⟨_, W4, h1, h2, .inr ⟨rfl, g3, Yo4, ρ4, h4, ⟨.exit id, .exit id, h5, rfl, h6⟩, h7, h8, h9, h10, h11, h12⟩⟩
        | goto id => exact absurd hq3.1 (by simp [leaves])
        | panic c => exact absurd hq3.1 (by simp [leaves])
        | outgrown => exact absurd hq3.1 (by simp [leaves])
      | exit id => exact hq2.elim
      | goto id => exact hq2.elim
      | ret => exact hq2.elim
      | panic id => exact hq2.elim
      | outgrown => exact hq2.elim
    have hcall := hgive { F with round := none } (m - 1) l J w1 ⟨hF.fn, hF.depth⟩ rfl hlt1 (fun b hb => hk1.block b (hwlt b hb) fun h => h) hcl hyl hJ0
    refine CallsIn.mono (F := F) hcall ?_
    rintro e W4 ⟨v, gh, Yc, rfl, hgh, hJ4⟩
    have hact : ∀ ρ', Agree h.length ρ ρ' → ({ actY ρ t Ds with defers := Dn.map mark ++ (actY ρ t Ds).defers } : Act) = actY ρ' t (Dn ++ Ds) := fun ρ' ag => by
      simp only [actY, tmpsD_agree ag hok, List.map_append]
    have hDD : Marked G.C.w0.heap.size (Dn ++ Ds) Ob1 := ⟨List.nodup_append.2 ⟨hDnn, hD.1, fun a ha b hb e => by
      have h1 := (hDn a ha).1
      have h2 := heap_lt (hM.ob _ (hD.2 b hb).1).1
      simp only at h2
      omega⟩, fun D hD' => by
      rcases List.mem_append.1 hD' with h1 | h1
      · exact ⟨List.mem_append.2 (.inl (List.mem_map.2 ⟨D, h1, rfl⟩)), by have := (hDn D h1).1; omega⟩
      · exact ⟨List.mem_append.2 (.inr (hD.2 D h1).1), (hD.2 D h1).2⟩⟩
    have hsub : ∀ (o o' : Obj), ∀ q ∈ Ob1, q ∈ ((l, o) :: Ob1).map (rep l o') := fun o o' q hq => List.mem_map.2 ⟨q, List.mem_cons_of_mem _ hq, by simp [rep, (hObl q hq).2]⟩
    obtain ⟨gO, Yo, ρ', h', hcase, ag, hlen, hra', hrw, hyo, ha⟩ := hJ4
    rcases hgh with rfl | ⟨i, hi, rfl⟩
    · obtain ⟨hI, hMG⟩ := hcase
      have hlW := (hMG.ob _ (List.mem_cons_self ..)).1
      simp only at hlW
      refine ⟨none, _, by have := run_endLoop (P := P.p) hlW (by rw [hrecdef]; simp); rw [hrecdef] at this; exact this, ?_⟩
      have hM5 := (hMG.put hG rfl (.loop { rec .ready none with state := .exhausted }) (List.mem_cons_self ..) (.inr hls0)).sub (hsub _ _)
      rw [hrecdef] at hM5
      exact ⟨gO, Yo, Ob1, Dn ++ Ds, ρ', t, h', hdone gO h' hI, hM5, okS_mono hlen hok, fun q hq => List.mem_append.2 (.inr hq), hDD, hact ρ' ag⟩
    · obtain ⟨e, c, hIx, hle, hMG⟩ := hcase
      have hlW := (hMG.ob _ (List.mem_cons_self ..)).1
      simp only at hlW
      refine ⟨some c, _, by have := run_endLoop (P := P.p) hlW (by rw [hrecdef]; simp); rw [hrecdef] at this; exact this, ?_⟩
      have hM5 := (hMG.put hG rfl (.loop { rec .done (some c) with state := .exhausted }) (List.mem_cons_self ..) (.inr hls0)).sub (hsub _ _)
      rw [hrecdef] at hM5
      have hE := hstop i gO e h' hi hIx
      simp only
      rw [hact ρ' ag]
      cases e with
      | ret =>
        obtain rfl : Code.ret = c := by simpa [leaves] using hle
        exact wpIn_ret ⟨gO, Yo, Ob1, Dn ++ Ds, ρ', t, h', hE, hM5, okS_mono hlen hok, fun q hq => List.mem_append.2 (.inr hq), hDD, rfl⟩
      | exit id =>
        obtain rfl : Code.exit id = c := by simpa [leaves] using hle
        exact wpIn_exit ⟨gO, Yo, Ob1, Dn ++ Ds, ρ', t, h', hE, hM5, okS_mono hlen hok, fun q hq => List.mem_append.2 (.inr hq), hDD, rfl⟩
      | normal => simp [leaves] at hle
      | goto id => simp [leaves] at hle
      | panic c => simp [leaves] at hle
      | outgrown => simp [leaves] at hle
end
end Go.Sx
