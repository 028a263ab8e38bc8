/- From a body's walk to an iterator's contract, and to a function's. No condition. -/
import Derived.Test.YtloinbebkhcndaaSyd
import Derived.RangeFuncLeaves
set_option linter.all false
namespace Go.Sx
open Go.RowKit
variable {P : Pr}

def endsG (n : Nat) (g : Gh) : Prop := g = .run n ∨ ∃ i, i ≤ n ∧ g = .stop i

/-- On the way out the marks are taken off. -/
theorem leaves_marks {G : Ghost} (hG : G.Ok P) {F : Fence} {n : Nat} {fn : Func} {tmps : Array Value} {R : Ending → World → Prop} {Y : Nat → Prop} {g : Gh} {ρ : Env} {H : List Chunk} :
    ∀ (Ds : List Nat) {Ob : List (Nat × Obj)} {w : World}, MG G Ob Y g ρ H w → Marked G.C.w0.heap.size Ds Ob → (∀ w', MG G [] Y g ρ H w' → LeavesIn F n P.p fn tmps R [] .returning w') → LeavesInM F n P.p fn tmps R (Ds.map mark) .returning w
  | [], Ob, w, hM, _, hk => hk w (hM.sub fun p hp => by cases hp)
  | D :: Ds, Ob, w, hM, hD, hk => by
    obtain ⟨h1, h2⟩ := hD.2 D (List.mem_cons_self ..)
    have hn := List.nodup_cons.1 hD.1
    refine ⟨by simp, .inl ⟨D, _, rfl, run_takeDeferred (hM.ob _ h1).1, ?_⟩⟩
    refine leaves_marks hG Ds (hM.put hG rfl (.deferred none) h1 (.inr h2)) ⟨hn.2, fun D' hD' => ?_⟩ hk
    obtain ⟨q1, q2⟩ := hD.2 D' (List.mem_cons_of_mem _ hD')
    have hne : D' ≠ D := fun e => hn.1 (e ▸ hD')
    exact ⟨List.mem_map.2 ⟨_, q1, by simp [rep, hne]⟩, q2⟩

theorem enter_eq {P : Program} {f : FuncId} {fn : Func} {c : Code} (hf : P.funcs[f]? = some fn) (hname : (fn.name == "runtime.NumGoroutine") = false) (hb : fn.body = some c) (args : Array Value) (w : World) : (callFunc f args).run P w = .ok (.enter f args) w := by
  have h1 : fn.name ≠ "runtime.NumGoroutine" := by simpa using hname
  simp [callFunc, hf, h1, hb]

theorem init_eq (ρ : Env) (nt : Nat) (args : List SV) (hn : args.length ≤ nt) :
    ({ tmps := (denL ρ args).toArray ++ Array.replicate (nt - (denL ρ args).toArray.size) undef, defers := [] } : Act) = actY ρ ⟨nt, argsL 0 args, fun _ => undef⟩ [] := by
  simp only [actY, List.map_nil]
  congr 1
  apply Array.ext'
  simp only [Array.toList_append, Array.toList_replicate, List.size_toArray, denL_length, tmpsD]
  apply List.ext_getElem?
  intro i
  rw [List.getElem?_map]
  rcases Nat.lt_or_ge i nt with hi | hi
  · rw [List.getElem?_range hi, Option.map_some]
    show _ = some (den ρ (lkL (argsL 0 args) (fun _ => undef) i))
    rw [argsL_get ρ args 0 i (by omega)]
    rcases Nat.lt_or_ge i args.length with h1 | h1
    · rw [List.getElem?_append_left (by rw [denL_length]; exact h1), Nat.sub_zero, ← den_look, List.getElem?_eq_getElem (by rw [denL_length]; exact h1)]
      rfl
    · rw [List.getElem?_append_right (by rw [denL_length]; exact h1), denL_length, List.getElem?_replicate, if_pos (by omega), Nat.sub_zero, ← den_look, List.getElem?_eq_none (by rw [denL_length]; exact h1)]
      rfl
  · rw [List.getElem?_eq_none (by simp [denL_length]; omega), List.getElem?_eq_none (by simpa using hi)]
    rfl

theorem gives_of_codeY {tab : Tab} (hT : tab.Ok P) {f : FuncId} {fn : Func} {c : Code} (hf : P.p.funcs[f]? = some fn) (hname : (fn.name == "runtime.NumGoroutine") = false) (hb : fn.body = some c) (hres : fn.results.toList = [])
    {caps : List SV} {h0 : List Chunk} {n : Nat} {xs : Nat → Value} {fv : Value} {fx : List SV → Option SV} (hlen : caps.length + 1 ≤ fn.ntmps) (hgood : goodH h0.length h0) (hcaps : okL h0.length caps) (hro : ∀ c ∈ h0, c.wr = false)
    (hv : ∀ l, codeY P h0.length ⟨l, n, xs, liveA h0, fv, fx⟩ c (.run 0) ⟨fn.ntmps, argsL 0 (.v (.func (.yield l) #[] #[]) :: caps), fun _ => undef⟩ h0 (fun g _ _ => endsG n g) (fun g e _ _ => e = .ret ∧ endsG n g))
    {ρ : Env} {B : Nat → Prop} {w0 : World} (hB : ∀ b, B b → b < w0.heap.size) (hH : ∀ k c, h0[k]? = some c → Holds ρ w0 k c ∧ (Real ρ k c → B (ρ k).b))
    (hkn : ∀ w, w0.heap.size ≤ w.heap.size → (∀ b, B b → w.heap[b]? = w0.heap[b]?) → P.know w fun b => False ∨ (b < w.heap.size ∧ ¬ B b))
    (hfx : ∀ args r, fx args = some r → ok 0 r ∧ ∀ ρ w X, P.know w X → ∃ B, (∀ b, B b → ¬ X b) ∧ PureAt P.p B fv (denL ρ args) (den ρ r) w) : Gives P.p f (denL ρ caps) B n xs w0 := by
  refine ⟨hB, enter_eq hf hname hb, ?_⟩
  intro F m l J w hF hr hs hag hcl hyl hj
  let G : Ghost := { C := ⟨w, fun _ => False, ρ, h0.length⟩, V := fun b => b < w.heap.size ∧ ¬ B b, J := J, s := ⟨l, n, xs, liveA h0, fv, fx⟩ }
  have hlive : ∀ k, liveA h0 k = true → (ρ k).nil = false → k < h0.length ∧ B (ρ k).b := fun k hk hn => by
    obtain ⟨c, hc, hl⟩ := liveA_lt hk
    exact ⟨get_lt hc, (hH k c hc).2 ⟨hl, hn⟩⟩
  have hG : G.Ok P := by
    refine ⟨hcl, hyl, fun b hb => ⟨hb.1, fun h => h⟩, fun k hk => ?_, hkn w hs hag, hfx⟩
    obtain ⟨c, hc, _⟩ := liveA_lt hk
    refine ⟨get_lt hc, fun hn => ?_⟩
    have := (hlive k hk hn).2
    exact ⟨Nat.lt_of_lt_of_le (hB _ this) hs, fun hv => hv.2 this⟩
  have hM : MG G [] (fun _ => False) (.run 0) ρ h0 w := by
    refine ⟨⟨Keep.refl _ _, fun _ _ => rfl, Nat.le_refl _, fun k c hc => ?_, fun k c hc => goodH_get hgood hc, fun k c hc hR => ?_, fun k c hc hR => ?_, fun k k' c c' hc _ _ hR => ?_⟩, fun k c hc hR => ?_, fun k c hc hR => ?_, fun k c hc hR => ?_, fun p hp => (by cases hp), fun b hb => hb.elim, hj⟩
    · by_cases hl : c.live = true
      · exact holds_block (fun hn => hag _ ((hH k c hc).2 ⟨hl, hn⟩)) (hH k c hc).1
      · cases c <;> simp [Chunk.live] at hl
        trivial
    · exact Nat.lt_of_lt_of_le (hB _ ((hH k c hc).2 hR)) hs
    all_goals
      have h1 := hR.1
      rw [hro c (List.mem_of_getElem? hc)] at h1
      cases h1
  have hok : okS h0.length ⟨fn.ntmps, argsL 0 (.v (.func (.yield l) #[] #[]) :: caps), fun _ => undef⟩ := ⟨fun _ _ => rfl, argsL_ok _ 0 fn.ntmps ⟨trivial, hcaps⟩ (by simp; omega)⟩
  have hw := hv l G [] (fun _ => False) [] ρ w F m hG rfl (Nat.le_refl _) hF (fun l0 h => by rw [hr] at h; cases h) hM hok ⟨List.nodup_nil, fun D hD => by cases hD⟩
  refine callsIn_of_wp_marks hf hb (hF.fn f) ?_ hr
  have hd : (Value.func (.yield l) #[] #[] :: denL ρ caps).toArray = (denL ρ (.v (.func (.yield l) #[] #[]) :: caps)).toArray := rfl
  rw [hd, init_eq ρ fn.ntmps _ (by simp; omega)]
  refine Code.wpIn_mono ?_ hw
  have fin : ∀ {g Y Ob' Ds ρ' t h'} {w' : World}, MG G Ob' Y g ρ' h' w' → Marked G.C.w0.heap.size Ds Ob' → endsG n g → okS h'.length t → LeavesInM F m P.p fn (actY ρ' t Ds).tmps (fun e w' => ∃ v g Y, e = .returned v ∧ (g = .run n ∨ ∃ i, i ≤ n ∧ g = .stop i) ∧ J g w' Y) (actY ρ' t Ds).defers .returning w' := by
    intro g Y Ob' Ds ρ' t h' w' hM' hD hg hok'
    refine leaves_marks hG Ds hM' hD fun w2 hM2 => ?_
    obtain ⟨v, _, _, h4⟩ := results_run hT hM2.m hok' (fn := fn) (K := fun _ => True) (by rw [hres]; trivial)
    exact ⟨_, h4, _, g, Y, rfl, hg, hM2.j⟩
  rintro e a w' ⟨g, Y, Ob', Ds, ρ', t, h', hq, hM', hok', _, hD, rfl⟩
  cases e with
  | normal => exact fin hM' hD hq hok'
  | ret => exact fin hM' hD hq.2 hok'
  | _ => exact absurd hq.1 (by simp)

theorem callP_of_codeY {tab : Tab} (hT : tab.Ok P) {f : FuncId} {fn : Func} {c : Code} (hf : P.p.funcs[f]? = some fn) (hname : (fn.name == "runtime.NumGoroutine") = false) (hb : fn.body = some c)
    {args : List SV} {h : List Chunk} {K : Tok → SV → List Chunk → Prop} {fv : Value} {fx : List SV → Option SV} (hn : args.length ≤ fn.ntmps)
    (hfx : ∀ args r, fx args = some r → ok 0 r ∧ ∀ ρ w X, P.know w X → ∃ B, (∀ b, B b → ¬ X b) ∧ PureAt P.p B fv (denL ρ args) (den ρ r) w)
    (hv : codeY P h.length ⟨0, 0, fun _ => undef, liveA h, fv, fx⟩ c (.run 0) ⟨fn.ntmps, argsL 0 args, fun _ => undef⟩ h (fun _ t h' => resS tab t h' (fun l => IntoR h.length (tupS l) h' K) fn.results.toList)
      (fun _ e t h' => e = .ret ∧ resS tab t h' (fun l => IntoR h.length (tupS l) h' K) fn.results.toList)) : callP P f args h K := by
  intro C ρ w hkn hM hargs
  refine .inr ⟨enter_eq hf hname hb _ _, fun F m hF hr => ?_⟩
  let X' : Nat → Prop := fun b => C.X b ∨ C.w0.heap.size ≤ b
  let G : Ghost := { C := ⟨w, X', ρ, h.length⟩, V := fun _ => False, J := fun g _ _ => g = .run 0, s := ⟨0, 0, fun _ => undef, liveA h, fv, fx⟩ }
  have hG : G.Ok P := by
    refine ⟨⟨fun h _ _ => h, fun h _ => h⟩, fun i _ _ _ _ _ hi => absurd hi (by simp [G]), fun b hb => hb.elim, fun k hk => ?_, ?_, hfx⟩
    · obtain ⟨c, hc, hl⟩ := liveA_lt hk
      exact ⟨get_lt hc, fun hn => ⟨hM.size k c hc ⟨hl, hn⟩, fun h => h⟩⟩
    · exact P.keep hkn hM.keep fun b hb => hb.elim (fun h => h) fun h => h.elim
  have hMG : MG G [] (fun _ => False) (.run 0) ρ h w :=
    ⟨⟨Keep.refl _ _, fun _ _ => rfl, Nat.le_refl _, hM.holds, hM.okc, hM.size, fun k c hc hR => .inl (.inl (hM.wr k c hc hR)), hM.sep⟩, fun k c hc hR => .inl (hM.wr k c hc hR), fun _ _ _ _ h => h, fun _ _ _ _ p hp => (by cases hp), fun p hp => (by cases hp), fun b hb => hb.elim, rfl⟩
  have hok : okS h.length ⟨fn.ntmps, argsL 0 args, fun _ => undef⟩ := ⟨fun _ _ => rfl, argsL_ok args 0 fn.ntmps hargs (by omega)⟩
  have hw := hv G [] (fun _ => False) [] ρ w F m hG rfl (Nat.le_refl _) hF (fun l0 h => by rw [hr] at h; cases h) hMG hok ⟨List.nodup_nil, fun D hD => by cases hD⟩
  refine callsIn_of_wp_marks hf hb (hF.fn f) ?_ hr
  rw [init_eq ρ fn.ntmps args hn]
  refine Code.wpIn_mono ?_ hw
  have fin : ∀ {g Y Ob' Ds ρ' t h'} {w' : World}, MG G Ob' Y g ρ' h' w' → Marked G.C.w0.heap.size Ds Ob' → resS tab t h' (fun l => IntoR h.length (tupS l) h' K) fn.results.toList → okS h'.length t →
      LeavesInM F m P.p fn (actY ρ' t Ds).tmps (Ret C h ρ (K .mk)) (actY ρ' t Ds).defers .returning w' := by
    intro g Y Ob' Ds ρ' t h' w' hM' hD hr hok'
    refine leaves_marks hG Ds hM' hD fun w2 hM2 => ?_
    obtain ⟨v, h1, h3, h4⟩ := results_run hT hM2.m hok' (K := fun v => IntoR h.length v h' K) hr
    obtain ⟨ρ3, v3, h3', q1, q2, q3, q4, q5⟩ := h1 _ ρ' w2 (Nat.le_refl _) hM2.m h3
    refine ⟨_, h4, ρ3, v3, h3', by rw [q4], q1, ?_, q2.agree, q3, q5⟩
    refine ⟨?_, fun k hk => (q2.agree k (Nat.lt_of_lt_of_le hk hM.len)).trans (hM.agree k hk), Nat.le_trans hM.len q5, q2.holds, q2.okc, q2.size, fun k c hc hR => ?_, q2.sep⟩
    · exact hM.keep.step q2.keep fun b hb => hb.elim (fun h => h) fun h => h.elim
    · rcases q2.wr k c hc hR with hx | hx
      · exact hx.elim (fun h => h) fun h => h.elim
      · exact .inr (Nat.le_trans hM.keep.size hx)
  rintro e a w' ⟨g, Y, Ob', Ds, ρ', t, h', hq, hM', hok', _, hD, rfl⟩
  cases e with
  | normal => exact fin hM' hD hq hok'
  | ret => exact fin hM' hD hq.2 hok'
  | _ => exact absurd hq.1 (by simp)

/-- A contract of a callee that is handed no memory of the caller's by name, but may know of it. -/
theorem callP_open {f : FuncId} {args : List SV} {h : List Chunk} {K KL : Tok → SV → List Chunk → Prop}
    (hc : ∀ (C : Ctx) ρ w, P.know C.w0 C.X → Models C ρ h w → ∃ (P' : Pr) (argsL : List SV), P'.p = P.p ∧ P'.know w (fun _ => False) ∧ okL 0 argsL ∧ (∀ ρ', denL ρ args = denL ρ' argsL) ∧ callP P' f argsL [] KL)
    (hk : ∀ v hl', KL .mk v hl' → (∀ c ∈ hl', c.live = true → c.wr = true) ∧ K .mk (rnm (upG [] h.length) v) (h ++ hl'.map (rnmC (upG [] h.length)))) : callP P f args h K := by
  intro C ρ w hkn hM hok
  obtain ⟨⟨p', kn', kp'⟩, argsL, rfl, hkn', hol, hden, hcall⟩ := hc C ρ w hkn hM
  have hML : Models ⟨w, fun _ => False, ρ, 0⟩ ρ [] w := ⟨Keep.refl _ _, fun _ _ => rfl, Nat.le_refl _, fun k c h => by simp at h, fun k c h => by simp at h, fun k c h => by simp at h, fun k c h => by simp at h, fun k k' c c' h => by simp at h⟩
  have hgoes := hcall ⟨w, fun _ => False, ρ, 0⟩ ρ w hkn' hML hol
  rw [hden ρ]
  have fin : ∀ ρ' sv hl' w', KL .mk sv hl' → Models ⟨w, fun _ => False, ρ, 0⟩ ρ' hl' w' → ok hl'.length sv →
      ∃ ρ'', den ρ' sv = den ρ'' (rnm (upG [] h.length) sv) ∧ K .mk (rnm (upG [] h.length) sv) (h ++ hl'.map (rnmC (upG [] h.length))) ∧ Models C ρ'' (h ++ hl'.map (rnmC (upG [] h.length))) w' ∧ Agree h.length ρ ρ'' ∧
        ok (h ++ hl'.map (rnmC (upG [] h.length))).length (rnm (upG [] h.length) sv) ∧ h.length ≤ (h ++ hl'.map (rnmC (upG [] h.length))).length := by
    intro ρ' sv hl' w' hK hM' hs
    obtain ⟨q1, q3⟩ := hk sv hl' hK
    have hM2 : Models ⟨w, fun _ => False, viaG ρ (upG [] h.length), 0⟩ ρ' hl' w' := ⟨hM'.keep, fun k hk => absurd hk (by simp), hM'.len, hM'.holds, hM'.okc, hM'.size, hM'.wr, hM'.sep⟩
    obtain ⟨ρ'', m1, m2, m3⟩ := frame_models hM (r := []) (hl := []) List.nodup_nil trivial (X := fun _ => False) (fun b hb => hb.elim) hM2 (fun k hk => absurd hk (by simp)) (Nat.zero_le _) (by cases hl' <;> exact q1) (by cases hl' <;> trivial)
    have e : lay (upG [] h.length) [] [] hl' h = h ++ hl'.map (rnmC (upG [] h.length)) := by cases hl' <;> rfl
    rw [e] at m1
    refine ⟨ρ'', m3 sv hs, q3, m1, m2, ?_, by simp⟩
    refine (ok_rnm (n := hl'.length) (fun k hk => ⟨h.length + k, by simp [upG, up, nth], by simp; omega⟩) sv hs).2
  rcases hgoes with ⟨w', ρ', sv, hl', h1, h2, h3, h4, h5, h6⟩ | ⟨h1, h2⟩
  · obtain ⟨ρ'', e1, e2, e3, e4, e5, e6⟩ := fin ρ' sv hl' w' h2 h3 h5
    refine .inl ⟨w', ρ'', _, _, ?_, e2, e3, e4, e5, e6⟩
    rcases h1 with h1 | ⟨h1, rfl⟩
    · exact .inl (by rw [h1, e1])
    · exact .inr ⟨h1, rfl⟩
  · refine .inr ⟨h1, fun F n hF hro => CallsIn.mono (h2 F n hF hro) ?_⟩
    rintro e w' ⟨ρ', sv, hl', rfl, q2, q3, q4, q5, q6⟩
    obtain ⟨ρ'', e1, e2, e3, e4, e5, e6⟩ := fin ρ' sv hl' w' q2 q3 q5
    exact ⟨ρ'', _, _, by rw [e1], e2, e3, e4, e5, e6⟩

/-- A function that only reads, as a value. -/
theorem pure_of_callP {p : Program} {f : FuncId} {fn : Func} {c : Code} (hf : p.funcs[f]? = some fn) (hname : (fn.name == "runtime.NumGoroutine") = false) (hb : fn.body = some c)
    {caps args : List SV} {r : SV} {h0 : List Chunk} (hgood : goodH h0.length h0) (hro : ∀ c ∈ h0, c.wr = false) (ho : okL h0.length (args ++ caps)) (hr : ok 0 r) (hc : callP (Pr.of p) f (args ++ caps) h0 fun _ v _ => v = r)
    {ρ : Env} {B : Nat → Prop} {w0 : World} (hB : ∀ b, B b → b < w0.heap.size) (hH : ∀ k c, h0[k]? = some c → Holds ρ w0 k c ∧ (Real ρ k c → B (ρ k).b)) :
    PureAt p B (.func (.func f) #[] (denL ρ caps).toArray) (denL ρ args) (den ρ r) w0 := by
  refine ⟨f, _, rfl, enter_eq hf hname hb, hB, ?_⟩
  intro F m w hF hround hs hag
  have hM : Models ⟨w, fun _ => False, ρ, h0.length⟩ ρ h0 w := by
    refine ⟨Keep.refl _ _, fun _ _ => rfl, Nat.le_refl _, fun k c hc => ?_, fun k c hc => goodH_get hgood hc, fun k c hc hR => ?_, fun k c hc hR => ?_, fun k k' c c' hc _ _ hR => ?_⟩
    · by_cases hl : c.live = true
      · exact holds_block (fun hn => hag _ ((hH k c hc).2 ⟨hl, hn⟩)) (hH k c hc).1
      · cases c <;> simp [Chunk.live] at hl
        trivial
    · exact Nat.lt_of_lt_of_le (hB _ ((hH k c hc).2 hR)) hs
    all_goals
      have h1 := hR.1
      rw [hro c (List.mem_of_getElem? hc)] at h1
      cases h1
  have hargs : (denL ρ args).toArray ++ (denL ρ caps).toArray = (denL ρ (args ++ caps)).toArray := by rw [denL_append]; simp
  rw [hargs]
  rcases hc ⟨w, fun _ => False, ρ, h0.length⟩ ρ w trivial hM ho with ⟨w', ρ', sv, h', h1, _⟩ | ⟨_, h2⟩
  · rw [enter_eq hf hname hb] at h1
    simp at h1
  · refine (h2 F m hF hround).mono ?_
    rintro e w' ⟨ρ', sv, h', rfl, rfl, hM', _⟩
    exact ⟨by rw [den_agree (n := 0) (ρ := ρ) (ρ' := ρ') (fun k hk => absurd hk (by omega)) _ hr], hM'.keep⟩

/-- A nil slice may have a name. -/
theorem intoR_nil {nf : Nat} {h : List Chunk} {K : Tok → SV → List Chunk → Prop} {s : Nat} {f : Nat → SV} (hle : nf ≤ h.length) (hk : K .mk (.osl h.length 0 0 s 0) (h ++ [.row true 0 s f])) : IntoR nf (.v (.slice none 0 0)) h K := fun C ρ w hC hM hok => by
  refine ⟨upd ρ h.length ⟨0, 0, 0, true⟩, _, _, hk, ?_, ?_, ?_, by simp; omega⟩
  · exact hM.alloc (Keep.refl _ _) (fun h => by cases h) ⟨fun i hi => absurd hi (by omega), fun i hi => absurd hi (by omega)⟩ (by simp [Holds, upd])
  · simp [ok]
  · simp [den, upd]
end Go.Sx
