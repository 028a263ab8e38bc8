/- What the simplifier is told. No condition. -/
import Derived.Test.YtloinbebkhcndaaSxq
import Derived.LoopNIn
set_option linter.all false
namespace Go.Sx
variable {P : Pr}

@[congr] theorem imp_cong {a a' b : Prop} (h : a = a') : imp a b = imp a' b := by rw [h]
@[congr] theorem callP_cong {f : FuncId} {args args' : List SV} {h h' : List Chunk} {K : Tok → SV → List Chunk → Prop} (ha : args = args') (hh : h = h') : callP P f args h K = callP P f args' h' K := by rw [ha, hh]
@[congr] theorem codeP_cong {nf : Nat} {c : Code} {st st' : St} {N : Tok → St → Prop} {E : Tok → Exit → St → Prop} (h : st = st') : codeP P nf c st N E = codeP P nf c st' N E := by rw [h]
@[congr] theorem into_cong {nf : Nat} {st st' : St} {J : St → Prop} (h : st = st') : Into nf st J = Into nf st' J := by rw [h]
theorem imp_true (b : Prop) : imp True b = b := by simp [imp]
theorem imp_false (b : Prop) : imp False b = True := by simp [imp]
theorem imp_intro {a b : Prop} (h : a → b) : imp a b := h

/-- A result and a heap may be taken for these. -/
def IntoR (nf : Nat) (v : SV) (h : List Chunk) (K : Tok → SV → List Chunk → Prop) : Prop :=
  ∀ (C : Ctx) (ρ : Env) (w : World), C.n0 ≤ nf → Models C ρ h w → ok h.length v → ∃ ρ' v' h', K .mk v' h' ∧ Models C ρ' h' w ∧ ok h'.length v' ∧ den ρ v = den ρ' v' ∧ nf ≤ h'.length
@[congr] theorem intoR_cong {nf : Nat} {v v' : SV} {h h' : List Chunk} {K : Tok → SV → List Chunk → Prop} (hv : v = v') (hh : h = h') : IntoR nf v h K = IntoR nf v' h' K := by rw [hv, hh]

theorem intoR_refl {nf : Nat} {v : SV} {h : List Chunk} {K : Tok → SV → List Chunk → Prop} (hle : nf ≤ h.length) (hk : K .mk v h) : IntoR nf v h K := fun _ ρ _ _ hM hok => ⟨ρ, v, h, hk, hM, hok, rfl, hle⟩

theorem intoR_mk {nf : Nat} {v : SV} {h : List Chunk} {K : Tok → SV → List Chunk → Prop} (r : List (Option Nat)) (v' : SV) (H : List Chunk)
    (hfix : fixed (rg r) nf) (hle : nf ≤ H.length) (hr : renH (rg r) h 0 H) (hn : (liveN (rg r) 0 H).Nodup) (hg : goodH H.length H) (ht : eqv v (rnm (rg r) v')) (ho : ok H.length v') (hk : K .mk v' H) : IntoR nf v h K :=
  fun C ρ w hC hM hok => ⟨viaG ρ (rg r), v', H, hk, hM.rename hC (fixed_spec hfix) hle hr hn (fun k c hc => goodH_get hg hc), ho, by rw [den_rnm, eqv_den ρ _ _ ht], hle⟩

/-- Names that are not among the first nf are dropped. -/
theorem intoR_take {nf : Nat} {v : SV} {h : List Chunk} {K : Tok → SV → List Chunk → Prop} (H : List Chunk) (hH : H ++ h.drop nf = h) (hl : H.length = nf) (hg : goodH nf H) (ho : ok nf v) (hk : K .mk v H) : IntoR nf v h K :=
  fun C ρ w hC hM hok => by
    have hget : ∀ k c, H[k]? = some c → h[k]? = some c := fun k c hc => by
      rw [← hH, List.getElem?_append_left (get_lt hc)]; exact hc
    refine ⟨ρ, v, H, hk, ⟨hM.keep, hM.agree, by omega, fun k c hc => hM.holds k c (hget k c hc), fun k c hc => ?_, fun k c hc => hM.size k c (hget k c hc), fun k c hc => hM.wr k c (hget k c hc),
      fun k k' c c' hc hc' => hM.sep k k' c c' (hget k c hc) (hget k' c' hc')⟩, by rw [hl]; exact ho, rfl, by omega⟩
    rw [hl]
    exact goodH_get hg hc

def argsL : Nat → List SV → List (Nat × SV)
  | _, [] => []
  | k, x :: l => (k, x) :: argsL (k + 1) l
theorem argsL_ok {m : Nat} : ∀ (l : List SV) (k n : Nat), okL m l → k + l.length ≤ n → okE m n (argsL k l)
  | [], _, _, _, _ => trivial
  | x :: l, k, n, h, hn => ⟨⟨by simp at hn; omega, h.1⟩, argsL_ok l (k + 1) n h.2 (by simp at hn; omega)⟩
theorem argsL_get (ρ : Env) : ∀ (l : List SV) (k i : Nat), k ≤ i → den ρ (lkL (argsL k l) (fun _ => undef) i) = den ρ (look l (i - k))
  | [], k, i, _ => by simp only [argsL, lkL, look, den, denL]; rfl
  | x :: l, k, i, h => by
    simp only [argsL, lkL]
    split
    · rename_i hk; subst hk; rw [Nat.sub_self]; rfl
    · rw [argsL_get ρ l (k + 1) i (by omega)]
      rw [show i - k = (i - (k + 1)) + 1 by omega]
      rfl

/-- A function's contract, out of its body's walk; at its end the state may be said in other names. -/
theorem callP_of_code {tab : Tab} (hT : tab.Ok P) {f : FuncId} {fn : Func} {c : Code} (hf : P.p.funcs[f]? = some fn) (hname : (fn.name == "runtime.NumGoroutine") = false) (hb : fn.body = some c)
    {args : List SV} {h : List Chunk} {K : Tok → SV → List Chunk → Prop}
    (hn : args.length ≤ fn.ntmps) (hv : codeP P h.length c ⟨⟨fn.ntmps, argsL 0 args, fun _ => undef⟩, h, []⟩ (fun _ st => st.d = [] ∧ resS tab st.t st.h (fun l => IntoR h.length (tupS l) st.h K) fn.results.toList)
      (fun _ e st => e = .ret ∧ st.d = [] ∧ resS tab st.t st.h (fun l => IntoR h.length (tupS l) st.h K) fn.results.toList)) : callP P f args h K := by
  intro C ρ w hkn hM hargs
  refine .inr ⟨?_, fun F n hF hro => ?_⟩
  · have h1 : fn.name ≠ "runtime.NumGoroutine" := by simpa using hname
    simp [callFunc, hf, h1, hb]
  · let C' : Ctx := ⟨C.w0, C.X, ρ, h.length⟩
    have hM' : Models C' ρ h w := ⟨hM.keep, fun _ _ => rfl, Nat.le_refl _, hM.holds, hM.okc, hM.size, hM.wr, hM.sep⟩
    have hok : okS h.length ⟨fn.ntmps, argsL 0 args, fun _ => undef⟩ := ⟨fun _ _ => rfl, argsL_ok args 0 fn.ntmps hargs (by omega)⟩
    have hw := hv C' ρ w F n hF (Nat.le_refl _) hkn hM' hok
    have hinit : ({ tmps := (denL ρ args).toArray ++ Array.replicate (fn.ntmps - (denL ρ args).toArray.size) undef, defers := [] } : Act) = act ρ ⟨⟨fn.ntmps, argsL 0 args, fun _ => undef⟩, h, []⟩ := by
      simp only [act]
      congr 1
      apply Array.ext'
      simp only [Array.toList_append, Array.toList_replicate, List.size_toArray, denL_length, tmpsD]
      apply List.ext_getElem?
      intro i
      rw [List.getElem?_map]
      rcases Nat.lt_or_ge i fn.ntmps with hi | hi
      · rw [List.getElem?_range hi, Option.map_some]
        show _ = some (den ρ (lkL (argsL 0 args) (fun _ => undef) i))
        rw [argsL_get ρ args 0 i (by omega)]
        rcases Nat.lt_or_ge i args.length with h1 | h1
        · rw [List.getElem?_append_left (by rw [denL_length]; exact h1), Nat.sub_zero, ← den_look, List.getElem?_eq_getElem (by rw [denL_length]; exact h1)]
          rfl
        · rw [List.getElem?_append_right (by rw [denL_length]; exact h1), denL_length, List.getElem?_replicate, if_pos (by omega), Nat.sub_zero, ← den_look, List.getElem?_eq_none (by rw [denL_length]; exact h1)]
          rfl
      · rw [List.getElem?_eq_none (by simp [denL_length]; omega), List.getElem?_eq_none (by simpa using hi)]
        rfl
    refine callsIn_of_wp hf hb (hF.fn f) ?_ hro
    rw [hinit]
    refine Code.wpIn_mono ?_ hw
    have fin : ∀ (ρ' : Env) (st' : St) (w' : World), st'.d = [] → resS tab st'.t st'.h (fun l => IntoR h.length (tupS l) st'.h K) fn.results.toList → Models C' ρ' st'.h w' → okS st'.h.length st'.t →
        (act ρ' st').defers = [] ∧ ∃ v, (results fn (act ρ' st').tmps).run P w' = .ok v w' ∧ Ret C h ρ (K .mk) (.returned v) w' := by
      intro ρ' st' w' hd hr hM2 hok2
      obtain ⟨v, h1, h3, h4⟩ := results_run hT hM2 hok2 (K := fun v => IntoR h.length v st'.h K) hr
      obtain ⟨ρ3, v3, h3', q1, q2, q3, q4, q5⟩ := h1 C' ρ' w' (Nat.le_refl _) hM2 h3
      refine ⟨hd, _, h4, ρ3, v3, h3', by rw [q4], q1, ?_, q2.agree, q3, q5⟩
      exact ⟨q2.keep, fun k hk => (q2.agree k (Nat.lt_of_lt_of_le hk hM.len)).trans (hM.agree k hk), Nat.le_trans hM.len q5, q2.holds, q2.okc, q2.size, q2.wr, q2.sep⟩
    rintro e a w' ⟨ρ', st', hq, hM2, hok2, rfl⟩
    cases e with
    | normal => exact fin ρ' st' w' hq.1 hq.2 hM2 hok2
    | ret => exact fin ρ' st' w' hq.2.1 hq.2.2 hM2 hok2
    | _ => exact absurd hq.1 (by simp)

/-- A loop of at most so many rounds, round by round. -/
def rounds (k : Tok) (P : Pr) (tab : Tab) (nf : Nat) (pl : Nat → Plan) (c : Code) (E : Tok → Exit → St → Prop) : Nat → St → Prop
  | 0, _ => False
  | m + 1, st => vc k P tab nf pl c st (fun k st => rounds k P tab nf pl c E m st) fun k e s => e ≠ .normal ∧ E k e s

theorem codeP_rounds {tab : Tab} {nf : Nat} {pl : Nat → Plan} (hT : tab.Ok P) (hm : P.p.follows .mixedOrders = true) {c : Code} (hfit : fits pl c = true) {N : Tok → St → Prop} {E : Tok → Exit → St → Prop} (m : Nat) {st : St}
    (h : rounds .mk P tab nf pl c E m st) : codeP P nf (.loop c) st N E := by
  intro C ρ w F n hF hC hkn hM hok
  refine wpIn_loop_rounds m ?_
  have key : ∀ m st ρ w, rounds .mk P tab nf pl c E m st → Models C ρ st.h w → okS st.h.length st.t → Code.roundsIn F n P c (QK C N E) m (act ρ st) w := by
    intro m
    induction m with
    | zero => intro st ρ w h; exact h.elim
    | succ m ih =>
      intro st ρ w h hM hok
      rw [roundsIn_succ]
      refine Code.wpIn_mono ?_ (vc_run hT hm hC hkn hF c st _ _ hfit h ρ w hM hok (n := n))
      rintro e a w ⟨ρ2, s2, hq, hM2, hok2, rfl⟩
      cases e with
      | normal => exact ih s2 ρ2 w hq hM2 hok2
      | exit id => exact ⟨ρ2, s2, hq.2, hM2, hok2, rfl⟩
      | goto id => exact ⟨ρ2, s2, hq.2, hM2, hok2, rfl⟩
      | ret => exact ⟨ρ2, s2, hq.2, hM2, hok2, rfl⟩
      | panic id => exact ⟨ρ2, s2, hq.2, hM2, hok2, rfl⟩
      | outgrown => exact ⟨ρ2, s2, hq.2, hM2, hok2, rfl⟩
  exact key m st ρ w h hM hok

/-! ### As rules, at the mark -/
theorem ev_tmp (t : Slots) (i : Nat) : ev t (.tmp i) = slot t i := rfl
theorem ev_const (t : Slots) (v : Value) : ev t (.const v) = ofV v := rfl
theorem ev_global (t : Slots) (g : Nat) : ev t (.global g) = .v (.pointer (some ⟨g, 0, none⟩)) := rfl
theorem ev_func (t : Slots) (f : FuncId) : ev t (.func f) = .fn (.func f) [] [] := rfl
section
variable {tab : Tab} {nf : Nat} {pl : Nat → Plan} {st : St} {N : Tok → St → Prop} {E : Tok → Exit → St → Prop} {ops : Array Oper} {t : Slots} {h : List Chunk} {d : List Deferred} {K : Tok → Slots → List Chunk → Prop}
theorem vc_skip : vc .mk P tab nf pl .skip st N E = N .mk st := rfl
theorem vc_label {l : Nat} : vc .mk P tab nf pl (.label l) st N E = N .mk st := rfl
theorem vc_plain {id : Nat} {l : List Oper} : vc .mk P tab nf pl (.region id l.toArray false) ⟨t, h, d⟩ N E = rn .mk P tab l.toArray l t h fun k t h => N k ⟨t, h, d⟩ := rfl
theorem vc_drawn {id : Nat} : vc .mk P tab nf pl (.region id ops true) ⟨t, h, d⟩ N E = rp .mk P tab ops (pl id) [] t h fun k t h => N k ⟨t, h, d⟩ := rfl
theorem vc_seq {a b : Code} : vc .mk P tab nf pl (.seq a b) st N E = vc .mk P tab nf pl a st (fun k st => vc k P tab nf pl b st N E) E := rfl
theorem vc_cond {c : Operand} {a b : Code} : vc .mk P tab nf pl (.cond c a b) ⟨t, h, d⟩ N E = (match ev t c with
    | .bool x => imp (x = true) (vc .mk P tab nf pl a ⟨t, h, d⟩ N E) ∧ imp (x = false) (vc .mk P tab nf pl b ⟨t, h, d⟩ N E)
    | _ => False) := rfl
theorem vc_block {id : Nat} {c : Code} : vc .mk P tab nf pl (.block id c) st N E = vc .mk P tab nf pl c st N fun k e st => match e with
    | .exit j => if j = id then N k st else E k (.exit j) st
    | e => E k e st := rfl
theorem vc_exit {id : Nat} : vc .mk P tab nf pl (.exit id) st N E = E .mk (.exit id) st := rfl
theorem vc_ret : vc .mk P tab nf pl .ret st N E = E .mk .ret st := rfl
theorem vc_loop {c : Code} : vc .mk P tab nf pl (.loop c) st N E = codeP P nf (.loop c) st N E := rfl
theorem vc_range {f : Operand} {ps : Array Tmp} {a b : Code} : vc .mk P tab nf pl (.rangeFunc f ps a b) st N E = codeP P nf (.rangeFunc f ps a b) st N E := rfl
theorem rn_nil : rn .mk P tab ops [] t h K = K .mk t h := rfl
theorem rn_cons {o : Oper} {r : List Oper} : rn .mk P tab ops (o :: r) t h K = gd ops t o.guard (fun t => opP P tab t h o.op fun k v h' => rn k P tab ops r (putO t o.dst v) h' K) (fun t => rn .mk P tab ops r (putO t o.dst (.tup [])) h K) := rfl
variable {rd : List (Nat × List Nat)}
theorem rp_nil : rp .mk P tab ops .nil rd t h K = K .mk t h := rfl
theorem rp_q {i : Nat} {p : Plan} : rp .mk P tab ops (.q i p) rd t h K = (match ops[i]? with
    | some o => gd ops t o.guard (fun t => match qv tab t h o.op with
        | some (c, v) => c ∧ rp .mk P tab ops p ((i, qn t o.op) :: rd) (putO t o.dst v) h K
        | none => False) (fun t => rp .mk P tab ops p rd (putO t o.dst (.tup [])) h K)
    | none => False) := rfl
theorem rp_e1 {i : Nat} {ws : List Nat} {p : Plan} : rp .mk P tab ops (.e1 i ws p) rd t h K = (match ops[i]? with
    | some o => gd ops t o.guard (fun t => opP P tab t h o.op fun k v h' => stays ws h h' rd ∧ rp k P tab ops p rd (putO t o.dst v) h' K) (fun t => rp .mk P tab ops p rd (putO t o.dst (.tup [])) h K)
    | none => False) := rfl
theorem rp_e2 {i j : Nat} {ws ws' : List Nat} {p p' : Plan} : rp .mk P tab ops (.e2 i ws p j ws' p') rd t h K = (
    (match ops[i]? with
    | some o => gd ops t o.guard (fun t => opP P tab t h o.op fun k v h' => stays ws h h' rd ∧ rp k P tab ops p rd (putO t o.dst v) h' K) (fun t => rp .mk P tab ops p rd (putO t o.dst (.tup [])) h K)
    | none => False) ∧
    (match ops[j]? with
    | some o => gd ops t o.guard (fun t => opP P tab t h o.op fun k v h' => stays ws' h h' rd ∧ rp k P tab ops p' rd (putO t o.dst v) h' K) (fun t => rp .mk P tab ops p' rd (putO t o.dst (.tup [])) h K)
    | none => False)) := rfl
theorem rounds_zero {c : Code} : rounds .mk P tab nf pl c E 0 st = False := rfl
theorem rounds_succ {c : Code} {m : Nat} : rounds .mk P tab nf pl c E (m + 1) st = vc .mk P tab nf pl c st (fun k st => rounds k P tab nf pl c E m st) fun k e s => e ≠ .normal ∧ E k e s := rfl
end
/-- The rules in one. -/
def vcB := And.intro @vc_skip (And.intro @vc_label (And.intro @vc_plain (And.intro @vc_drawn (And.intro @vc_seq (And.intro @vc_cond (And.intro @vc_block (And.intro @vc_exit (And.intro @vc_ret (And.intro @vc_loop (And.intro @vc_range (And.intro @rn_nil (And.intro @rn_cons (And.intro @rp_nil (And.intro @rp_q (And.intro @rp_e1 (And.intro @rp_e2 (And.intro @rounds_zero (@rounds_succ))))))))))))))))))
def evB := And.intro @ev_tmp (And.intro @ev_const (And.intro @ev_global (@ev_func)))
end Go.Sx
