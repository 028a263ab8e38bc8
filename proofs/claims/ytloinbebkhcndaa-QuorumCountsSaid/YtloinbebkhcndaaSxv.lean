/- A walk at one start: what the start's memory holds may be named at any time. No condition. -/
import Derived.Test.YtloinbebkhcndaaSxt
set_option linter.all false
namespace Go.Sx
open Go.RowKit

/-- The state may be taken for another one. -/
def IntoA (C : Ctx) (st : St) (J : Tok → St → Prop) : Prop :=
  ∀ (ρ : Env) (w : World), Models C ρ st.h w → okS st.h.length st.t → ∃ ρ' st', J .mk st' ∧ Models C ρ' st'.h w ∧ okS st'.h.length st'.t ∧ act ρ st = act ρ' st'
theorem intoA_of {C : Ctx} {nf : Nat} (hC : C.n0 ≤ nf) {st : St} {J : Tok → St → Prop} (h : Into nf st (J .mk)) : IntoA C st J := fun ρ w hM hok => h C ρ w hC hM hok
theorem intoA_refl {C : Ctx} {st : St} {J : Tok → St → Prop} (h : J .mk st) : IntoA C st J := fun ρ _ hM hok => ⟨ρ, st, h, hM, hok, rfl⟩

def codeA (C : Ctx) (P : Pr) (c : Code) (st : St) (N : Tok → St → Prop) (E : Tok → Exit → St → Prop) : Prop :=
  P.know C.w0 C.X → ∀ (ρ : Env) (w : World) (F : Fence) (n : Nat), WideF F → Models C ρ st.h w → okS st.h.length st.t → c.wpIn F n P (QK C N E) (act ρ st) w

/-- As vc, at one start; behind the region of that number the state may be taken for another one. -/
def vf (C : Ctx) (k : Tok) (P : Pr) (tab : Tab) (pl : Nat → Plan) (at' : Nat) : Code → St → (Tok → St → Prop) → (Tok → Exit → St → Prop) → Prop
  | .skip, st, N, _ => N .mk st
  | .label _, st, N, _ => N .mk st
  | .region id ops false, st, N, _ => rn k P tab ops ops.toList st.t st.h fun k t h => if id = at' then IntoA C ⟨t, h, st.d⟩ N else N k ⟨t, h, st.d⟩
  | .region id ops true, st, N, _ => rp k P tab ops (pl id) [] st.t st.h fun k t h => if id = at' then IntoA C ⟨t, h, st.d⟩ N else N k ⟨t, h, st.d⟩
  | .seq a b, st, N, E => vf C k P tab pl at' a st (fun k st => vf C k P tab pl at' b st N E) E
  | .cond c a b, st, N, E => match ev st.t c with
    | .bool x => imp (x = true) (vf C k P tab pl at' a st N E) ∧ imp (x = false) (vf C k P tab pl at' b st N E)
    | _ => False
  | .block id c, st, N, E => vf C k P tab pl at' c st N fun k e st => match e with
    | .exit j => if j = id then N k st else E k (.exit j) st
    | e => E k e st
  | .exit id, st, _, E => E .mk (.exit id) st
  | .ret, st, _, E => E .mk .ret st
  | .loop c, st, N, E => codeA C P (.loop c) st N E
  | _, _, _, _ => False

section
variable {P : Pr} {tab : Tab} {pl : Nat → Plan} {C : Ctx} {at' : Nat} {st : St} {N : Tok → St → Prop} {E : Tok → Exit → St → Prop}
theorem vf_skip : vf C .mk P tab pl at' .skip st N E = N .mk st := rfl
theorem vf_label {l : Nat} : vf C .mk P tab pl at' (.label l) st N E = N .mk st := rfl
theorem vf_plain {id : Nat} {l : List Oper} {t : Slots} {h : List Chunk} {d : List Deferred} : vf C .mk P tab pl at' (.region id l.toArray false) ⟨t, h, d⟩ N E = rn .mk P tab l.toArray l t h fun k t h => if id = at' then IntoA C ⟨t, h, d⟩ N else N k ⟨t, h, d⟩ := rfl
theorem vf_drawn {id : Nat} {ops : Array Oper} {t : Slots} {h : List Chunk} {d : List Deferred} : vf C .mk P tab pl at' (.region id ops true) ⟨t, h, d⟩ N E = rp .mk P tab ops (pl id) [] t h fun k t h => if id = at' then IntoA C ⟨t, h, d⟩ N else N k ⟨t, h, d⟩ := rfl
theorem vf_seq {a b : Code} : vf C .mk P tab pl at' (.seq a b) st N E = vf C .mk P tab pl at' a st (fun k st => vf C k P tab pl at' b st N E) E := rfl
theorem vf_cond {c : Operand} {a b : Code} : vf C .mk P tab pl at' (.cond c a b) st N E = (match ev st.t c with
    | .bool x => imp (x = true) (vf C .mk P tab pl at' a st N E) ∧ imp (x = false) (vf C .mk P tab pl at' b st N E)
    | _ => False) := rfl
theorem vf_block {id : Nat} {c : Code} : vf C .mk P tab pl at' (.block id c) st N E = vf C .mk P tab pl at' c st N fun k e st => match e with
    | .exit j => if j = id then N k st else E k (.exit j) st
    | e => E k e st := rfl
theorem vf_exit {id : Nat} : vf C .mk P tab pl at' (.exit id) st N E = E .mk (.exit id) st := rfl
theorem vf_ret : vf C .mk P tab pl at' .ret st N E = E .mk .ret st := rfl
theorem vf_loop {c : Code} : vf C .mk P tab pl at' (.loop c) st N E = codeA C P (.loop c) st N E := rfl
end

section
variable {F : Fence} {n : Nat} {P : Pr} {tab : Tab} {pl : Nat → Plan} {at' : Nat}

theorem vf_run (hT : tab.Ok P) (hm : P.p.follows .mixedOrders = true) {C : Ctx} (hkn : P.know C.w0 C.X) (hF : WideF F) :
    ∀ (c : Code) (st : St) (N : Tok → St → Prop) (E : Tok → Exit → St → Prop), fits pl c = true → vf C .mk P tab pl at' c st N E → ∀ ρ w, Models C ρ st.h w → okS st.h.length st.t → c.wpIn F n P (QK C N E) (act ρ st) w := by
  intro c
  induction c with
  | skip => intro st N E _ h ρ w hM hok; exact wpIn_skip ⟨ρ, st, h, hM, hok, rfl⟩
  | label l => intro st N E _ h ρ w hM hok; exact wpIn_label ⟨ρ, st, h, hM, hok, rfl⟩
  | exit id => intro st N E _ h ρ w hM hok; exact wpIn_exit ⟨ρ, st, h, hM, hok, rfl⟩
  | ret => intro st N E _ h ρ w hM hok; exact wpIn_ret ⟨ρ, st, h, hM, hok, rfl⟩
  | region id ops draw =>
    intro st N E hf h ρ w hM hok
    let K : Tok → Slots → List Chunk → Prop := fun k t h => if id = at' then IntoA C ⟨t, h, st.d⟩ N else N k ⟨t, h, st.d⟩
    have hmono : ∀ e a w, (e = Exit.normal ∧ ∃ ρ t h, K .mk t h ∧ Models C ρ h w ∧ okS h.length t ∧ a = act ρ ⟨t, h, st.d⟩) → QK C N E e a w := by
      rintro e a w ⟨rfl, ρ, t, h, h1, h2, h3, h4⟩
      by_cases hi : id = at'
      · have h1' : IntoA C ⟨t, h, st.d⟩ N := by simpa only [K, hi, if_true] using h1
        obtain ⟨ρ', st', q1, q2, q3, q4⟩ := h1' ρ w h2 h3
        exact ⟨ρ', st', q1, q2, q3, h4.trans q4⟩
      · have h1' : N .mk ⟨t, h, st.d⟩ := by simpa only [K, hi, if_false] using h1
        exact ⟨ρ, _, h1', h2, h3, h4⟩
    cases draw with
    | false =>
      refine Code.wpIn_mono (fun e a w => hmono e a w) (wpIn_region_list ?_)
      exact rn_run hF hT hkn (K := K) (C := C) (fun ρ t h w hK hM hok => ⟨rfl, ρ, t, h, hK, hM, hok, rfl⟩) _ _ _ h ρ w hM hok
    | true =>
      refine Code.wpIn_mono (fun e a w => hmono e a w) (wpIn_region_any hm ?_)
      have hf' : planFit ops (pl id) = true := hf
      unfold planFit at hf'
      rw [Bool.and_eq_true] at hf'
      have hM' : Models C ρ st.h { w with drawn := w.drawn + 1 } := hM.same ⟨rfl, rfl, rfl, Nat.le_refl _, fun _ _ _ => rfl⟩
      exact wpAnyIn_of_G _ _ _ _ (rp_run hF hT hkn hf'.1 (K := K) (C := C) (fun ρ t h w hK hM hok => ⟨rfl, ρ, t, h, hK, hM, hok, rfl⟩) (fun c a w hx => by cases hx.1) (pl id) _ _ [] _ _ [] ρ _ (cl_none _) (by simp) hf'.2 h hM' hok
        (fun p hp => by cases hp))
  | seq a b iha ihb =>
    intro st N E hf h ρ w hM hok
    simp only [fits, Bool.and_eq_true] at hf
    refine wpIn_seq (Code.wpIn_mono ?_ (iha st _ E hf.1 h ρ w hM hok))
    rintro e a w ⟨ρ', st', hq, hM', hok', rfl⟩
    cases e with
    | normal => exact ihb st' N E hf.2 hq ρ' w hM' hok'
    | _ => exact ⟨ρ', st', hq, hM', hok', rfl⟩
  | cond c a b iha ihb =>
    intro st N E hf h ρ w hM hok
    simp only [fits, Bool.and_eq_true] at hf
    simp only [vf] at h
    split at h
    · rename_i x hx
      refine wpIn_cond_split (t := x) (by rw [act_eval ρ st hok, hx]; rfl) (fun ht => iha st N E hf.1 (h.1 ht) ρ w hM hok) (fun ht => ihb st N E hf.2 (h.2 ht) ρ w hM hok)
    · exact h.elim
  | block id c ih =>
    intro st N E hf h ρ w hM hok
    refine wpIn_block (Code.wpIn_mono ?_ (ih st N _ hf h ρ w hM hok))
    rintro e a w ⟨ρ', st', hq, hM', hok', rfl⟩
    cases e with
    | exit j =>
      simp only at hq
      simp only [Exit.inBlock]
      split
      · rename_i hj; rw [if_pos hj] at hq; exact ⟨ρ', st', hq, hM', hok', rfl⟩
      · rename_i hj; rw [if_neg hj] at hq; exact ⟨ρ', st', hq, hM', hok', rfl⟩
    | _ => exact ⟨ρ', st', hq, hM', hok', rfl⟩
  | loop c ih => intro st N E hf h ρ w hM hok; exact h hkn ρ w F n hF hM hok
  | _ => intro st N E hf h; exact h.elim

theorem codeA_of_vf (hT : tab.Ok P) (hm : P.p.follows .mixedOrders = true) {C : Ctx} {c : Code} (at' : Nat) (hf : fits pl c = true) {st : St} {N : Tok → St → Prop} {E : Tok → Exit → St → Prop} (h : vf C .mk P tab pl at' c st N E) : codeA C P c st N E :=
  fun hkn ρ w F n hF hM hok => vf_run hT hm hkn hF c st N E hf h ρ w hM hok

theorem codeA_loop (hT : tab.Ok P) (hm : P.p.follows .mixedOrders = true) {C : Ctx} {c : Code} (at' : Nat) (hfit : fits pl c = true) {st : St} {N : Tok → St → Prop} {E : Tok → Exit → St → Prop} (I : Nat → St → Prop)
    (h0 : IntoA C st (fun _ s => ∃ n, I n s)) (hr : ∀ n s, I n s → vf C .mk P tab pl at' c s (fun _ s' => IntoA C s' (fun _ s'' => ∃ m, m < n ∧ I m s'')) fun k e s' => e ≠ .normal ∧ E k e s') : codeA C P (.loop c) st N E := by
  intro hkn ρ w F n hF hM hok
  obtain ⟨ρ', st', ⟨n0, hI⟩, hM', hok', he⟩ := h0 ρ w hM hok
  rw [he]
  refine wpIn_loop_ghost (fun n a w => ∃ ρ st, I n st ∧ Models C ρ st.h w ∧ okS st.h.length st.t ∧ a = act ρ st) n0 ⟨ρ', st', hI, hM', hok', rfl⟩ ?_
  rintro k a w ⟨ρ1, s1, hI1, hM1, hok1, rfl⟩
  refine Code.wpIn_mono ?_ (vf_run hT hm hkn hF c s1 _ _ hfit (hr k s1 hI1) ρ1 w hM1 hok1)
  rintro e a w ⟨ρ2, s2, hq, hM2, hok2, rfl⟩
  cases e with
  | normal =>
    obtain ⟨ρ3, s3, ⟨m, hlt, hI3⟩, hM3, hok3, he3⟩ := hq ρ2 w hM2 hok2
    exact ⟨m, hlt, ρ3, s3, hI3, hM3, hok3, he3⟩
  | exit id => exact ⟨ρ2, s2, hq.2, hM2, hok2, rfl⟩
  | goto id => exact ⟨ρ2, s2, hq.2, hM2, hok2, rfl⟩
  | ret => exact ⟨ρ2, s2, hq.2, hM2, hok2, rfl⟩
  | panic id => exact ⟨ρ2, s2, hq.2, hM2, hok2, rfl⟩
  | outgrown => exact ⟨ρ2, s2, hq.2, hM2, hok2, rfl⟩
end

/-- A row of the start's memory gets a name. -/
theorem Models.focus {C : Ctx} {ρ : Env} {H : List Chunk} {w : World} (hM : Models C ρ H w) {pl : Place} (hX : ¬ C.X pl.b) {n s : Nat} {f : Nat → SV} (hlt : pl.nil = false → pl.b < C.w0.heap.size)
    (hh : ∀ ρ k, ρ k = pl → Holds ρ C.w0 k (.row false n s f)) (hg : Chunk.good 0 (.row false n s f)) : Models C (upd ρ H.length pl) (H ++ [.row false n s f]) w := by
  have ha := agree_upd ρ H.length pl
  have hg1 : Chunk.good (H.length + 1) (.row false n s f) := good_mono (Nat.zero_le _) hg
  refine ⟨hM.keep, fun k hk => (ha k (Nat.lt_of_lt_of_le hk hM.len)).trans (hM.agree k hk), by have := hM.len; simp; omega, ?_, ?_, ?_, ?_, ?_⟩
  · intro k c hc
    rcases append_get hc with h1 | ⟨rfl, rfl⟩
    · exact holds_agree ha (get_lt h1) (hM.okc k c h1) (hM.holds k c h1)
    · have h2 := hh (upd ρ H.length pl) H.length (upd_self _ _ _)
      refine holds_block (fun hn => ?_) h2
      rw [upd_self] at hn ⊢
      exact hM.keep.block _ (hlt hn) hX
  · intro k c hc
    rcases append_get hc with h1 | ⟨rfl, rfl⟩
    · exact good_mono (by simp) (hM.okc k c h1)
    · simpa using hg1
  · intro k c hc hr
    rcases append_get hc with h1 | ⟨rfl, rfl⟩
    · rw [ha k (get_lt h1)]; exact hM.size k c h1 (real_agree ha (get_lt h1) hr)
    · have hn := hr.2
      rw [upd_self] at hn ⊢
      exact Nat.lt_of_lt_of_le (hlt hn) hM.keep.size
  · intro k c hc hr
    rcases append_get hc with h1 | ⟨rfl, rfl⟩
    · rw [ha k (get_lt h1)]; exact hM.wr k c h1 (realW_agree ha (get_lt h1) hr)
    · exact absurd hr.1 (by simp [Chunk.wr])
  · intro k k' c1 c2 h1 h2 hne hw hl
    rcases append_get h1 with q1 | ⟨rfl, rfl⟩
    · rcases append_get h2 with q2 | ⟨rfl, rfl⟩
      · rw [ha k (get_lt q1), ha k' (get_lt q2)]; exact hM.sep k k' c1 c2 q1 q2 hne (realW_agree ha (get_lt q1) hw) (real_agree ha (get_lt q2) hl)
      · have hn := hl.2
        rw [upd_self] at hn
        rw [ha k (get_lt q1), upd_self]
        intro e
        have h3 := (hM.wr k c1 q1 (realW_agree ha (get_lt q1) hw)).resolve_left (by rw [e]; exact hX)
        have h4 := hlt hn
        omega
    · exact absurd hw.1 (by simp [Chunk.wr])

theorem focus {C : Ctx} {t : Slots} {h : List Chunk} {J : Tok → St → Prop} (pl : Place) (hX : ¬ C.X pl.b) (n : Nat) (f : Nat → SV) (i : Nat) (x : Value) (hi : i < t.n) (hx : slot t i = .v x) (hlt : pl.nil = false → pl.b < C.w0.heap.size)
    (hh : ∀ ρ k, ρ k = pl → x = den ρ (.osl k 0 0 1 n) ∧ Holds ρ C.w0 k (.row false n 1 f)) (hg : Chunk.good 0 (.row false n 1 f)) (hJ : J .mk ⟨⟨t.n, (i, .osl h.length 0 0 1 n) :: t.l, t.j⟩, h ++ [.row false n 1 f], []⟩) : IntoA C ⟨t, h, []⟩ J := by
  intro ρ w hM hok
  have ha := agree_upd ρ h.length pl
  refine ⟨upd ρ h.length pl, _, hJ, hM.focus hX hlt (fun ρ k hk => (hh ρ k hk).2) hg, ?_, ?_⟩
  · have h1 := okS_mono (show h.length ≤ (h ++ [Chunk.row false n 1 f]).length by simp) hok
    have h2 := okS_put (d := i) (v := .osl h.length 0 0 1 n) h1 (by simp [ok])
    unfold putS at h2
    rw [if_pos hi] at h2
    exact h2
  · simp only [act]
    congr 1
    congr 1
    unfold tmpsD
    apply List.map_congr_left
    intro k hk
    rw [List.mem_range] at hk
    show den ρ (slot t k) = den (upd ρ h.length pl) (lkL ((i, .osl h.length 0 0 1 n) :: t.l) t.j k)
    simp only [lkL]
    split
    · rename_i e
      rw [← e, hx]
      exact (hh (upd ρ h.length pl) h.length (upd_self _ _ _)).1
    · exact (den_agree ha _ (ok_slot t k hok)).symm

/-- A loop that is left in one way; what stands behind it is shown once. -/
theorem codeA_loop_end {P : Pr} {tab : Tab} {pl : Nat → Plan} (hT : tab.Ok P) (hm : P.p.follows .mixedOrders = true) {C : Ctx} {c : Code} (at' x : Nat) (hfit : fits pl c = true) {st : St} {N : Tok → St → Prop} {E : Tok → Exit → St → Prop} (Fn : St → Prop) (I : Nat → St → Prop)
    (hE : ∀ s, Fn s → E .mk (.exit x) s) (h0 : IntoA C st (fun _ s => ∃ n, I n s))
    (hr : ∀ n s, I n s → vf C .mk P tab pl at' c s (fun _ s' => IntoA C s' (fun _ s'' => ∃ m, m < n ∧ I m s'')) fun k e s' => match e with
      | .exit j => j = x ∧ IntoA C s' (fun _ s => Fn s)
      | e => e ≠ .normal ∧ E k e s') : codeA C P (.loop c) st N E := by
  intro hkn ρ w F n hF hM hok
  obtain ⟨ρ', st', ⟨n0, hI⟩, hM', hok', he⟩ := h0 ρ w hM hok
  rw [he]
  refine wpIn_loop_ghost (fun n a w => ∃ ρ st, I n st ∧ Models C ρ st.h w ∧ okS st.h.length st.t ∧ a = act ρ st) n0 ⟨ρ', st', hI, hM', hok', rfl⟩ ?_
  rintro k a w ⟨ρ1, s1, hI1, hM1, hok1, rfl⟩
  refine Code.wpIn_mono ?_ (vf_run hT hm hkn hF c s1 _ _ hfit (hr k s1 hI1) ρ1 w hM1 hok1)
  rintro e a w ⟨ρ2, s2, hq, hM2, hok2, rfl⟩
  cases e with
  | normal =>
    obtain ⟨ρ3, s3, ⟨m, hlt, hI3⟩, hM3, hok3, he3⟩ := hq ρ2 w hM2 hok2
    exact ⟨m, hlt, ρ3, s3, hI3, hM3, hok3, he3⟩
  | exit id =>
    obtain ⟨rfl, h2⟩ := hq
    obtain ⟨ρ3, s3, h3, hM3, hok3, he3⟩ := h2 ρ2 w hM2 hok2
    exact ⟨ρ3, s3, hE s3 h3, hM3, hok3, he3⟩
  | goto id => exact ⟨ρ2, s2, hq.2, hM2, hok2, rfl⟩
  | ret => exact ⟨ρ2, s2, hq.2, hM2, hok2, rfl⟩
  | panic id => exact ⟨ρ2, s2, hq.2, hM2, hok2, rfl⟩
  | outgrown => exact ⟨ρ2, s2, hq.2, hM2, hok2, rfl⟩

/-- From a walk at one start to the statement of a row. -/
theorem calls_of_codeA {P : Program} {tab : Tab} (hT : tab.Ok P) {f : FuncId} {fn : Func} {c : Code} (hf : P.funcs[f]? = some fn) (hb : fn.body = some c) {args : List SV} {h : List Chunk} {ρ : Env} {w : World} {b : Bool}
    (hM : Models (Ctx.start w ρ h.length) ρ h w) (ha : okL h.length args) (hn : args.length ≤ fn.ntmps)
    (hv : codeA (Ctx.start w ρ h.length) (Pr.of P) c ⟨⟨fn.ntmps, argsL 0 args, fun _ => undef⟩, h, []⟩ (fun _ st => st.d = [] ∧ resS tab st.t st.h (fun l => tupS l = .bool b) fn.results.toList)
      (fun _ e st => e = .ret ∧ st.d = [] ∧ resS tab st.t st.h (fun l => tupS l = .bool b) fn.results.toList)) :
    Calls P f (denL ρ args).toArray w fun e w' => e = .returned (.bool b) ∧ Below w.heap.size w w' := by
  refine callsIn_wide.1 (?_ : CallsIn Fence.wide 0 P f (denL ρ args).toArray w _)
  have hF : WideF Fence.wide := ⟨fun _ => trivial, rfl⟩
  have hok : okS h.length ⟨fn.ntmps, argsL 0 args, fun _ => undef⟩ := ⟨fun _ _ => rfl, argsL_ok args 0 fn.ntmps ha (by omega)⟩
  have hw := hv trivial ρ w Fence.wide 0 hF hM hok
  have hinit : ({ tmps := (denL ρ args).toArray ++ Array.replicate (fn.ntmps - (denL ρ args).toArray.size) undef, defers := [] } : Act) = act ρ ⟨⟨fn.ntmps, argsL 0 args, fun _ => undef⟩, h, []⟩ := by
    simp only [act]
    congr 1
    apply Array.ext'
    simp only [Array.toList_append, Array.toList_replicate, List.size_toArray, denL_length, tmpsD]
    apply List.ext_getElem?
    intro i
    rw [List.getElem?_map]
    rcases Nat.lt_or_ge i fn.ntmps with hi | hi
    · rw [List.getElem?_range hi, Option.map_some]
      show _ = some (den ρ (lkL (argsL 0 args) (fun _ => undef) i))
      rw [argsL_get ρ args 0 i (by omega)]
      rcases Nat.lt_or_ge i args.length with h1 | h1
      · rw [List.getElem?_append_left (by rw [denL_length]; exact h1), Nat.sub_zero, ← den_look, List.getElem?_eq_getElem (by rw [denL_length]; exact h1)]
        rfl
      · rw [List.getElem?_append_right (by rw [denL_length]; exact h1), denL_length, List.getElem?_replicate, if_pos (by omega), Nat.sub_zero, ← den_look, List.getElem?_eq_none (by rw [denL_length]; exact h1)]
        rfl
    · rw [List.getElem?_eq_none (by simp [denL_length]; omega), List.getElem?_eq_none (by simpa using hi)]
      rfl
  refine callsIn_of_wp hf hb (hF.fn f) ?_ rfl
  rw [hinit]
  refine Code.wpIn_mono ?_ hw
  have fin : ∀ (ρ' : Env) (st' : St) (w' : World), st'.d = [] → resS tab st'.t st'.h (fun l => tupS l = .bool b) fn.results.toList → Models (Ctx.start w ρ h.length) ρ' st'.h w' → okS st'.h.length st'.t →
      (act ρ' st').defers = [] ∧ ∃ v, (results fn (act ρ' st').tmps).run P w' = .ok v w' ∧ ((Ending.returned v = .returned (.bool b)) ∧ Below w.heap.size w w') := by
    intro ρ' st' w' hd hr hM2 hok2
    obtain ⟨v, h1, h3, h4⟩ := results_run (P := Pr.of P) hT hM2 hok2 (K := fun v => v = .bool b) hr
    subst h1
    exact ⟨hd, _, h4, rfl, hM2.keep.os, hM2.keep.tape, hM2.keep.output, hM2.keep.size, fun k hk => hM2.keep.block k hk fun h => h⟩
  rintro e a w' ⟨ρ', st', hq, hM2, hok2, rfl⟩
  cases e with
  | normal => exact fin ρ' st' w' hq.1 hq.2 hM2 hok2
  | ret => exact fin ρ' st' w' hq.2.1 hq.2.2 hM2 hok2
  | _ => exact absurd hq.1 (by simp)

theorem calls_of_codeK {P : Pr} {tab : Tab} (hT : tab.Ok P) {f : FuncId} {fn : Func} {c : Code} (hf : P.p.funcs[f]? = some fn) (hb : fn.body = some c) {args : List SV} {h : List Chunk} {ρ : Env} {w : World} {b : Bool}
    (hM : Models (Ctx.start w ρ h.length) ρ h w) (ha : okL h.length args) (hn : args.length ≤ fn.ntmps) (hkn : P.know w fun _ => False)
    (hv : codeA (Ctx.start w ρ h.length) P c ⟨⟨fn.ntmps, argsL 0 args, fun _ => undef⟩, h, []⟩ (fun _ st => st.d = [] ∧ resS tab st.t st.h (fun l => tupS l = .bool b) fn.results.toList)
      (fun _ e st => e = .ret ∧ st.d = [] ∧ resS tab st.t st.h (fun l => tupS l = .bool b) fn.results.toList)) :
    Calls P f (denL ρ args).toArray w fun e w' => e = .returned (.bool b) ∧ Below w.heap.size w w' := by
  refine callsIn_wide.1 (?_ : CallsIn Fence.wide 0 P f (denL ρ args).toArray w _)
  have hF : WideF Fence.wide := ⟨fun _ => trivial, rfl⟩
  have hok : okS h.length ⟨fn.ntmps, argsL 0 args, fun _ => undef⟩ := ⟨fun _ _ => rfl, argsL_ok args 0 fn.ntmps ha (by omega)⟩
  have hw := hv hkn ρ w Fence.wide 0 hF hM hok
  have hinit : ({ tmps := (denL ρ args).toArray ++ Array.replicate (fn.ntmps - (denL ρ args).toArray.size) undef, defers := [] } : Act) = act ρ ⟨⟨fn.ntmps, argsL 0 args, fun _ => undef⟩, h, []⟩ := by
    simp only [act]
    congr 1
    apply Array.ext'
    simp only [Array.toList_append, Array.toList_replicate, List.size_toArray, denL_length, tmpsD]
    apply List.ext_getElem?
    intro i
    rw [List.getElem?_map]
    rcases Nat.lt_or_ge i fn.ntmps with hi | hi
    · rw [List.getElem?_range hi, Option.map_some]
      show _ = some (den ρ (lkL (argsL 0 args) (fun _ => undef) i))
      rw [argsL_get ρ args 0 i (by omega)]
      rcases Nat.lt_or_ge i args.length with h1 | h1
      · rw [List.getElem?_append_left (by rw [denL_length]; exact h1), Nat.sub_zero, ← den_look, List.getElem?_eq_getElem (by rw [denL_length]; exact h1)]
        rfl
      · rw [List.getElem?_append_right (by rw [denL_length]; exact h1), denL_length, List.getElem?_replicate, if_pos (by omega), Nat.sub_zero, ← den_look, List.getElem?_eq_none (by rw [denL_length]; exact h1)]
        rfl
    · rw [List.getElem?_eq_none (by simp [denL_length]; omega), List.getElem?_eq_none (by simpa using hi)]
      rfl
  refine callsIn_of_wp hf hb (hF.fn f) ?_ rfl
  rw [hinit]
  refine Code.wpIn_mono ?_ hw
  have fin : ∀ (ρ' : Env) (st' : St) (w' : World), st'.d = [] → resS tab st'.t st'.h (fun l => tupS l = .bool b) fn.results.toList → Models (Ctx.start w ρ h.length) ρ' st'.h w' → okS st'.h.length st'.t →
      (act ρ' st').defers = [] ∧ ∃ v, (results fn (act ρ' st').tmps).run P w' = .ok v w' ∧ ((Ending.returned v = .returned (.bool b)) ∧ Below w.heap.size w w') := by
    intro ρ' st' w' hd hr hM2 hok2
    obtain ⟨v, h1, h3, h4⟩ := results_run hT hM2 hok2 (K := fun v => v = .bool b) hr
    subst h1
    exact ⟨hd, _, h4, rfl, hM2.keep.os, hM2.keep.tape, hM2.keep.output, hM2.keep.size, fun k hk => hM2.keep.block k hk fun h => h⟩
  rintro e a w' ⟨ρ', st', hq, hM2, hok2, rfl⟩
  cases e with
  | normal => exact fin ρ' st' w' hq.1 hq.2 hM2 hok2
  | ret => exact fin ρ' st' w' hq.2.1 hq.2.2 hM2 hok2
  | _ => exact absurd hq.1 (by simp)

/-- What holds at each start holds. -/
theorem codeP_of_A {P : Pr} {nf : Nat} {c : Code} {st : St} {N : Tok → St → Prop} {E : Tok → Exit → St → Prop} (h : ∀ C : Ctx, P.know C.w0 C.X → C.n0 ≤ nf → codeA C P c st N E) : codeP P nf c st N E :=
  fun C ρ w F n hF hC hkn hM hok => h C hkn hC hkn ρ w F n hF hM hok
/-- The rules in one. -/
def vfB := And.intro @vf_skip (And.intro @vf_label (And.intro @vf_plain (And.intro @vf_drawn (And.intro @vf_seq (And.intro @vf_cond (And.intro @vf_block (And.intro @vf_exit (And.intro @vf_ret (@vf_loop)))))))))
end Go.Sx
