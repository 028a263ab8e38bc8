/- A walk at one start that may stop within a region. No condition. -/
import Derived.Test.YtloinbebkhcndaaSxv
set_option linter.all false
namespace Go.Sx
open Go.RowKit

/-- As rn_run, where more operations follow. -/
theorem rn_run2 {F : Fence} {n : Nat} {P : Pr} {ops : Array Oper} {tab : Tab} (hF : WideF F) (hT : tab.Ok P) {C : Ctx} (hkn : P.know C.w0 C.X) {d : List Deferred} {K : Tok → Slots → List Chunk → Prop} {Q : Exit → Act → World → Prop} {l2 : List Oper}
    (hQ : ∀ ρ t h w, K .mk t h → Models C ρ h w → okS h.length t → wpListIn F n P ops Q l2 (act ρ ⟨t, h, d⟩) w) :
    ∀ (l : List Oper) (t : Slots) (h : List Chunk), rn .mk P tab ops l t h K → ∀ ρ w, Models C ρ h w → okS h.length t → wpListIn F n P ops Q (l ++ l2) (act ρ ⟨t, h, d⟩) w
  | [], t, h, hr, ρ, w, hM, hok => hQ ρ t h w hr hM hok
  | o :: l, t, h, hr, ρ, w, hM, hok => by
    simp only [rn] at hr
    simp only [List.cons_append, wpListIn]
    refine gd_run (ρ := ρ) (st := ⟨t, h, d⟩) hr hok ?_ ?_
    · intro t' hy he hok' hw
      rw [if_pos hw]
      have e : act ρ ⟨t, h, d⟩ = act ρ ⟨t', h, d⟩ := by simp only [act, he]
      rw [e]
      refine opP_run (st := ⟨t', h, d⟩) hF hT hkn hy hM hok' ?_
      intro ρ' sv h' w' hK hM' ha hs hl
      exact rn_run2 hF hT hkn hQ l _ h' hK ρ' w' hM' (okS_putO (okS_mono hl hok') hs)
    · intro t' hno he hok' hw
      rw [if_neg (by rw [hw]; simp)]
      have e : act ρ ⟨t, h, d⟩ = act ρ ⟨t', h, d⟩ := by simp only [act, he]
      rw [e, show (undef : Value) = den ρ (.tup []) from rfl, act_put]
      exact ⟨fun f _ => hF.fn f, rn_run2 hF hT hkn hQ l _ h hno ρ w hM (okS_putO hok' trivial)⟩

/-- As vc, at one start; behind the region of that number the state may be taken for another one. -/
def vg (C : Ctx) (k : Tok) (P : Pr) (tab : Tab) (pl : Nat → Plan) (at' : Nat → Option Nat) : Code → St → (Tok → St → Prop) → (Tok → Exit → St → Prop) → Prop
  | .skip, st, N, _ => N .mk st
  | .label _, st, N, _ => N .mk st
  | .region id ops false, st, N, _ => match at' id with
    | none => rn k P tab ops ops.toList st.t st.h fun k t h => N k ⟨t, h, st.d⟩
    | some m => rn k P tab ops (ops.toList.take m) st.t st.h fun _ t h => IntoA C ⟨t, h, st.d⟩ fun k st' => rn k P tab ops (ops.toList.drop m) st'.t st'.h fun k t h => N k ⟨t, h, st'.d⟩
  | .region id ops true, st, N, _ => rp k P tab ops (pl id) [] st.t st.h fun k t h => N k ⟨t, h, st.d⟩
  | .seq a b, st, N, E => vg C k P tab pl at' a st (fun k st => vg C k P tab pl at' b st N E) E
  | .cond c a b, st, N, E => match ev st.t c with
    | .bool x => imp (x = true) (vg C k P tab pl at' a st N E) ∧ imp (x = false) (vg C k P tab pl at' b st N E)
    | _ => False
  | .block id c, st, N, E => vg C k P tab pl at' c st N fun k e st => match e with
    | .exit j => if j = id then N k st else E k (.exit j) st
    | e => E k e st
  | .exit id, st, _, E => E .mk (.exit id) st
  | .ret, st, _, E => E .mk .ret st
  | .loop c, st, N, E => codeA C P (.loop c) st N E
  | _, _, _, _ => False

section
variable {P : Pr} {tab : Tab} {pl : Nat → Plan} {C : Ctx} {at' : Nat → Option Nat} {st : St} {N : Tok → St → Prop} {E : Tok → Exit → St → Prop}
theorem vg_skip : vg C .mk P tab pl at' .skip st N E = N .mk st := rfl
theorem vg_label {l : Nat} : vg C .mk P tab pl at' (.label l) st N E = N .mk st := rfl
theorem vg_plain {id : Nat} {l : List Oper} {t : Slots} {h : List Chunk} {d : List Deferred} : vg C .mk P tab pl at' (.region id l.toArray false) ⟨t, h, d⟩ N E = match at' id with
    | none => rn .mk P tab l.toArray l t h fun k t h => N k ⟨t, h, d⟩
    | some m => rn .mk P tab l.toArray (l.take m) t h fun _ t h => IntoA C ⟨t, h, d⟩ fun k st' => rn k P tab l.toArray (l.drop m) st'.t st'.h fun k t h => N k ⟨t, h, st'.d⟩ := rfl
theorem vg_drawn {id : Nat} {ops : Array Oper} {t : Slots} {h : List Chunk} {d : List Deferred} : vg C .mk P tab pl at' (.region id ops true) ⟨t, h, d⟩ N E = rp .mk P tab ops (pl id) [] t h fun k t h => N k ⟨t, h, d⟩ := rfl
theorem vg_seq {a b : Code} : vg C .mk P tab pl at' (.seq a b) st N E = vg C .mk P tab pl at' a st (fun k st => vg C k P tab pl at' b st N E) E := rfl
theorem vg_cond {c : Operand} {a b : Code} : vg C .mk P tab pl at' (.cond c a b) st N E = (match ev st.t c with
    | .bool x => imp (x = true) (vg C .mk P tab pl at' a st N E) ∧ imp (x = false) (vg C .mk P tab pl at' b st N E)
    | _ => False) := rfl
theorem vg_block {id : Nat} {c : Code} : vg C .mk P tab pl at' (.block id c) st N E = vg C .mk P tab pl at' c st N fun k e st => match e with
    | .exit j => if j = id then N k st else E k (.exit j) st
    | e => E k e st := rfl
theorem vg_exit {id : Nat} : vg C .mk P tab pl at' (.exit id) st N E = E .mk (.exit id) st := rfl
theorem vg_ret : vg C .mk P tab pl at' .ret st N E = E .mk .ret st := rfl
theorem vg_loop {c : Code} : vg C .mk P tab pl at' (.loop c) st N E = codeA C P (.loop c) st N E := rfl
end

section
variable {F : Fence} {n : Nat} {P : Pr} {tab : Tab} {pl : Nat → Plan} {at' : Nat → Option Nat}

theorem vg_run (hT : tab.Ok P) (hm : P.p.follows .mixedOrders = true) {C : Ctx} (hkn : P.know C.w0 C.X) (hF : WideF F) :
    ∀ (c : Code) (st : St) (N : Tok → St → Prop) (E : Tok → Exit → St → Prop), fits pl c = true → vg C .mk P tab pl at' c st N E → ∀ ρ w, Models C ρ st.h w → okS st.h.length st.t → c.wpIn F n P (QK C N E) (act ρ st) w := by
  intro c
  induction c with
  | skip => intro st N E _ h ρ w hM hok; exact wpIn_skip ⟨ρ, st, h, hM, hok, rfl⟩
  | label l => intro st N E _ h ρ w hM hok; exact wpIn_label ⟨ρ, st, h, hM, hok, rfl⟩
  | exit id => intro st N E _ h ρ w hM hok; exact wpIn_exit ⟨ρ, st, h, hM, hok, rfl⟩
  | ret => intro st N E _ h ρ w hM hok; exact wpIn_ret ⟨ρ, st, h, hM, hok, rfl⟩
  | region id ops draw =>
    intro st N E hf h ρ w hM hok
    have hmono : ∀ (d : List Deferred) e a w, (e = Exit.normal ∧ ∃ ρ t h, N .mk ⟨t, h, d⟩ ∧ Models C ρ h w ∧ okS h.length t ∧ a = act ρ ⟨t, h, d⟩) → QK C N E e a w := by
      rintro d e a w ⟨rfl, ρ, t, h, h1, h2, h3, h4⟩
      exact ⟨ρ, _, h1, h2, h3, h4⟩
    cases draw with
    | false =>
      simp only [vg] at h
      split at h
      · refine Code.wpIn_mono (fun e a w => hmono st.d e a w) (wpIn_region_list ?_)
        exact rn_run hF hT hkn (K := fun k t h => N k ⟨t, h, st.d⟩) (C := C) (fun ρ t h w hK hM hok => ⟨rfl, ρ, t, h, hK, hM, hok, rfl⟩) _ _ _ h ρ w hM hok
      · rename_i m _
        refine wpIn_region_list ?_
        have e := List.take_append_drop m ops.toList
        rw [← e]
        refine rn_run2 hF hT hkn (C := C) (d := st.d) (fun ρ1 t1 h1 w1 hI hM1 hok1 => ?_) _ _ _ h ρ w hM hok
        obtain ⟨ρ', st', q1, q2, q3, q4⟩ := hI ρ1 w1 hM1 hok1
        rw [q4]
        exact rn_run hF hT hkn (K := fun k t h => N k ⟨t, h, st'.d⟩) (C := C) (d := st'.d) (fun ρ t h w hK hM hok => hmono st'.d _ _ _ ⟨rfl, ρ, t, h, hK, hM, hok, rfl⟩) _ _ _ q1 ρ' w1 q2 q3
    | true =>
      refine Code.wpIn_mono (fun e a w => hmono st.d e a w) (wpIn_region_any hm ?_)
      have hf' : planFit ops (pl id) = true := hf
      unfold planFit at hf'
      rw [Bool.and_eq_true] at hf'
      have hM' : Models C ρ st.h { w with drawn := w.drawn + 1 } := hM.same ⟨rfl, rfl, rfl, Nat.le_refl _, fun _ _ _ => rfl⟩
      exact wpAnyIn_of_G _ _ _ _ (rp_run hF hT hkn hf'.1 (K := fun k t h => N k ⟨t, h, st.d⟩) (C := C) (fun ρ t h w hK hM hok => ⟨rfl, ρ, t, h, hK, hM, hok, rfl⟩) (fun c a w hx => by cases hx.1) (pl id) _ _ [] _ _ [] ρ _ (cl_none _) (by simp) hf'.2 h hM' hok
        (fun p hp => by cases hp))
  | seq a b iha ihb =>
    intro st N E hf h ρ w hM hok
    simp only [fits, Bool.and_eq_true] at hf
    refine wpIn_seq (Code.wpIn_mono ?_ (iha st _ E hf.1 h ρ w hM hok))
    rintro e a w ⟨ρ', st', hq, hM', hok', rfl⟩
    cases e with
    | normal => exact ihb st' N E hf.2 hq ρ' w hM' hok'
    | _ => exact ⟨ρ', st', hq, hM', hok', rfl⟩
  | cond c a b iha ihb =>
    intro st N E hf h ρ w hM hok
    simp only [fits, Bool.and_eq_true] at hf
    simp only [vg] at h
    split at h
    · rename_i x hx
      refine wpIn_cond_split (t := x) (by rw [act_eval ρ st hok, hx]; rfl) (fun ht => iha st N E hf.1 (h.1 ht) ρ w hM hok) (fun ht => ihb st N E hf.2 (h.2 ht) ρ w hM hok)
    · exact h.elim
  | block id c ih =>
    intro st N E hf h ρ w hM hok
    refine wpIn_block (Code.wpIn_mono ?_ (ih st N _ hf h ρ w hM hok))
    rintro e a w ⟨ρ', st', hq, hM', hok', rfl⟩
    cases e with
    | exit j =>
      simp only at hq
      simp only [Exit.inBlock]
      split
      · rename_i hj; rw [if_pos hj] at hq; exact ⟨ρ', st', hq, hM', hok', rfl⟩
      · rename_i hj; rw [if_neg hj] at hq; exact ⟨ρ', st', hq, hM', hok', rfl⟩
    | _ => exact ⟨ρ', st', hq, hM', hok', rfl⟩
  | loop c ih => intro st N E hf h ρ w hM hok; exact h hkn ρ w F n hF hM hok
  | _ => intro st N E hf h; exact h.elim

theorem codeA_of_vg (hT : tab.Ok P) (hm : P.p.follows .mixedOrders = true) {C : Ctx} {c : Code} (at' : Nat → Option Nat) (hf : fits pl c = true) {st : St} {N : Tok → St → Prop} {E : Tok → Exit → St → Prop} (h : vg C .mk P tab pl at' c st N E) : codeA C P c st N E :=
  fun hkn ρ w F n hF hM hok => vg_run hT hm hkn hF c st N E hf h ρ w hM hok

theorem codeA_loop_g (hT : tab.Ok P) (hm : P.p.follows .mixedOrders = true) {C : Ctx} {c : Code} (at' : Nat → Option Nat) (hfit : fits pl c = true) {st : St} {N : Tok → St → Prop} {E : Tok → Exit → St → Prop} (I : Nat → St → Prop)
    (h0 : IntoA C st (fun _ s => ∃ n, I n s)) (hr : ∀ n s, I n s → vg C .mk P tab pl at' c s (fun _ s' => IntoA C s' (fun _ s'' => ∃ m, m < n ∧ I m s'')) fun k e s' => e ≠ .normal ∧ E k e s') : codeA C P (.loop c) st N E := by
  intro hkn ρ w F n hF hM hok
  obtain ⟨ρ', st', ⟨n0, hI⟩, hM', hok', he⟩ := h0 ρ w hM hok
  rw [he]
  refine wpIn_loop_ghost (fun n a w => ∃ ρ st, I n st ∧ Models C ρ st.h w ∧ okS st.h.length st.t ∧ a = act ρ st) n0 ⟨ρ', st', hI, hM', hok', rfl⟩ ?_
  rintro k a w ⟨ρ1, s1, hI1, hM1, hok1, rfl⟩
  refine Code.wpIn_mono ?_ (vg_run hT hm hkn hF c s1 _ _ hfit (hr k s1 hI1) ρ1 w hM1 hok1)
  rintro e a w ⟨ρ2, s2, hq, hM2, hok2, rfl⟩
  cases e with
  | normal =>
    obtain ⟨ρ3, s3, ⟨m, hlt, hI3⟩, hM3, hok3, he3⟩ := hq ρ2 w hM2 hok2
    exact ⟨m, hlt, ρ3, s3, hI3, hM3, hok3, he3⟩
  | exit id => exact ⟨ρ2, s2, hq.2, hM2, hok2, rfl⟩
  | goto id => exact ⟨ρ2, s2, hq.2, hM2, hok2, rfl⟩
  | ret => exact ⟨ρ2, s2, hq.2, hM2, hok2, rfl⟩
  | panic id => exact ⟨ρ2, s2, hq.2, hM2, hok2, rfl⟩
  | outgrown => exact ⟨ρ2, s2, hq.2, hM2, hok2, rfl⟩
end

/-- A loop that is left in one way; what stands behind it is shown once. -/
theorem codeA_loop_end_g {P : Pr} {tab : Tab} {pl : Nat → Plan} (hT : tab.Ok P) (hm : P.p.follows .mixedOrders = true) {C : Ctx} {c : Code} (at' : Nat → Option Nat) (x : Nat) (hfit : fits pl c = true) {st : St} {N : Tok → St → Prop} {E : Tok → Exit → St → Prop} (Fn : St → Prop) (I : Nat → St → Prop)
    (hE : ∀ s, Fn s → E .mk (.exit x) s) (h0 : IntoA C st (fun _ s => ∃ n, I n s))
    (hr : ∀ n s, I n s → vg C .mk P tab pl at' c s (fun _ s' => IntoA C s' (fun _ s'' => ∃ m, m < n ∧ I m s'')) fun k e s' => match e with
      | .exit j => j = x ∧ IntoA C s' (fun _ s => Fn s)
      | e => e ≠ .normal ∧ E k e s') : codeA C P (.loop c) st N E := by
  intro hkn ρ w F n hF hM hok
  obtain ⟨ρ', st', ⟨n0, hI⟩, hM', hok', he⟩ := h0 ρ w hM hok
  rw [he]
  refine wpIn_loop_ghost (fun n a w => ∃ ρ st, I n st ∧ Models C ρ st.h w ∧ okS st.h.length st.t ∧ a = act ρ st) n0 ⟨ρ', st', hI, hM', hok', rfl⟩ ?_
  rintro k a w ⟨ρ1, s1, hI1, hM1, hok1, rfl⟩
  refine Code.wpIn_mono ?_ (vg_run hT hm hkn hF c s1 _ _ hfit (hr k s1 hI1) ρ1 w hM1 hok1)
  rintro e a w ⟨ρ2, s2, hq, hM2, hok2, rfl⟩
  cases e with
  | normal =>
    obtain ⟨ρ3, s3, ⟨m, hlt, hI3⟩, hM3, hok3, he3⟩ := hq ρ2 w hM2 hok2
    exact ⟨m, hlt, ρ3, s3, hI3, hM3, hok3, he3⟩
  | exit id =>
    obtain ⟨rfl, h2⟩ := hq
    obtain ⟨ρ3, s3, h3, hM3, hok3, he3⟩ := h2 ρ2 w hM2 hok2
    exact ⟨ρ3, s3, hE s3 h3, hM3, hok3, he3⟩
  | goto id => exact ⟨ρ2, s2, hq.2, hM2, hok2, rfl⟩
  | ret => exact ⟨ρ2, s2, hq.2, hM2, hok2, rfl⟩
  | panic id => exact ⟨ρ2, s2, hq.2, hM2, hok2, rfl⟩
  | outgrown => exact ⟨ρ2, s2, hq.2, hM2, hok2, rfl⟩

section
variable {P : Pr} {C : Ctx} {st : St} {N : Tok → St → Prop} {E : Tok → Exit → St → Prop}
/-- A cut: behind a the state is one of Mid. -/
theorem codeA_seq {a b : Code} (Mid : St → Prop) (ha : codeA C P a st (fun _ s => IntoA C s fun _ s => Mid s) E) (hb : ∀ s, Mid s → codeA C P b s N E) : codeA C P (.seq a b) st N E := by
  intro hkn ρ w F n hF hM hok
  refine wpIn_seq (Code.wpIn_mono ?_ (ha hkn ρ w F n hF hM hok))
  rintro e a w ⟨ρ', st', hq, hM', hok', rfl⟩
  cases e with
  | normal =>
    obtain ⟨ρ3, s3, hJ, hM3, hok3, he3⟩ := hq ρ' w hM' hok'
    rw [he3]
    exact hb s3 hJ hkn ρ3 w F n hF hM3 hok3
  | exit id => exact ⟨ρ', st', hq, hM', hok', rfl⟩
  | goto id => exact ⟨ρ', st', hq, hM', hok', rfl⟩
  | ret => exact ⟨ρ', st', hq, hM', hok', rfl⟩
  | panic id => exact ⟨ρ', st', hq, hM', hok', rfl⟩
  | outgrown => exact ⟨ρ', st', hq, hM', hok', rfl⟩

theorem codeA_block {id : Nat} {c : Code} (h : codeA C P c st N fun k e st => match e with
    | .exit j => if j = id then N k st else E k (.exit j) st
    | e => E k e st) : codeA C P (.block id c) st N E := by
  intro hkn ρ w F n hF hM hok
  refine wpIn_block (Code.wpIn_mono ?_ (h hkn ρ w F n hF hM hok))
  rintro e a w ⟨ρ', st', hq, hM', hok', rfl⟩
  cases e with
  | exit j =>
    simp only at hq
    simp only [Exit.inBlock]
    split
    · rename_i hj; rw [if_pos hj] at hq; exact ⟨ρ', st', hq, hM', hok', rfl⟩
    · rename_i hj; rw [if_neg hj] at hq; exact ⟨ρ', st', hq, hM', hok', rfl⟩
  | _ => exact ⟨ρ', st', hq, hM', hok', rfl⟩

/-- A loop whose round is walked in parts. -/
theorem codeA_loop_c {c : Code} (x : Nat) (Fn : St → Prop) (I : Nat → St → Prop) (hE : ∀ s, Fn s → E .mk (.exit x) s) (h0 : IntoA C st (fun _ s => ∃ n, I n s))
    (hr : ∀ n s, I n s → codeA C P c s (fun _ s' => IntoA C s' (fun _ s'' => ∃ m, m < n ∧ I m s'')) fun k e s' => match e with
      | .exit j => j = x ∧ IntoA C s' (fun _ s => Fn s)
      | e => e ≠ .normal ∧ E k e s') : codeA C P (.loop c) st N E := by
  intro hkn ρ w F n hF hM hok
  obtain ⟨ρ', st', ⟨n0, hI⟩, hM', hok', he⟩ := h0 ρ w hM hok
  rw [he]
  refine wpIn_loop_ghost (fun n a w => ∃ ρ st, I n st ∧ Models C ρ st.h w ∧ okS st.h.length st.t ∧ a = act ρ st) n0 ⟨ρ', st', hI, hM', hok', rfl⟩ ?_
  rintro k a w ⟨ρ1, s1, hI1, hM1, hok1, rfl⟩
  refine Code.wpIn_mono ?_ (hr k s1 hI1 hkn ρ1 w F n hF hM1 hok1)
  rintro e a w ⟨ρ2, s2, hq, hM2, hok2, rfl⟩
  cases e with
  | normal =>
    obtain ⟨ρ3, s3, ⟨m, hlt, hI3⟩, hM3, hok3, he3⟩ := hq ρ2 w hM2 hok2
    exact ⟨m, hlt, ρ3, s3, hI3, hM3, hok3, he3⟩
  | exit id =>
    obtain ⟨rfl, h2⟩ := hq
    obtain ⟨ρ3, s3, h3, hM3, hok3, he3⟩ := h2 ρ2 w hM2 hok2
    exact ⟨ρ3, s3, hE s3 h3, hM3, hok3, he3⟩
  | goto id => exact ⟨ρ2, s2, hq.2, hM2, hok2, rfl⟩
  | ret => exact ⟨ρ2, s2, hq.2, hM2, hok2, rfl⟩
  | panic id => exact ⟨ρ2, s2, hq.2, hM2, hok2, rfl⟩
  | outgrown => exact ⟨ρ2, s2, hq.2, hM2, hok2, rfl⟩
end
/-- The rules in one. -/
def vgB := And.intro @vg_skip (And.intro @vg_label (And.intro @vg_plain (And.intro @vg_drawn (And.intro @vg_seq (And.intro @vg_cond (And.intro @vg_block (And.intro @vg_exit (And.intro @vg_ret (@vg_loop)))))))))
end Go.Sx
