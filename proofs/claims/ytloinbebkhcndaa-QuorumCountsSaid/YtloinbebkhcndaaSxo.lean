/- Code, symbolically; what a function's body says of its calls. No condition. -/
import Derived.Test.YtloinbebkhcndaaSxn
set_option linter.all false
namespace Go.Sx
open Go.RowKit
variable {P : Pr}

/-- What the ends of a piece of code are to meet. -/
def QK (C : Ctx) (N : Tok → St → Prop) (E : Tok → Exit → St → Prop) (e : Exit) (a : Act) (w : World) : Prop :=
  ∃ ρ st, (match e with | .normal => N .mk st | e => E .mk e st) ∧ Models C ρ st.h w ∧ okS st.h.length st.t ∧ a = act ρ st

/-- A loop (or a statement that is met by its meaning). -/
def codeP (P : Pr) (nf : Nat) (c : Code) (st : St) (N : Tok → St → Prop) (E : Tok → Exit → St → Prop) : Prop :=
  ∀ (C : Ctx) (ρ : Env) (w : World) (F : Fence) (n : Nat), WideF F → C.n0 ≤ nf → P.know C.w0 C.X → Models C ρ st.h w → okS st.h.length st.t → c.wpIn F n P (QK C N E) (act ρ st) w

def vc (k : Tok) (P : Pr) (tab : Tab) (nf : Nat) (pl : Nat → Plan) : Code → St → (Tok → St → Prop) → (Tok → Exit → St → Prop) → Prop
  | .skip, st, N, _ => N .mk st
  | .label _, st, N, _ => N .mk st
  | .region _ ops false, st, N, _ => rn k P tab ops ops.toList st.t st.h fun k t h => N k ⟨t, h, st.d⟩
  | .region id ops true, st, N, _ => rp k P tab ops (pl id) [] st.t st.h fun k t h => N k ⟨t, h, st.d⟩
  | .seq a b, st, N, E => vc k P tab nf pl a st (fun k st => vc k P tab nf pl b st N E) E
  | .cond c a b, st, N, E => match ev st.t c with
    | .bool x => imp (x = true) (vc k P tab nf pl a st N E) ∧ imp (x = false) (vc k P tab nf pl b st N E)
    | _ => False
  | .block id c, st, N, E => vc k P tab nf pl c st N fun k e st => match e with
    | .exit j => if j = id then N k st else E k (.exit j) st
    | e => E k e st
  | .exit id, st, _, E => E .mk (.exit id) st
  | .ret, st, _, E => E .mk .ret st
  | .loop c, st, N, E => codeP P nf (.loop c) st N E
  | .rangeFunc f ps a b, st, N, E => codeP P nf (.rangeFunc f ps a b) st N E
  | _, _, _, _ => False

def fits (pl : Nat → Plan) : Code → Bool
  | .region id ops true => planFit ops (pl id)
  | .seq a b => fits pl a && fits pl b
  | .cond _ a b => fits pl a && fits pl b
  | .block _ c => fits pl c
  | .loop c => fits pl c
  | .rangeFunc _ _ a b => fits pl a && fits pl b
  | .scope c => fits pl c
  | _ => true

section
variable {F : Fence} {n : Nat} {tab : Tab} {nf : Nat} {pl : Nat → Plan}

theorem vc_run (hT : tab.Ok P) (hm : P.p.follows .mixedOrders = true) {C : Ctx} (hC : C.n0 ≤ nf) (hkn : P.know C.w0 C.X) (hF : WideF F) :
    ∀ (c : Code) (st : St) (N : Tok → St → Prop) (E : Tok → Exit → St → Prop), fits pl c = true → vc .mk P tab nf pl c st N E → ∀ ρ w, Models C ρ st.h w → okS st.h.length st.t → c.wpIn F n P (QK C N E) (act ρ st) w := by
  intro c
  induction c with
  | skip => intro st N E _ h ρ w hM hok; exact wpIn_skip ⟨ρ, st, h, hM, hok, rfl⟩
  | label l => intro st N E _ h ρ w hM hok; exact wpIn_label ⟨ρ, st, h, hM, hok, rfl⟩
  | exit id => intro st N E _ h ρ w hM hok; exact wpIn_exit ⟨ρ, st, h, hM, hok, rfl⟩
  | ret => intro st N E _ h ρ w hM hok; exact wpIn_ret ⟨ρ, st, h, hM, hok, rfl⟩
  | region id ops draw =>
    intro st N E hf h ρ w hM hok
    have hmono : ∀ e a w, (e = Exit.normal ∧ ∃ ρ t h, N .mk ⟨t, h, st.d⟩ ∧ Models C ρ h w ∧ okS h.length t ∧ a = act ρ ⟨t, h, st.d⟩) → QK C N E e a w := by
      rintro e a w ⟨rfl, ρ, t, h, h1, h2, h3, h4⟩
      exact ⟨ρ, _, h1, h2, h3, h4⟩
    cases draw with
    | false =>
      refine Code.wpIn_mono (fun e a w => hmono e a w) (wpIn_region_list ?_)
      exact rn_run hF hT hkn (K := fun k t h => N k ⟨t, h, st.d⟩) (C := C) (fun ρ t h w hK hM hok => ⟨rfl, ρ, t, h, hK, hM, hok, rfl⟩) _ _ _ h ρ w hM hok
    | true =>
      refine Code.wpIn_mono (fun e a w => hmono e a w) (wpIn_region_any hm ?_)
      have hf' : planFit ops (pl id) = true := hf
      unfold planFit at hf'
      rw [Bool.and_eq_true] at hf'
      have hM' : Models C ρ st.h { w with drawn := w.drawn + 1 } := hM.same ⟨rfl, rfl, rfl, Nat.le_refl _, fun _ _ _ => rfl⟩
      exact wpAnyIn_of_G _ _ _ _ (rp_run hF hT hkn hf'.1 (K := fun k t h => N k ⟨t, h, st.d⟩) (C := C) (fun ρ t h w hK hM hok => ⟨rfl, ρ, t, h, hK, hM, hok, rfl⟩) (fun c a w hx => by cases hx.1) (pl id) _ _ [] _ _ [] ρ _ (cl_none _) (by simp) hf'.2 h hM' hok
        (fun p hp => by cases hp))
  | seq a b iha ihb =>
    intro st N E hf h ρ w hM hok
    simp only [fits, Bool.and_eq_true] at hf
    refine wpIn_seq (Code.wpIn_mono ?_ (iha st _ E hf.1 h ρ w hM hok))
    rintro e a w ⟨ρ', st', hq, hM', hok', rfl⟩
    cases e with
    | normal => exact ihb st' N E hf.2 hq ρ' w hM' hok'
    | _ => exact ⟨ρ', st', hq, hM', hok', rfl⟩
  | cond c a b iha ihb =>
    intro st N E hf h ρ w hM hok
    simp only [fits, Bool.and_eq_true] at hf
    simp only [vc] at h
    split at h
    · rename_i x hx
      refine wpIn_cond_split (t := x) (by rw [act_eval ρ st hok, hx]; rfl) (fun ht => iha st N E hf.1 (h.1 ht) ρ w hM hok) (fun ht => ihb st N E hf.2 (h.2 ht) ρ w hM hok)
    · exact h.elim
  | block id c ih =>
    intro st N E hf h ρ w hM hok
    refine wpIn_block (Code.wpIn_mono ?_ (ih st N _ hf h ρ w hM hok))
    rintro e a w ⟨ρ', st', hq, hM', hok', rfl⟩
    cases e with
    | exit j =>
      simp only at hq
      simp only [Exit.inBlock]
      split
      · rename_i hj; rw [if_pos hj] at hq; exact ⟨ρ', st', hq, hM', hok', rfl⟩
      · rename_i hj; rw [if_neg hj] at hq; exact ⟨ρ', st', hq, hM', hok', rfl⟩
    | _ => exact ⟨ρ', st', hq, hM', hok', rfl⟩
  | loop c ih => intro st N E hf h ρ w hM hok; exact h C ρ w F n hF hC hkn hM hok
  | rangeFunc f ps a b iha ihb => intro st N E hf h ρ w hM hok; exact h C ρ w F n hF hC hkn hM hok
  | _ => intro st N E hf h; exact h.elim
end

/-- A function's results. -/
def resS (tab : Tab) (t : Slots) (h : List Chunk) (K : List SV → Prop) : List ResultVar → Prop
  | [] => K []
  | .tmp i :: r => resS tab t h (fun l => K (slot t i :: l)) r
  | .cell a ty :: r => match tab ty with
    | some e => match ldS h e (slot t a) with
      | some (p, v) => p ∧ resS tab t h (fun l => K (v :: l)) r
      | none => False
    | none => False
def tupS : List SV → SV
  | [v] => v
  | l => .tup l

theorem resS_run {tab : Tab} (hT : tab.Ok P) {C : Ctx} {ρ : Env} {h : List Chunk} {w : World} (hM : Models C ρ h w) {t : Slots} (hok : okS h.length t) :
    ∀ (rs : List ResultVar) (K : List SV → Prop), resS tab t h K rs → ∃ l, K l ∧ okL h.length l ∧
      ((rs.mapM fun | .tmp i => pure (((tmpsD ρ t).toArray).getD i undef) | .cell a ty => do loadVar ty (← asAddr (((tmpsD ρ t).toArray).getD a undef)) : Sem (List Value))).run P w = .ok (denL ρ l) w
  | [], K, h => ⟨[], h, trivial, by simp [denL]⟩
  | .tmp i :: rs, K, h => by
    obtain ⟨l, h1, h2, h3⟩ := resS_run hT hM hok rs _ h
    refine ⟨slot t i :: l, h1, ⟨ok_slot t i hok, h2⟩, ?_⟩
    rw [List.mapM_cons]
    have e1 : ((tmpsD ρ t).toArray).getD i undef = den ρ (slot t i) := by
      rw [← tmpsD_get ρ hok]; simp [Array.getD_eq_getD_getElem?]
    simp only [Sem.run_bind, Sem.run_pure, Result.andThen_ok, h3, e1, denL]
  | .cell a ty :: rs, K, h => by
    simp only [resS] at h
    split at h
    · rename_i e he
      split at h
      · rename_i p v hl
        obtain ⟨l, h1, h2, h3⟩ := resS_run hT hM hok rs _ h.2
        obtain ⟨q1, q2⟩ := ldS_run (hT _ _ he) (ρ := ρ) (w := w) (n := _) (fun k _ => lookH_holds hM k) (lookH_good hM) hl h.1
        refine ⟨v :: l, h1, ⟨q2, h2⟩, ?_⟩
        rw [List.mapM_cons]
        have e1 : ((tmpsD ρ t).toArray).getD a undef = den ρ (slot t a) := by
          rw [← tmpsD_get ρ hok]; simp [Array.getD_eq_getD_getElem?]
        have q3 : (do loadVar ty (← asAddr (den ρ (slot t a))) : Sem Value).run P w = .ok (den ρ v) w := by
          revert q1
          generalize den ρ (slot t a) = x
          intro q1
          cases x with
          | pointer o =>
            cases o with
            | none => simp [Instr.loadAt, Instr.sureAddr, stuck, Sem.run] at q1
            | some a => simpa [Instr.loadAt, Instr.sureAddr, asAddr] using q1
          | _ => simp [Instr.loadAt, Instr.sureAddr, stuck, Sem.run] at q1
        simp only [e1, Sem.run_bind] at q3 ⊢
        rw [q3]
        simp only [Result.andThen_ok, h3, Sem.run_pure, denL]
      · exact h.elim
    · exact h.elim

theorem results_run {tab : Tab} (hT : tab.Ok P) {C : Ctx} {ρ : Env} {h : List Chunk} {w : World} (hM : Models C ρ h w) {t : Slots} (hok : okS h.length t) {fn : Func} {K : SV → Prop}
    (hr : resS tab t h (fun l => K (tupS l)) fn.results.toList) : ∃ v, K v ∧ ok h.length v ∧ (results fn (tmpsD ρ t).toArray).run P w = .ok (den ρ v) w := by
  obtain ⟨l, h1, h2, h3⟩ := resS_run hT hM hok _ _ hr
  refine ⟨tupS l, h1, ?_, ?_⟩
  · match l, h2 with
    | [], _ => trivial
    | [v], h2 => exact h2.1
    | a :: b :: l, h2 => exact h2
  · unfold results
    rw [Array.mapM_eq_mapM_toList, map_eq_pure_bind]
    simp only [Sem.run_bind] at h3 ⊢
    erw [h3]
    simp only [Result.andThen_ok, Sem.run_pure]
    match l, h2 with
    | [], _ => rfl
    | [v], h2 => rfl
    | a :: b :: l, h2 =>
      have hne : ¬ (denL ρ (a :: b :: l)).toArray.size = 1 := by simp [denL]
      rw [dif_neg hne]
      rfl

end Go.Sx
