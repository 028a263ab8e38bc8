/- Regions, plain and drawn: symbolically. No condition. -/
import Derived.Test.YtloinbebkhcndaaSxl
import Derived.TacticsIn
set_option linter.all false
namespace Go.Sx
open Go.RowKit

/-- A program, and what is known of a walk's start, of memory that the walk may not write. -/
structure Pr where
  p : Program
  know : World → (Nat → Prop) → Prop
  keep : ∀ {w0 w : World} {X Y : Nat → Prop}, know w0 X → Keep X w0 w → (∀ b, Y b → X b ∨ w0.heap.size ≤ b) → know w Y
instance : CoeOut Pr Program := ⟨Pr.p⟩
@[reducible] def Pr.of (P : Program) : Pr := ⟨P, fun _ _ => True, fun _ _ _ => trivial⟩
instance : Coe Program Pr := ⟨Pr.of⟩
variable {P : Pr}

/-- What a call's end says. -/
def Ret (C : Ctx) (h : List Chunk) (ρ : Env) (K : SV → List Chunk → Prop) (e : Ending) (w : World) : Prop :=
  ∃ ρ' sv h', e = .returned (den ρ' sv) ∧ K sv h' ∧ Models C ρ' h' w ∧ Agree h.length ρ ρ' ∧ ok h'.length sv ∧ h.length ≤ h'.length

/-- A mark: what stands under it is not looked at ahead of its time. -/
inductive Tok where
  | mk
  | no

/-- A call of f at these arguments, in this heap: each way of it ends in K. -/
def callP (P : Pr) (f : FuncId) (args : List SV) (h : List Chunk) (K : Tok → SV → List Chunk → Prop) : Prop :=
  ∀ (C : Ctx) (ρ : Env) (w : World), P.know C.w0 C.X → Models C ρ h w → okL h.length args →
    GoesOp P C h ρ w ((callFunc f (denL ρ args).toArray).run P w) (K .mk) ∨
    ((callFunc f (denL ρ args).toArray).run P w = .ok (.enter f (denL ρ args).toArray) w ∧
      ∀ (F : Fence) (n : Nat), WideF F → F.round = none → CallsIn F n P f (denL ρ args).toArray w (Ret C h ρ (K .mk)))

/-- One operation. -/
def opP (P : Pr) (tab : Tab) (t : Slots) (h : List Chunk) (o : Op) (K : Tok → SV → List Chunk → Prop) : Prop :=
  match o with
  | .call ⟨.value g, ⟨args⟩, _⟩ => match ev t g with
    | .fn (.func f) first cap => callP P f (first ++ args.map (ev t) ++ cap) h K
    | _ => False
  | .defer _ => False
  | o => match qv tab t h o with
    | some (p, v) => p ∧ K .mk v h
    | none => ef tab t h o (K .mk)

def imp (a b : Prop) : Prop := a → b

/-- A guard: held, or not. -/
def gd (ops : Array Oper) (t : Slots) (g : Option (Nat × Bool)) (yes no : Slots → Prop) : Prop :=
  match g with
  | none => yes t
  | some (j, want) => match ops[j]? with
    | none => False
    | some oj => match oj.dst with
      | none => False
      | some d => match slot t d with
        | .bool b => imp (b = want) (yes (putS t d (.bool want))) ∧ imp (b = !want) (no (putS t d (.bool (!want))))
        | .tup [] => True ∧ no t
        | _ => False

def rn (k : Tok) (P : Pr) (tab : Tab) (ops : Array Oper) : List Oper → Slots → List Chunk → (Tok → Slots → List Chunk → Prop) → Prop
  | [], t, h, K => K .mk t h
  | o :: r, t, h, K => gd ops t o.guard (fun t => opP P tab t h o.op fun k v h' => rn k P tab ops r (putO t o.dst v) h' K) (fun t => rn k P tab ops r (putO t o.dst (.tup [])) h K)

/-- The order in which a drawn region is looked at: quiet operations; those that turn something, alone ready or one of two. -/
inductive Plan where
  | nil
  | q (i : Nat) (p : Plan)
  | e1 (i : Nat) (ws : List Nat) (p : Plan)
  | e2 (i : Nat) (ws : List Nat) (p : Plan) (j : Nat) (ws' : List Nat) (p' : Plan)

def inL : List Nat → Nat → Bool
  | [], _ => false
  | x :: l, k => if x = k then true else inL l k
def same1 (h h' : List Chunk) : List Nat → Prop
  | [] => True
  | nm :: ns => lookH h' nm = lookH h nm ∧ same1 h h' ns
/-- What has been read and is not waited for by the operation stays. -/
def stays (ws : List Nat) (h h' : List Chunk) : List (Nat × List Nat) → Prop
  | [] => True
  | (_, []) :: r => stays ws h h' r
  | (k, nm :: ns) :: r => (match inL ws k with | true => True | false => same1 h h' (nm :: ns)) ∧ stays ws h h' r

def rp (k : Tok) (P : Pr) (tab : Tab) (ops : Array Oper) : Plan → List (Nat × List Nat) → Slots → List Chunk → (Tok → Slots → List Chunk → Prop) → Prop
  | .nil, _, t, h, K => K .mk t h
  | .q i p, rd, t, h, K => match ops[i]? with
    | some o => gd ops t o.guard (fun t => match qv tab t h o.op with
        | some (c, v) => c ∧ rp k P tab ops p ((i, qn t o.op) :: rd) (putO t o.dst v) h K
        | none => False) (fun t => rp k P tab ops p rd (putO t o.dst (.tup [])) h K)
    | none => False
  | .e1 i ws p, rd, t, h, K => match ops[i]? with
    | some o => gd ops t o.guard (fun t => opP P tab t h o.op fun k v h' => stays ws h h' rd ∧ rp k P tab ops p rd (putO t o.dst v) h' K) (fun t => rp k P tab ops p rd (putO t o.dst (.tup [])) h K)
    | none => False
  | .e2 i ws p j ws' p', rd, t, h, K =>
    (match ops[i]? with
    | some o => gd ops t o.guard (fun t => opP P tab t h o.op fun k v h' => stays ws h h' rd ∧ rp k P tab ops p rd (putO t o.dst v) h' K) (fun t => rp k P tab ops p rd (putO t o.dst (.tup [])) h K)
    | none => False) ∧
    (match ops[j]? with
    | some o => gd ops t o.guard (fun t => opP P tab t h o.op fun k v h' => stays ws' h h' rd ∧ rp k P tab ops p' rd (putO t o.dst v) h' K) (fun t => rp k P tab ops p' rd (putO t o.dst (.tup [])) h K)
    | none => False)

section
variable {F : Fence} {n : Nat} {ops : Array Oper} {tab : Tab}

theorem agree_trans {n m : Nat} {a b c : Env} (h : Agree n a b) (h' : Agree m b c) (hle : n ≤ m) : Agree n a c := fun k hk => (h' k (by omega)).trans (h k hk)

/-- What one operation may count on behind it. -/
def Onward (C : Ctx) (ρ : Env) (st : St) (dst : Option Nat) (K : SV → List Chunk → Prop) (next : Act → World → Prop) : Prop :=
  ∀ ρ' sv h' w', K sv h' → Models C ρ' h' w' → Agree st.h.length ρ ρ' → ok h'.length sv → st.h.length ≤ h'.length → next (act ρ' { st with t := putO st.t dst sv, h := h' }) w'

theorem act_agree {ρ ρ' : Env} {st : St} (hok : okS st.h.length st.t) (ha : Agree st.h.length ρ ρ') (h' : List Chunk) : act ρ st = act ρ' { st with h := h' } := by
  simp only [act, tmpsD_agree ha hok]

theorem act_next {ρ ρ' : Env} {st : St} (hok : okS st.h.length st.t) (ha : Agree st.h.length ρ ρ') (d : Option Nat) (sv : SV) (h' : List Chunk) :
    (act ρ st).put d (den ρ' sv) = act ρ' { st with t := putO st.t d sv, h := h' } := by
  rw [act_agree hok ha h', act_put]

theorem okS_putO {n : Nat} {t : Slots} {d : Option Nat} {v : SV} (h : okS n t) (hv : ok n v) : okS n (putO t d v) := by
  cases d with
  | none => exact h
  | some d => exact okS_put h hv

theorem goes_upon {C : Ctx} {ρ : Env} {st : St} {o : Oper} {w : World} {K : SV → List Chunk → Prop} {next : Act → World → Prop} {Q : Exit → Act → World → Prop} {r : Result Next}
    (hok : okS st.h.length st.t) (hg : GoesOp P C st.h ρ w r K) (hn : Onward C ρ st o.dst K next) : o.uponIn F n P (act ρ st) next Q r := by
  obtain ⟨w', ρ', sv, h', hr, hK, hM, ha, hs, hl⟩ := hg
  rcases hr with rfl | ⟨rfl, rfl⟩
  · simp only [Oper.uponIn]
    rw [act_next hok ha o.dst sv h']
    exact hn ρ' sv h' w' hK hM ha hs hl
  · simp only [Oper.uponIn]
    rw [show (undef : Value) = den ρ' (.tup []) from rfl, act_next hok ha o.dst _ h']
    exact hn ρ' _ h' w' hK hM ha hs hl

theorem lookH_good {C : Ctx} {ρ : Env} {H : List Chunk} {w : World} (hM : Models C ρ H w) (k : Nat) : (lookH H k).good H.length := by
  cases hc : lookH H k with
  | none => trivial
  | _ => rw [← hc]; exact hM.okc k _ (lookH_some rfl (by rw [hc]; simp))
theorem lookH_holds {C : Ctx} {ρ : Env} {H : List Chunk} {w : World} (hM : Models C ρ H w) (k : Nat) : Holds ρ w k (lookH H k) := by
  cases hc : lookH H k with
  | none => trivial
  | _ => rw [← hc]; exact hM.holds k _ (lookH_some rfl (by rw [hc]; simp))

theorem opP_run {C : Ctx} {ρ : Env} {st : St} {o : Oper} {w : World} {K : Tok → SV → List Chunk → Prop} {next : Act → World → Prop} {Q : Exit → Act → World → Prop}
    (hF : WideF F) (hT : tab.Ok P) (hkn : P.know C.w0 C.X) (h : opP P tab st.t st.h o.op K) (hM : Models C ρ st.h w) (hok : okS st.h.length st.t) (hn : Onward C ρ st o.dst (K .mk) next) :
    o.wpIn F n P (act ρ st) w next Q := by
  refine ⟨fun f _ => hF.fn f, ?_⟩
  unfold opP at h
  split at h
  · rename_i op g args tys hop
    rw [Oper.semAt_eq F.round _ o (by simp [hop])]
    split at h
    · rename_i f first cap hg
      have hoe := ok_ev st.t g hok
      rw [hg] at hoe
      simp only [ok] at hoe
      have hargs : okL st.h.length (first ++ args.map (ev st.t) ++ cap) := okL_append.2 ⟨okL_append.2 ⟨hoe.1, okL_map_ev hok args⟩, hoe.2⟩
      have hrun : (execOp (act ρ st).eval o).run P w = (callFunc f (denL ρ (first ++ args.map (ev st.t) ++ cap)).toArray).run P w := by
        unfold execOp
        simp only [hop, resolve, act_eval ρ st hok, hg, den, Deferred.ofValue, Sem.run_bind, Sem.run_pure, Result.andThen_ok, invoke]
        congr 2
        simp only [denL_append, denL_map_ev ρ st hok]
        apply Array.ext'
        simp
      rw [hrun]
      rcases h C ρ w hkn hM hargs with hg' | ⟨he, hc⟩
      · exact goes_upon hok hg' hn
      · rw [he]
        simp only [Oper.uponIn]
        refine ⟨fun hd => absurd hd (by rw [hF.depth]; simp), ?_⟩
        have := hc { F with round := none } (n - 1) ⟨hF.fn, hF.depth⟩ rfl
        have h2 : CallsIn F (n - 1) P f (denL ρ (first ++ args.map (ev st.t) ++ cap)).toArray w (Ret C st.h ρ (K .mk)) := this
        refine CallsIn.mono h2 ?_
        rintro e w' ⟨ρ', sv, h', rfl, hK, hM', ha, hs, hl⟩
        simp only
        rw [act_next hok ha o.dst sv h']
        exact hn ρ' sv h' w' hK hM' ha hs hl
    · exact h.elim
  · exact h.elim
  · rename_i op hnc hnd
    rw [Oper.semAt_eq F.round _ o (fun c hc => hnd c hc)]
    split at h
    · rename_i p v hq
      obtain ⟨h1, h2⟩ := qv_run hT hq h.1 ρ hok w (fun k _ => lookH_holds hM k) (lookH_good hM)
      rw [h1]
      simp only [Oper.uponIn]
      rw [act_put]
      exact hn ρ v st.h w h.2 hM (fun _ _ => rfl) h2 (Nat.le_refl _)
    · exact goes_upon hok (ef_run hT h hM hok) hn

theorem put_same (ρ : Env) (t : Slots) (d : Nat) (b : Bool) (h : slot t d = .bool b) : tmpsD ρ (putS t d (.bool b)) = tmpsD ρ t := by
  unfold tmpsD
  rw [n_put]
  apply List.map_congr_left
  intro i hi
  rw [List.mem_range] at hi
  rw [slot_put _ _ _ _ hi]
  split
  · rename_i hd; subst hd; rw [h]
  · rfl

theorem yielded_look {ρ : Env} {st : St} {m : Nat} (hok : okS m st.t) {j d : Nat} {oj : Oper} (hj : ops[j]? = some oj) (hd : oj.dst = some d) :
    yielded ops (act ρ st).tmps j = match den ρ (slot st.t d) with | .bool b => some b | _ => none := by
  unfold yielded
  simp only [hj, Option.bind_some, hd, act]
  have h1 := tmpsD_get ρ hok d
  rw [← h1]
  simp only [List.getElem?_toArray]
  cases hx : (tmpsD ρ st.t)[d]? with
  | none => simp [undef]
  | some x => cases x <;> simp

/-- A guard, symbolically. -/
theorem gd_run {ρ : Env} {st : St} {o : Oper} {yes no : Slots → Prop} {R : Prop} (h : gd ops st.t o.guard yes no) (hok : okS st.h.length st.t)
    (hy : ∀ t, yes t → tmpsD ρ t = tmpsD ρ st.t → okS st.h.length t → Region.wanted o (yielded ops (act ρ st).tmps) = true → R)
    (hno : ∀ t, no t → tmpsD ρ t = tmpsD ρ st.t → okS st.h.length t → Region.wanted o (yielded ops (act ρ st).tmps) = false → R) : R := by
  unfold gd at h
  split at h
  · rename_i hg
    exact hy _ h rfl hok (by simp [Region.wanted, hg])
  · rename_i j want hg
    split at h
    · exact h.elim
    · rename_i oj hj
      split at h
      · exact h.elim
      · rename_i d hd
        have hyl := yielded_look (ops := ops) (ρ := ρ) (st := st) hok hj hd
        split at h
        · rename_i b hb
          rw [hb] at hyl
          simp only [den] at hyl
          by_cases hbw : b = want
          · subst hbw
            exact hy _ (h.1 rfl) (put_same ρ st.t d b hb) (okS_put hok trivial) (by simp [Region.wanted, hg, hyl])
          · have hbw' : b = !want := by cases b <;> cases want <;> simp_all
            refine hno _ (h.2 hbw') ?_ (okS_put hok trivial) ?_
            · rw [← hbw']; exact put_same ρ st.t d b hb
            · subst hbw'
              simp only [Region.wanted, hg, hyl]
              cases want <;> rfl
        · rename_i hb
          rw [hb] at hyl
          exact hno _ h.2 rfl hok (by simp only [Region.wanted, hg, hyl]; simp [den])
        · exact h.elim

theorem rn_run (hF : WideF F) (hT : tab.Ok P) {C : Ctx} (hkn : P.know C.w0 C.X) {d : List Deferred} {K : Tok → Slots → List Chunk → Prop} {Q : Exit → Act → World → Prop}
    (hQ : ∀ ρ t h w, K .mk t h → Models C ρ h w → okS h.length t → Q .normal (act ρ ⟨t, h, d⟩) w) :
    ∀ (l : List Oper) (t : Slots) (h : List Chunk), rn .mk P tab ops l t h K → ∀ ρ w, Models C ρ h w → okS h.length t → wpListIn F n P ops Q l (act ρ ⟨t, h, d⟩) w
  | [], t, h, hr, ρ, w, hM, hok => hQ ρ t h w hr hM hok
  | o :: l, t, h, hr, ρ, w, hM, hok => by
    simp only [rn] at hr
    simp only [wpListIn]
    refine gd_run (ρ := ρ) (st := ⟨t, h, d⟩) hr hok ?_ ?_
    · intro t' hy he hok' hw
      rw [if_pos hw]
      have e : act ρ ⟨t, h, d⟩ = act ρ ⟨t', h, d⟩ := by simp only [act, he]
      rw [e]
      refine opP_run (st := ⟨t', h, d⟩) hF hT hkn hy hM hok' ?_
      intro ρ' sv h' w' hK hM' ha hs hl
      exact rn_run hF hT hkn hQ l _ h' hK ρ' w' hM' (okS_putO (okS_mono hl hok') hs)
    · intro t' hno he hok' hw
      rw [if_neg (by rw [hw]; simp)]
      have e : act ρ ⟨t, h, d⟩ = act ρ ⟨t', h, d⟩ := by simp only [act, he]
      rw [e, show (undef : Value) = den ρ (.tup []) from rfl, act_put]
      exact ⟨fun f _ => hF.fn f, rn_run hF hT hkn hQ l _ h hno ρ w hM (okS_putO hok' trivial)⟩
end
end Go.Sx
