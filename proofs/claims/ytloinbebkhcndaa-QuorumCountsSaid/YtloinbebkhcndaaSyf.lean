/- The rules of walks between whose steps rounds come, for simp at the mark. No condition. -/
import Derived.Test.YtloinbebkhcndaaSye
set_option linter.all false
namespace Go.Sx
open Go.RowKit
variable {P : Pr}
section
variable {tab : Tab} {nf : Nat} {pl : Nat → Plan} {S : Sq} {g : Gh} {t : Slots} {h : List Chunk} {N : Tok → Gh → Slots → List Chunk → Prop} {E : Tok → Gh → Exit → Slots → List Chunk → Prop} {ops : Array Oper} {K : Tok → Gh → Slots → List Chunk → Prop}
theorem vcY_skip : vcY .mk P tab nf pl S .skip g t h N E = N .mk g t h := rfl
theorem vcY_label {l : Nat} : vcY .mk P tab nf pl S (.label l) g t h N E = N .mk g t h := rfl
theorem vcY_plain {id : Nat} {l : List Oper} : vcY .mk P tab nf pl S (.region id l.toArray false) g t h N E = rnY .mk P tab S l.toArray l g t h fun k g t h => N k g t h := rfl
theorem vcY_drawn {id : Nat} : vcY .mk P tab nf pl S (.region id ops true) g t h N E = rpY .mk P tab S ops (pl id) [] g t h fun k g t h => N k g t h := rfl
theorem vcY_seq {a b : Code} : vcY .mk P tab nf pl S (.seq a b) g t h N E = vcY .mk P tab nf pl S a g t h (fun k g t h => vcY k P tab nf pl S b g t h N E) E := rfl
theorem vcY_cond {c : Operand} {a b : Code} : vcY .mk P tab nf pl S (.cond c a b) g t h N E = (match ev t c with
    | .bool x => imp (x = true) (vcY .mk P tab nf pl S a g t h N E) ∧ imp (x = false) (vcY .mk P tab nf pl S b g t h N E)
    | _ => False) := rfl
theorem vcY_block {id : Nat} {c : Code} : vcY .mk P tab nf pl S (.block id c) g t h N E = vcY .mk P tab nf pl S c g t h N fun k g e t h => match e with
    | .exit j => if j = id then N k g t h else E k g (.exit j) t h
    | e => E k g e t h := rfl
theorem vcY_exit {id : Nat} : vcY .mk P tab nf pl S (.exit id) g t h N E = E .mk g (.exit id) t h := rfl
theorem vcY_ret : vcY .mk P tab nf pl S .ret g t h N E = E .mk g .ret t h := rfl
theorem vcY_loop {c : Code} : vcY .mk P tab nf pl S (.loop c) g t h N E = codeY P nf S (.loop c) g t h (N .mk) (E .mk) := rfl
theorem vcY_range {f : Operand} {ps : Array Tmp} {a b : Code} : vcY .mk P tab nf pl S (.rangeFunc f ps a b) g t h N E = codeY P nf S (.rangeFunc f ps a b) g t h (N .mk) (E .mk) := rfl
theorem rnY_nil : rnY .mk P tab S ops [] g t h K = K .mk g t h := rfl
theorem rnY_cons {o : Oper} {r : List Oper} : rnY .mk P tab S ops (o :: r) g t h K = gd ops t o.guard (fun t => opY P tab S g t h o.op fun k g v h' => rnY k P tab S ops r g (putO t o.dst v) h' K) (fun t => rnY .mk P tab S ops r g (putO t o.dst (.tup [])) h K) := rfl
variable {rd : List (Nat × List Nat)}
theorem rpY_nil : rpY .mk P tab S ops .nil rd g t h K = K .mk g t h := rfl
theorem rpY_q {i : Nat} {p : Plan} : rpY .mk P tab S ops (.q i p) rd g t h K = (match ops[i]? with
    | some o => gd ops t o.guard (fun t => match qv tab t h o.op with
        | some (c, v) => c ∧ rpY .mk P tab S ops p ((i, qn t o.op) :: rd) g (putO t o.dst v) h K
        | none => False) (fun t => rpY .mk P tab S ops p rd g (putO t o.dst (.tup [])) h K)
    | none => False) := rfl
theorem rpY_e1 {i : Nat} {ws : List Nat} {p : Plan} : rpY .mk P tab S ops (.e1 i ws p) rd g t h K = (match ops[i]? with
    | some o => gd ops t o.guard (fun t => opY P tab S g t h o.op fun k g v h' => stays ws h h' rd ∧ rpY k P tab S ops p rd g (putO t o.dst v) h' K) (fun t => rpY .mk P tab S ops p rd g (putO t o.dst (.tup [])) h K)
    | none => False) := rfl
/-- The rules in one. -/
def vyB := And.intro @vcY_skip (And.intro @vcY_label (And.intro @vcY_plain (And.intro @vcY_drawn (And.intro @vcY_seq (And.intro @vcY_cond (And.intro @vcY_block (And.intro @vcY_exit (And.intro @vcY_ret (And.intro @vcY_loop (And.intro @vcY_range (And.intro @rnY_nil (And.intro @rnY_cons (And.intro @rpY_nil (And.intro @rpY_q (@rpY_e1)))))))))))))))
end
/-- Closing steps. -/
theorem endsG_run {n i : Nat} (h : i = n) : endsG n (.run i) := .inl (by rw [h])
theorem endsG_stop {n i : Nat} (h : i ≤ n) : endsG n (.stop i) := .inr ⟨i, h, rfl⟩
end Go.Sx
