/- The data layer: exact calls and exact runs; walking with what is known of the temporaries. -/
import Derived.Test.YtdjcbpicdnhciaaGreatDw
set_option linter.unusedVariables false
set_option linter.unusedSimpArgs false
namespace Go.Dx

/-- The call returns this value and leaves these data. -/
def Ev (P : Program) (f : FuncId) (args : List Value) (A : Hp) (v : Value) (A' : Hp) : Prop :=
  hasBody P f = true ∧ DCalls P f args A fun v2 A2 => v2 = v ∧ A2 = A'

/-- The statement ends so. -/
def Rn (P : Program) (c : Code) (s : St) (e : Exit) (s' : St) : Prop :=
  DSem P c (fun e2 s2 => e2 = e ∧ s2 = s') s

def StepR (E : List TypeId) (P : Program) (ops : List Oper) (c k : Nat) (o : Oper) (s : St) (v : Value) (A : Hp) : Prop :=
  if wantedD ops s.t o then
    match callee (evOp s.t) o.op with
    | some (f, args) =>
      if k < c then ∃ A', Ev P f args (roH s.A) v A' ∧ s.A.length ≤ A'.length ∧ (∀ x ∈ A'.drop s.A.length, x.alive = true → x.wr = true) ∧ A = s.A ++ A'.drop s.A.length
      else Ev P f args s.A v A
    | none => ∃ u, dOp E P (evOp s.t) s.A o.op = some (v, u) ∧ A = u.on s.A ∧ (k < c → u.quiet = true ∧ isNext o.op = false)
  else v = undef ∧ A = s.A

inductive AnyR (E : List TypeId) (P : Program) (ops : List Oper) (c : Nat) : List Oper → Nat → St → St → Prop
  | nil (k : Nat) (s : St) : AnyR E P ops c [] k s s
  | cons {o : Oper} {rest : List Oper} {k : Nat} {s s' : St} {v : Value} {A : Hp} : StepR E P ops c k o s v A → AnyR E P ops c rest (k + 1) ⟨put s.t o.dst v, A⟩ s' → AnyR E P ops c (o :: rest) k s s'

section
variable {P : Program} {E : List TypeId}

theorem AnyR.way {ops : List Oper} {c : Nat} {rest : List Oper} {k : Nat} {s s' : St} (h : AnyR E P ops c rest k s s') :
    ∃ (F : Nat → St) (V : Nat → Value), F k = s ∧ F (k + rest.length) = s' ∧ ∀ j o, rest[j]? = some o → StepR E P ops c (k + j) o (F (k + j)) (V (k + j)) (F (k + j + 1)).A ∧ (F (k + j + 1)).t = put (F (k + j)).t o.dst (V (k + j)) := by
  induction h with
  | nil k s => exact ⟨fun _ => s, fun _ => undef, rfl, rfl, fun j o h => by simp at h⟩
  | @cons o rest k s s' v A h1 _ ih =>
    obtain ⟨F, V, f1, f2, f3⟩ := ih
    refine ⟨fun j => if j = k then s else F j, fun j => if j = k then v else V j, by simp, ?_, ?_⟩
    · simp only [List.length_cons]
      rw [if_neg (by omega), show k + (rest.length + 1) = k + 1 + rest.length by omega]
      exact f2
    · intro j o' hj
      cases j with
      | zero =>
        simp at hj; subst hj
        simp only [Nat.add_zero, if_true]
        rw [if_neg (by omega), f1]
        exact ⟨h1, rfl⟩
      | succ j =>
        have := f3 j o' (by simpa using hj)
        simp only
        rw [if_neg (by omega), if_neg (by omega), if_neg (by omega)]
        rw [show k + (j + 1) = k + 1 + j by omega]
        exact this

theorem AnyR.trace {ops : Array Oper} {c : Nat} {s s' : St} (h : AnyR E P ops.toList c ops.toList 0 s s') :
    ∃ T H V, Trace E P ops s c (fun _ => none) T H V ∧ s' = ⟨T ops.size, H ops.size⟩ := by
  obtain ⟨F, V, f1, f2, f3⟩ := h.way
  have key : ∀ k o, ops[k]? = some o → StepR E P ops.toList c k o (F k) (V k) (F (k + 1)).A ∧ (F (k + 1)).t = put (F k).t o.dst (V k) := by
    intro k o ho
    have := f3 k o (by simpa using ho)
    simpa using this
  refine ⟨fun k => (F k).t, fun k => (F k).A, V, trace_plain ?_ ?_ (fun k o ho => (key k o ho).2) ?_ ?_ ?_, ?_⟩
  · simp [f1]
  · simp [f1]
  · intro k o ho hw
    obtain ⟨h1, _⟩ := key k o ho
    unfold StepR at h1
    rw [hw] at h1
    simpa using h1
  · intro k o f args ho hw hc
    obtain ⟨h1, _⟩ := key k o ho
    unfold StepR at h1
    rw [hw] at h1
    simp only [if_true] at h1
    rw [hc] at h1
    simp only at h1
    split at h1
    · rename_i hk
      obtain ⟨A', ⟨hb, hd⟩, hle, hwr, hA⟩ := h1
      refine ⟨hb, fun _ => ⟨A'.drop (F k).A.length, hA, hwr, hd.mono ?_⟩, fun hck => by omega⟩
      rintro v2 A2 ⟨rfl, rfl⟩
      exact ⟨rfl, rfl, hle⟩
    · rename_i hk
      exact ⟨h1.1, fun hck => by omega, fun _ => h1.2⟩
  · intro k o ho hw hc
    obtain ⟨h1, _⟩ := key k o ho
    unfold StepR at h1
    rw [hw] at h1
    simp only [if_true] at h1
    rw [hc] at h1
    exact h1
  · simp only [Nat.zero_add, Array.length_toList] at f2
    rw [← f2]

theorem rn_region (hEnv : Env P E) {ops : Array Oper} {draw : Bool} {c : Nat} (hS : draw = true → StaticOK ops c) (hc : draw = false → c = 0) {id : Nat} {s s' : St} (h : AnyR E P ops.toList c ops.toList 0 s s') : Rn P (.region id ops draw) s .normal s' := by
  cases draw with
  | true =>
    obtain ⟨T, H, V, hT, rfl⟩ := h.trace
    exact dsem_any hEnv (hS rfl) hT ⟨rfl, rfl⟩
  | false =>
    refine dsem_region hEnv ?_
    rw [hc rfl] at h
    have : ∀ (K : St → Prop) (rest : List Oper) (k : Nat) (s s' : St), AnyR E P ops.toList 0 rest k s s' → K s' → dops E P ops.toList rest K s := by
      intro K rest k s s' h hK
      induction h with
      | nil k s => exact hK
      | @cons o rest k s s' v A h1 _ ih =>
        unfold StepR at h1
        simp only [dops]
        split at h1
        · rename_i hw
          rw [if_pos hw]
          split at h1
          · rename_i f args hcc
            rw [hcc]
            simp only [Nat.not_lt_zero, if_false] at h1
            refine ⟨h1.1, h1.2.mono ?_⟩
            rintro v2 A2 ⟨rfl, rfl⟩
            exact ih hK
          · rename_i hcc
            obtain ⟨u, h2, rfl, _⟩ := h1
            rw [hcc]
            simp only
            rw [h2]
            exact ih hK
        · rename_i hw
          rw [if_neg hw]
          rw [h1.1] at ih
          rw [h1.2] at ih
          exact ih hK
    exact this _ _ _ _ _ h ⟨rfl, rfl⟩

theorem rn_seq {a b : Code} {s s1 s' : St} {e : Exit} (h1 : Rn P a s .normal s1) (h2 : Rn P b s1 e s') : Rn P (.seq a b) s e s' := by
  refine dsem_seq (h1.mono fun e1 s2 ⟨he, hs⟩ => ?_)
  subst he; subst hs
  exact h2

theorem rn_seq_out {a b : Code} {s s' : St} {e : Exit} (h1 : Rn P a s e s') (he : e ≠ .normal) : Rn P (.seq a b) s e s' := by
  refine dsem_seq (h1.mono fun e1 s2 ⟨h2, hs⟩ => ?_)
  subst h2; subst hs
  cases e1 with
  | normal => exact absurd rfl he
  | exit _ => exact ⟨rfl, rfl⟩
  | goto _ => exact ⟨rfl, rfl⟩
  | ret => exact ⟨rfl, rfl⟩
  | panic _ => exact ⟨rfl, rfl⟩
  | outgrown => exact ⟨rfl, rfl⟩

theorem rn_cond {c : Operand} {x y : Code} {s s' : St} {b : Bool} {e : Exit} (hc : evOp s.t c = some (.bool b)) (h : Rn P (if b then x else y) s e s') : Rn P (.cond c x y) s e s' := dsem_cond hc h

/-- What a block makes of an end. -/
def outOf (id : Nat) : Exit → Exit
  | .exit id' => if id' = id then .normal else .exit id'
  | e => e

theorem rn_block {id : Nat} {c : Code} {s s' : St} {e : Exit} (h : Rn P c s e s') : Rn P (.block id c) s (outOf id e) s' := by
  refine dsem_block (h.mono fun e1 s2 ⟨h2, hs⟩ => ?_)
  subst h2; subst hs
  cases e1 with
  | exit id' =>
    unfold inB outOf
    by_cases he : id' = id
    · simp [he]
    · simp [he]
  | normal => exact ⟨rfl, rfl⟩
  | goto _ => exact ⟨rfl, rfl⟩
  | ret => exact ⟨rfl, rfl⟩
  | panic _ => exact ⟨rfl, rfl⟩
  | outgrown => exact ⟨rfl, rfl⟩

/-- The rounds of a loop. -/
inductive Rounds (P : Program) (c : Code) : St → Exit → St → Prop
  | last {s s' : St} {e : Exit} : Rn P c s e s' → e ≠ .normal → Rounds P c s e s'
  | more {s s1 s' : St} {e : Exit} : Rn P c s .normal s1 → Rounds P c s1 e s' → Rounds P c s e s'

inductive RoundsN (P : Program) (c : Code) : Nat → St → Exit → St → Prop
  | last {s s' : St} {e : Exit} : Rn P c s e s' → e ≠ .normal → RoundsN P c 0 s e s'
  | more {n : Nat} {s s1 s' : St} {e : Exit} : Rn P c s .normal s1 → RoundsN P c n s1 e s' → RoundsN P c (n + 1) s e s'

theorem rn_loop {c : Code} {s s' : St} {e : Exit} (h : Rounds P c s e s') : Rn P (.loop c) s e s' := by
  have : ∃ n, RoundsN P c n s e s' := by
    induction h with
    | last h he => exact ⟨0, .last h he⟩
    | more h _ ih => obtain ⟨n, hn⟩ := ih; exact ⟨n + 1, .more h hn⟩
  obtain ⟨n, hn⟩ := this
  refine dsem_loopN (fun n s1 => RoundsN P c n s1 e s') n hn ?_
  intro n s1 hn
  cases hn with
  | last h he =>
    refine DSem.mono h fun e1 s2 ⟨h2, hs⟩ => ?_
    subst h2; subst hs
    cases e1 with
    | normal => exact absurd rfl he
    | exit _ => exact ⟨rfl, rfl⟩
    | goto _ => exact ⟨rfl, rfl⟩
    | ret => exact ⟨rfl, rfl⟩
    | panic _ => exact ⟨rfl, rfl⟩
    | outgrown => exact ⟨rfl, rfl⟩
  | more h hm =>
    refine DSem.mono h fun e1 s2 ⟨h2, hs⟩ => ?_
    subst h2; subst hs
    exact ⟨_, Nat.lt_succ_self _, hm⟩

/-- A CALL OUT OF ITS BODY. -/
theorem ev_of {f : FuncId} {fn : Func} {c : Code} {args : List Value} {A : Hp} {v : Value} {e : Exit} {s' : St} (hf : P.funcs[f]? = some fn) (hb : fn.body = some c)
    (h : Rn P c ⟨args ++ List.replicate (fn.ntmps - args.length) undef, A⟩ e s') (he : e = .normal ∨ e = .ret) (hv : dResults P fn s' = some v) : Ev P f args A v s'.A := by
  refine ⟨by simp [hasBody, hf, hb], dcalls_of hf hb (h.mono fun e2 s2 ⟨h2, hs⟩ => ?_)⟩
  subst h2; subst hs
  exact ⟨he, v, hv, rfl, rfl⟩

theorem ev_run (hEnv : Env P E) {cuts : Cuts} (hcuts : CutsOK P cuts) {n : Nat} {f : FuncId} {args : List Value} {A : Hp} {v : Value} {A' : Hp} (h : runF E P cuts n f args A = some (v, A')) : Ev P f args A v A' :=
  runF_ok hEnv hcuts n f args A v A' h

end
end Go.Dx
