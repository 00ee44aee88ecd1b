/- The data layer: an operation does the same where more is known of the temporaries; what is known of them. -/
import Derived.Test.YtdjcbpicdnhciaaGreatDy
set_option linter.unusedVariables false
set_option linter.unusedSimpArgs false
namespace Go.Dx

section
variable {P : Program} {E : List TypeId} {ev ev' : Operand → Option Value}

theorem evs_mono (he : ∀ x v, ev x = some v → ev' x = some v) : ∀ (xs : List Operand) (vs : List Value), evs ev xs = some vs → evs ev' xs = some vs
  | [], vs, h => h
  | x :: xs, vs, h => by
    simp only [evs, Option.bind_eq_some_iff, Option.map_eq_some_iff] at h ⊢
    obtain ⟨v, h1, r, h2, h3⟩ := h
    exact ⟨v, he _ _ h1, r, evs_mono he xs r h2, h3⟩

theorem evp_mono (he : ∀ x v, ev x = some v → ev' x = some v) : ∀ (xs : List (Nat × Operand)) (vs : List (Nat × Value)), evp ev xs = some vs → evp ev' xs = some vs
  | [], vs, h => h
  | (i, x) :: xs, vs, h => by
    simp only [evp, Option.bind_eq_some_iff, Option.map_eq_some_iff] at h ⊢
    obtain ⟨v, h1, r, h2, h3⟩ := h
    exact ⟨v, he _ _ h1, r, evp_mono he xs r h2, h3⟩

theorem evo_mono (he : ∀ x v, ev x = some v → ev' x = some v) (x : Option Operand) (v : Option Value) (h : evo ev x = some v) : evo ev' x = some v := by
  cases x with
  | none => exact h
  | some x =>
    simp only [evo, Option.map_eq_some_iff] at h ⊢
    obtain ⟨v, h1, h2⟩ := h
    exact ⟨v, he _ _ h1, h2⟩

theorem callee_mono (he : ∀ x v, ev x = some v → ev' x = some v) {o : Op} {r : FuncId × List Value} (h : callee ev o = some r) : callee ev' o = some r := by
  cases o with
  | call c =>
    obtain ⟨cal, args, ts⟩ := c
    cases cal with
    | value f =>
      simp only [callee, Option.bind_eq_some_iff] at h ⊢
      obtain ⟨fv, h1, vs, h2, h3⟩ := h
      exact ⟨fv, he _ _ h1, vs, evs_mono he _ _ h2, h3⟩
    | _ => exact h
  | _ => exact h

theorem bind_mono {α β : Type} {x : Option α} {x' : Option α} {f : α → Option β} {r : β} (hx : ∀ a, x = some a → x' = some a) (h : x.bind f = some r) : x'.bind f = some r := by
  cases x with
  | none => cases h
  | some a => rw [hx a rfl]; exact h

theorem bind2_mono (he : ∀ x v, ev x = some v → ev' x = some v) {β : Type} {x y : Operand} {f : Value → Value → Option β} {r : β} (h : ((ev x).bind fun a => (ev y).bind fun b => f a b) = some r) : ((ev' x).bind fun a => (ev' y).bind fun b => f a b) = some r := by
  simp only [Option.bind_eq_some_iff] at h ⊢
  obtain ⟨a, h1, b, h2, h3⟩ := h
  exact ⟨a, he _ _ h1, b, he _ _ h2, h3⟩

theorem dOp_mono (he : ∀ x v, ev x = some v → ev' x = some v) {A : Hp} {o : Op} {r : Value × Upd} (h : dOp E P ev A o = some r) : dOp E P ev' A o = some r := by
  cases o with
  | move x => exact (by simp only [dOp, Option.map_eq_some_iff] at h ⊢; obtain ⟨a, h1, h2⟩ := h; exact ⟨a, he _ _ h1, h2⟩)
  | assign x => exact (by simp only [dOp, Option.map_eq_some_iff] at h ⊢; obtain ⟨a, h1, h2⟩ := h; exact ⟨a, he _ _ h1, h2⟩)
  | pick c a b =>
    simp only [dOp, Option.bind_eq_some_iff] at h ⊢
    obtain ⟨c', h1, h2⟩ := h
    refine ⟨c', he _ _ h1, ?_⟩
    split at h2
    · simp only [Option.map_eq_some_iff] at h2 ⊢; obtain ⟨a, h3, h4⟩ := h2; exact ⟨a, he _ _ h3, h4⟩
    · simp only [Option.map_eq_some_iff] at h2 ⊢; obtain ⟨a, h3, h4⟩ := h2; exact ⟨a, he _ _ h3, h4⟩
    · cases h2
  | alloc t => exact h
  | box t x => exact bind_mono (he x) h
  | build t ps => exact bind_mono (evp_mono he _) h
  | buildSlice t n ps => exact bind_mono (evp_mono he _) h
  | load t a => exact bind_mono (he a) h
  | store t a x =>
    simp only [dOp, Option.bind_eq_some_iff] at h ⊢
    obtain ⟨a', h1, b', h2, h3⟩ := h
    exact ⟨a', he _ _ h1, b', he _ _ h2, h3⟩
  | nilCheck x => exact bind_mono (he x) h
  | binOp op t x y t' => exact bind2_mono he (f := fun a b => (dBin E P op t a b).map fun v => (v, Upd.keep)) h
  | unOp op t x => exact bind_mono (he x) h
  | convert s d x => exact bind_mono (he x) h
  | makeFunc fn xs cs =>
    cases fn with
    | func f =>
      simp only [dOp, Option.bind_eq_some_iff, Option.map_eq_some_iff] at h ⊢
      obtain ⟨a, h1, b, h2, h3⟩ := h
      exact ⟨a, evs_mono he _ _ h1, b, evs_mono he _ _ h2, h3⟩
    | _ => exact h
  | makeInterface t x => exact bind_mono (he x) h
  | makeMap t r => cases r <;> exact h
  | makeSlice t l c =>
    simp only [dOp, Option.bind_eq_some_iff] at h ⊢
    obtain ⟨a, h1, b, h2, h3⟩ := h
    exact ⟨a, he _ _ h1, b, he _ _ h2, h3⟩
  | slice t x lo hi mx =>
    simp only [dOp, Option.bind_eq_some_iff] at h ⊢
    obtain ⟨a, h1, b, h2, c, h3, d, h4, h5⟩ := h
    exact ⟨a, he _ _ h1, b, evo_mono he _ _ h2, c, evo_mono he _ _ h3, d, evo_mono he _ _ h4, h5⟩
  | fieldAddr s x f => exact bind_mono (he x) h
  | field t x f => exact bind_mono (he x) h
  | indexAddr t x ix =>
    simp only [dOp, Option.bind_eq_some_iff] at h ⊢
    obtain ⟨a, h1, b, h2, h3⟩ := h
    exact ⟨a, he _ _ h1, b, he _ _ h2, h3⟩
  | index t x ix =>
    simp only [dOp, Option.bind_eq_some_iff] at h ⊢
    obtain ⟨a, h1, b, h2, h3⟩ := h
    exact ⟨a, he _ _ h1, b, he _ _ h2, h3⟩
  | lookup t x ix ok =>
    simp only [dOp, Option.bind_eq_some_iff] at h ⊢
    obtain ⟨a, h1, b, h2, h3⟩ := h
    exact ⟨a, he _ _ h1, b, he _ _ h2, h3⟩
  | mapUpdate t m k x =>
    simp only [dOp, Option.bind_eq_some_iff] at h ⊢
    obtain ⟨a, h1, b, h2, c, h3, h4⟩ := h
    exact ⟨a, he _ _ h1, b, he _ _ h2, c, he _ _ h3, h4⟩
  | range t x => exact bind_mono (he x) h
  | next it b => cases b with
    | true => exact bind_mono (he it) h
    | false => exact h
  | extract t ix => exact bind_mono (he t) h
  | call c =>
    obtain ⟨cal, args, ts⟩ := c
    cases cal with
    | builtin b => exact bind_mono (evs_mono he _) h
    | _ => exact h
  | _ => exact h

end

/-! What is known of the temporaries. -/

abbrev TF := List (Nat × Value)

def look : TF → Nat → Option Value
  | [], _ => none
  | (e, v) :: m, d => match Nat.beq e d with
    | true => some v
    | false => look m d

def Knows (n : Nat) (m : TF) (t : List Value) : Prop := t.length = n ∧ ∀ d v, look m d = some v → t[d]? = some v

def evM (m : TF) : Operand → Option Value
  | .tmp i => look m i
  | .const v => if flat v then some v else none
  | .global _ => none
  | .func f => some (.func (.func f) #[] #[])

def bindM (d : Option Tmp) (v : Value) (m : TF) : TF :=
  match d with
  | some d => (d, v) :: m
  | none => m

/-- Is the operation wanted? -/
def wantM (ops : List Oper) (m : TF) (o : Oper) : Option Bool :=
  match o.guard with
  | none => some true
  | some (j, b) =>
    match ops[j]? with
    | some oj => match oj.dst with
      | some d => match look m d with
        | some (.bool c) => some (c == b)
        | _ => none
      | none => none
    | none => none

theorem Knows.ev {n : Nat} {m : TF} {t : List Value} (h : Knows n m t) (x : Operand) (v : Value) (hx : evM m x = some v) : evOp t x = some v := by
  cases x with
  | tmp i => exact h.2 i v hx
  | const c => exact hx
  | global g => exact hx
  | func f => exact hx

theorem Knows.want {n : Nat} {m : TF} {t : List Value} (h : Knows n m t) {ops : List Oper} {o : Oper} {b : Bool} (hw : wantM ops m o = some b) : wantedD ops t o = b := by
  unfold wantM at hw
  unfold wantedD
  split at hw
  · rename_i hg; rw [hg]; cases hw; rfl
  · rename_i j c hg
    rw [hg]
    simp only
    split at hw
    · rename_i oj hj
      rw [hj]
      simp only
      split at hw
      · rename_i d hd
        rw [hd]
        simp only
        split at hw
        · rename_i c' hl
          rw [h.2 _ _ hl]
          cases hw; rfl
        · cases hw
      · cases hw
    · cases hw

theorem Knows.put {n : Nat} {m : TF} {t : List Value} (h : Knows n m t) {d : Option Tmp} (hd : ∀ e, d = some e → e < n) (v : Value) : Knows n (bindM d v m) (put t d v) := by
  cases d with
  | none => exact h
  | some d =>
    refine ⟨by simp [Go.Dx.put, h.1], ?_⟩
    intro e u hu
    simp only [bindM, look] at hu
    simp only [Go.Dx.put, List.getElem?_set]
    split at hu
    · rename_i hb
      have : d = e := Nat.eq_of_beq_eq_true hb
      subst this
      cases hu
      simp [h.1, hd d rfl]
    · rename_i hb
      have : d ≠ e := fun he => by subst he; rw [Nat.beq_refl] at hb; cases hb
      rw [if_neg this]
      exact h.2 e u hu

def Sub (m' m : TF) : Prop := ∀ d v, look m' d = some v → look m d = some v

theorem Knows.sub {n : Nat} {m m' : TF} {t : List Value} (h : Knows n m t) (hs : Sub m' m) : Knows n m' t := ⟨h.1, fun d v hd => h.2 d v (hs d v hd)⟩

theorem Sub.nil {m : TF} : Sub [] m := fun d v h => by cases h
theorem Sub.cons {m m' : TF} {d : Nat} {v : Value} (h : look m d = some v) (hs : Sub m' m) : Sub ((d, v) :: m') m := by
  intro e u hu
  simp only [look] at hu
  split at hu
  · rename_i hb
    have : d = e := Nat.eq_of_beq_eq_true hb
    subst this
    cases hu; exact h
  · exact hs e u hu
theorem Sub.refl (m : TF) : Sub m m := fun _ _ h => h
theorem Sub.trans {a b c : TF} (h : Sub a b) (k : Sub b c) : Sub a c := fun d v hd => k d v (h d v hd)

/-- A walk: the statement ends in a way of which this is known. -/
def W (P : Program) (n : Nat) (c : Code) (m : TF) (A : Hp) (Q : Exit → TF → Hp → Prop) : Prop :=
  ∀ t, Knows n m t → ∃ e t' A' m', Rn P c ⟨t, A⟩ e ⟨t', A'⟩ ∧ Knows n m' t' ∧ Q e m' A'

def Wo (E : List TypeId) (P : Program) (n : Nat) (ops : List Oper) (c : Nat) (rest : List Oper) (k : Nat) (m : TF) (A : Hp) (K : TF → Hp → Prop) : Prop :=
  ∀ t, Knows n m t → ∃ t' A' m', AnyR E P ops c rest k ⟨t, A⟩ ⟨t', A'⟩ ∧ Knows n m' t' ∧ K m' A'

section
variable {P : Program} {E : List TypeId} {n : Nat} {m : TF} {A : Hp} {Q : Exit → TF → Hp → Prop} {K : TF → Hp → Prop} {ops : List Oper} {c k : Nat} {rest : List Oper} {o : Oper}

theorem w_sub {code : Code} {m' : TF} (hs : Sub m' m) (h : W P n code m' A Q) : W P n code m A Q := fun t ht => h t (ht.sub hs)

theorem w_mono {code : Code} {Q' : Exit → TF → Hp → Prop} (h : W P n code m A Q) (hq : ∀ e m A, Q e m A → Q' e m A) : W P n code m A Q' := by
  intro t ht
  obtain ⟨e, t', A', m', h1, h2, h3⟩ := h t ht
  exact ⟨e, t', A', m', h1, h2, hq _ _ _ h3⟩

theorem wo_nil (h : K m A) : Wo E P n ops c [] k m A K := fun t ht => ⟨t, A, m, .nil k _, ht, h⟩

theorem wo_sub {m' : TF} (hs : Sub m' m) (h : Wo E P n ops c rest k m' A K) : Wo E P n ops c rest k m A K := fun t ht => h t (ht.sub hs)

def dstOK (n : Nat) (d : Option Tmp) : Bool :=
  match d with
  | some d => Nat.blt d n
  | none => true

theorem dstOK_lt {d : Option Tmp} (h : dstOK n d = true) : ∀ e, d = some e → e < n := by
  intro e he; subst he; exact blt_iff.1 h

theorem wo_op {v : Value} {u : Upd} (hd : dstOK n o.dst = true) (hw : wantM ops m o = some true) (hc : ∀ ev, callee ev o.op = none) (h : dOp E P (evM m) A o.op = some (v, u)) (hq : Nat.blt k c = true → u.quiet = true ∧ isNext o.op = false)
    (hn : Wo E P n ops c rest (k + 1) (bindM o.dst v m) (u.on A) K) : Wo E P n ops c (o :: rest) k m A K := by
  intro t ht
  obtain ⟨t', A', m', h1, h2, h3⟩ := hn _ (ht.put (dstOK_lt hd) v)
  refine ⟨t', A', m', .cons ?_ h1, h2, h3⟩
  unfold StepR
  rw [if_pos (ht.want hw), hc]
  exact ⟨u, dOp_mono ht.ev h, rfl, fun hk => hq (blt_iff.2 hk)⟩

theorem wo_skip (hd : dstOK n o.dst = true) (hw : wantM ops m o = some false) (hn : Wo E P n ops c rest (k + 1) (bindM o.dst undef m) A K) : Wo E P n ops c (o :: rest) k m A K := by
  intro t ht
  obtain ⟨t', A', m', h1, h2, h3⟩ := hn _ (ht.put (dstOK_lt hd) undef)
  refine ⟨t', A', m', .cons ?_ h1, h2, h3⟩
  unfold StepR
  rw [if_neg (by rw [ht.want hw]; simp)]
  exact ⟨rfl, rfl⟩

/-- A call whose order is fixed. -/
theorem wo_call {f : FuncId} {args : List Value} {v : Value} {A1 : Hp} (hd : dstOK n o.dst = true) (hw : wantM ops m o = some true) (hc : callee (evM m) o.op = some (f, args)) (hk : Nat.ble c k = true) (h : Ev P f args A v A1)
    (hn : Wo E P n ops c rest (k + 1) (bindM o.dst v m) A1 K) : Wo E P n ops c (o :: rest) k m A K := by
  intro t ht
  obtain ⟨t', A', m', h1, h2, h3⟩ := hn _ (ht.put (dstOK_lt hd) v)
  refine ⟨t', A', m', .cons ?_ h1, h2, h3⟩
  unfold StepR
  rw [if_pos (ht.want hw), callee_mono ht.ev hc]
  simp only
  rw [if_neg (by have := Nat.le_of_ble_eq_true hk; omega)]
  exact h

/-- A call whose order is open. -/
theorem wo_free {f : FuncId} {args : List Value} {v : Value} {r : Hp} {B : Hp} (hd : dstOK n o.dst = true) (hw : wantM ops m o = some true) (hc : callee (evM m) o.op = some (f, args)) (hk : Nat.blt k c = true) (h : Ev P f args (roH A) v (B ++ r)) (hB : B.length = A.length)
    (hr : ∀ x ∈ r, x.alive = true → x.wr = true) (hn : Wo E P n ops c rest (k + 1) (bindM o.dst v m) (A ++ r) K) : Wo E P n ops c (o :: rest) k m A K := by
  intro t ht
  obtain ⟨t', A', m', h1, h2, h3⟩ := hn _ (ht.put (dstOK_lt hd) v)
  refine ⟨t', A', m', .cons ?_ h1, h2, h3⟩
  unfold StepR
  rw [if_pos (ht.want hw), callee_mono ht.ev hc]
  simp only
  rw [if_pos (blt_iff.1 hk)]
  have e : (B ++ r).drop A.length = r := by rw [← hB, List.drop_left]
  exact ⟨_, h, by rw [List.length_append]; omega, by rw [e]; exact hr, by rw [e]⟩

theorem w_region (hEnv : Env P E) {id : Nat} {ops : Array Oper} (h : Wo E P n ops.toList 0 ops.toList 0 m A (fun m' A' => Q .normal m' A')) : W P n (.region id ops false) m A Q := by
  intro t ht
  obtain ⟨t', A', m', h1, h2, h3⟩ := h t ht
  exact ⟨.normal, t', A', m', rn_region hEnv (fun h => by cases h) (fun _ => rfl) h1, h2, h3⟩

theorem w_draw (hEnv : Env P E) {id : Nat} {ops : Array Oper} (c : Nat) (hS : chkReg ops c = true) (h : Wo E P n ops.toList c ops.toList 0 m A (fun m' A' => Q .normal m' A')) : W P n (.region id ops true) m A Q := by
  intro t ht
  obtain ⟨t', A', m', h1, h2, h3⟩ := h t ht
  exact ⟨.normal, t', A', m', rn_region hEnv (fun _ => chkReg_ok hS) (fun h => by cases h) h1, h2, h3⟩

theorem w_skip (h : Q .normal m A) : W P n .skip m A Q := fun t ht => ⟨.normal, t, A, m, dsem_skip ⟨rfl, rfl⟩, ht, h⟩
theorem w_label {l : Nat} (h : Q .normal m A) : W P n (.label l) m A Q := fun t ht => ⟨.normal, t, A, m, dsem_label ⟨rfl, rfl⟩, ht, h⟩
theorem w_ret (h : Q .ret m A) : W P n .ret m A Q := fun t ht => ⟨.ret, t, A, m, dsem_ret ⟨rfl, rfl⟩, ht, h⟩
theorem w_exit {id : Nat} (h : Q (.exit id) m A) : W P n (.exit id) m A Q := fun t ht => ⟨.exit id, t, A, m, dsem_exit ⟨rfl, rfl⟩, ht, h⟩

def seqQ (P : Program) (n : Nat) (b : Code) (Q : Exit → TF → Hp → Prop) : Exit → TF → Hp → Prop
  | .normal, m, A => W P n b m A Q
  | e, m, A => Q e m A

theorem w_seq {a b : Code} (h : W P n a m A (seqQ P n b Q)) : W P n (.seq a b) m A Q := by
  intro t ht
  obtain ⟨e, t1, A1, m1, h1, h2, h3⟩ := h t ht
  cases e with
  | normal =>
    obtain ⟨e, t2, A2, m2, g1, g2, g3⟩ := h3 t1 h2
    exact ⟨e, t2, A2, m2, rn_seq h1 g1, g2, g3⟩
  | exit id => exact ⟨_, t1, A1, m1, rn_seq_out h1 (fun h => by cases h), h2, h3⟩
  | goto id => exact ⟨_, t1, A1, m1, rn_seq_out h1 (fun h => by cases h), h2, h3⟩
  | ret => exact ⟨_, t1, A1, m1, rn_seq_out h1 (fun h => by cases h), h2, h3⟩
  | panic id => exact ⟨_, t1, A1, m1, rn_seq_out h1 (fun h => by cases h), h2, h3⟩
  | outgrown => exact ⟨_, t1, A1, m1, rn_seq_out h1 (fun h => by cases h), h2, h3⟩

theorem w_cond {x : Operand} {a b : Code} (c : Bool) (hc : evM m x = some (.bool c)) (h1 : c = true → W P n a m A Q) (h2 : c = false → W P n b m A Q) : W P n (.cond x a b) m A Q := by
  intro t ht
  cases c with
  | true => obtain ⟨e, t', A', m', g1, g2, g3⟩ := h1 rfl t ht; exact ⟨e, t', A', m', rn_cond (ht.ev _ _ hc) g1, g2, g3⟩
  | false => obtain ⟨e, t', A', m', g1, g2, g3⟩ := h2 rfl t ht; exact ⟨e, t', A', m', rn_cond (ht.ev _ _ hc) g1, g2, g3⟩

theorem w_block {id : Nat} {code : Code} (h : W P n code m A (fun e m' A' => Q (outOf id e) m' A')) : W P n (.block id code) m A Q := by
  intro t ht
  obtain ⟨e, t', A', m', h1, h2, h3⟩ := h t ht
  exact ⟨_, t', A', m', rn_block h1, h2, h3⟩

def loopQ (I : Nat → TF → Hp → Prop) (j : Nat) (Q : Exit → TF → Hp → Prop) : Exit → TF → Hp → Prop
  | .normal, m, A => ∃ i m', i < j ∧ Sub m' m ∧ I i m' A
  | e, m, A => Q e m A

/-- A loop: I j is what is known at the head of a round, with at most j rounds to go. -/
theorem w_loop {code : Code} (I : Nat → TF → Hp → Prop) (j : Nat) {m0 : TF} (hs : Sub m0 m) (h0 : I j m0 A) (h : ∀ j m A, I j m A → W P n code m A (loopQ I j Q)) : W P n (.loop code) m A Q := by
  have key : ∀ (j : Nat) (m : TF) (A : Hp) (t : List Value), I j m A → Knows n m t → ∃ e t' A' m', Rounds P code ⟨t, A⟩ e ⟨t', A'⟩ ∧ Knows n m' t' ∧ Q e m' A' := by
    intro j
    induction j using Nat.strongRecOn with
    | _ j ih =>
      intro m A t hI ht
      obtain ⟨e, t1, A1, m1, h1, h2, h3⟩ := h j m A hI t ht
      cases e with
      | normal =>
        obtain ⟨i, m2, hi, hsub, hI2⟩ := h3
        obtain ⟨e, t2, A2, m3, g1, g2, g3⟩ := ih i hi m2 A1 t1 hI2 (h2.sub hsub)
        exact ⟨e, t2, A2, m3, .more h1 g1, g2, g3⟩
      | exit id => exact ⟨_, t1, A1, m1, .last h1 (fun h => by cases h), h2, h3⟩
      | goto id => exact ⟨_, t1, A1, m1, .last h1 (fun h => by cases h), h2, h3⟩
      | ret => exact ⟨_, t1, A1, m1, .last h1 (fun h => by cases h), h2, h3⟩
      | panic id => exact ⟨_, t1, A1, m1, .last h1 (fun h => by cases h), h2, h3⟩
      | outgrown => exact ⟨_, t1, A1, m1, .last h1 (fun h => by cases h), h2, h3⟩
  intro t ht
  obtain ⟨e, t', A', m', h1, h2, h3⟩ := key j m0 A t h0 (ht.sub hs)
  exact ⟨e, t', A', m', rn_loop h1, h2, h3⟩

/-- What a call gets. -/
def argsM : Nat → List Value → TF
  | _, [] => []
  | i, v :: vs => (i, v) :: argsM (i + 1) vs

theorem look_args {d : Nat} {v : Value} : ∀ (vs : List Value) (i : Nat), look (argsM i vs) d = some v → i ≤ d ∧ vs[d - i]? = some v
  | [], i, h => by cases h
  | u :: vs, i, h => by
    simp only [argsM, look] at h
    split at h
    · rename_i hb
      have : i = d := Nat.eq_of_beq_eq_true hb
      subst this
      cases h
      simp
    · obtain ⟨h1, h2⟩ := look_args vs (i + 1) h
      refine ⟨by omega, ?_⟩
      rw [show d - i = (d - (i + 1)) + 1 by omega, List.getElem?_cons_succ]
      exact h2

theorem knows_args {args : List Value} (hn : args.length ≤ n) : Knows n (argsM 0 args) (args ++ List.replicate (n - args.length) undef) := by
  refine ⟨by simp; omega, fun d v h => ?_⟩
  obtain ⟨_, h2⟩ := look_args args 0 h
  have : d < args.length := by simpa using (List.getElem?_eq_some_iff.1 h2).1
  rw [List.getElem?_append_left this]
  simpa using h2

/-- What the results are, out of what is known. -/
def resM (P : Program) (m : TF) (A : Hp) : ResultVar → Option Value
  | .tmp t => look m t
  | .cell a t => (look m a).bind fun a => match a with
    | .pointer (some p) => match P.underlying t, P.info? t with
      | some d, some i => if isAggD d then (rd A p i.size).map fun cs => .agg ⟨cs⟩ else (rd A p 1).bind fun cs => cs[0]?
      | _, _ => none
    | _ => none

def ressM (P : Program) (m : TF) (A : Hp) : List ResultVar → Option (List Value)
  | [] => some []
  | r :: rs => (resM P m A r).bind fun v => (ressM P m A rs).map fun vs => v :: vs

def oneOf : List Value → Value
  | [v] => v
  | vs => .tuple ⟨vs⟩

theorem resM_ok {t : List Value} (ht : Knows n m t) {r : ResultVar} {v : Value} (h : resM P m A r = some v) : dRes P ⟨t, A⟩ r = some v := by
  cases r with
  | tmp i => exact ht.2 _ _ h
  | cell a ty =>
    simp only [resM, dRes, Option.bind_eq_some_iff] at h ⊢
    obtain ⟨a', h1, h2⟩ := h
    exact ⟨a', ht.2 _ _ h1, h2⟩

theorem ressM_ok {t : List Value} (ht : Knows n m t) : ∀ {rs : List ResultVar} {vs : List Value}, ressM P m A rs = some vs → dRess P ⟨t, A⟩ rs = some vs
  | [], vs, h => h
  | r :: rs, vs, h => by
    simp only [ressM, dRess, Option.bind_eq_some_iff, Option.map_eq_some_iff] at h ⊢
    obtain ⟨v, h1, vs2, h2, h3⟩ := h
    exact ⟨v, resM_ok ht h1, vs2, ressM_ok ht h2, h3⟩

/-- A CALL OUT OF A WALK OF ITS BODY. -/
theorem ev_walk {f : FuncId} {fn : Func} {c : Code} {args : List Value} {A : Hp} {R : Value → Hp → Prop} (hf : P.funcs[f]? = some fn) (hb : fn.body = some c) (hn : Nat.ble args.length fn.ntmps = true)
    (h : W P fn.ntmps c (argsM 0 args) A fun e m' A' => (e = .normal ∨ e = .ret) ∧ ∃ vs, ressM P m' A' fn.results.toList = some vs ∧ R (oneOf vs) A') : ∃ v A', Ev P f args A v A' ∧ R v A' := by
  obtain ⟨e, t', A', m', h1, h2, he, vs, h3, h4⟩ := h _ (knows_args (Nat.le_of_ble_eq_true hn))
  refine ⟨oneOf vs, A', ev_of hf hb h1 he ?_, h4⟩
  simp only [dResults, ressM_ok h2 h3, Option.map_some]
  cases vs with
  | nil => rfl
  | cons x xs => cases xs <;> rfl

end
end Go.Dx
