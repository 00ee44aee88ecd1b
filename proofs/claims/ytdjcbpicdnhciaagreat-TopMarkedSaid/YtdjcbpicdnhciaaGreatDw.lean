/- The data layer: a region whose order is open, its statement. -/
import Derived.Test.YtdjcbpicdnhciaaGreatDt
set_option linter.unusedVariables false
set_option linter.unusedSimpArgs false

section
namespace Go.Dx

section
variable {P : Program} {E : List TypeId} {ops : Array Oper} {s0 : St} {c : Nat} {T : Nat → List Value} {H : Nat → Hp} {V : Nat → Value}
  {φ0 : Rz} {w0 : World} {Pn : Pend}

theorem mem_ready {listed : Array Bool} {i : Nat} (hsz : listed.size = ops.size) : i ∈ Region.ready .any ops listed ↔
    (i < ops.size ∧ listed.getD i false = false ∧ ∀ o e, ops[i]? = some o → e ∈ o.after → Region.binds .any e = true → listed.getD e.on false = true) := by
  unfold Region.ready
  rw [List.mem_filter, List.mem_range]
  constructor
  · rintro ⟨h1, h2⟩
    have ho : ops[i]? = some ops[i] := by simp [h1]
    have hl : listed[i]? = some (listed[i]'(by omega)) := by simp [hsz, h1]
    simp only [Array.getD_eq_getD_getElem?, hl, ho, Option.getD_some, Option.map_some, Bool.and_eq_true, Bool.not_eq_true'] at h2
    refine ⟨h1, by simp only [Array.getD_eq_getD_getElem?, hl, Option.getD_some]; exact h2.1, ?_⟩
    intro o e ho' he hb
    rw [ho] at ho'; cases ho'
    have := Array.all_eq_true_iff_forall_mem.1 h2.2 e he
    simpa [hb, Array.getD_eq_getD_getElem?] using this
  · rintro ⟨h1, h2, h3⟩
    refine ⟨h1, ?_⟩
    have ho : ops[i]? = some ops[i] := by simp [h1]
    have hl : listed[i]? = some (listed[i]'(by omega)) := by simp [hsz, h1]
    simp only [Array.getD_eq_getD_getElem?, hl, Option.getD_some] at h2
    simp only [Array.getD_eq_getD_getElem?, hl, ho, Option.getD_some, Option.map_some, Bool.and_eq_true, Bool.not_eq_true']
    refine ⟨h2, Array.all_eq_true_iff_forall_mem.2 fun e he => ?_⟩
    cases hb : Region.binds .any e with
    | false => rfl
    | true =>
      have := h3 _ e ho he hb
      simpa [Array.getD_eq_getD_getElem?] using this

theorem listed_set {listed : Array Bool} {k : Nat} (hk : k < listed.size) : (fun i => (listed.setIfInBounds k true).getD i false) = addX (fun i => listed.getD i false) k := by
  funext i
  simp only [Array.getD_eq_getD_getElem?, Array.getElem?_setIfInBounds, addX]
  by_cases h : i = k
  · subst h; simp [hk]
  · rw [if_neg (fun h' => h h'.symm), if_neg h]

theorem ready_none (hS : StaticOK ops c) {listed : Array Bool} (hsz : listed.size = ops.size) (h : Region.ready .any ops listed = []) : ∀ k, k < ops.size → listed.getD k false = true := by
  intro k
  induction k using Nat.strongRecOn with
  | _ k ih =>
    intro hk
    cases hx : listed.getD k false with
    | true => rfl
    | false =>
      have : k ∈ Region.ready .any ops listed := (mem_ready hsz).2 ⟨hk, hx, fun o e ho he hb => by
        have := hS.back k o ho e he hb
        exact ih _ this (by omega)⟩
      rw [h] at this; cases this

theorem way_any (hEnv : Env P E) (hS : StaticOK ops c) (hT : Trace E P ops s0 c Pn T H V) {Q : Exit → Act → World → Prop}
    (hQ : ∀ φ a w, Rel φ ⟨T ops.size, H ops.size⟩ a w → Fr φ0 s0.A w0 φ (H ops.size) w → Q .normal a w) :
    ∀ (fuel : Nat) (listed : Array Bool) (a : Act) (w : World), listed.size = ops.size → listed.toList.count false = fuel → Down ops (fun i => listed.getD i false) →
      Way ops s0 c Pn H V φ0 w0 (fun i => listed.getD i false) a w → wpAny P .any ops Q fuel listed a w := by
  have fin : ∀ (listed : Array Bool) (a : Act) (w : World), (∀ k, k < ops.size → listed.getD k false = true) → Way ops s0 c Pn H V φ0 w0 (fun i => listed.getD i false) a w → Q .normal a w := by
    intro listed a w hX h
    obtain ⟨φ, h1, h2⟩ := h.end hS hT hX
    exact hQ φ a w h1 h2
  intro fuel
  induction fuel with
  | zero =>
    intro listed a w hsz hcnt hD hW
    have hall : ∀ k, k < ops.size → listed.getD k false = true := by
      intro k hk
      have hm := List.count_eq_zero.1 hcnt
      have hl : listed[k]? = some (listed[k]'(by omega)) := by simp [hsz, hk]
      simp only [Array.getD_eq_getD_getElem?, hl, Option.getD_some]
      cases hx : listed[k]'(by omega) with
      | true => rfl
      | false => exact absurd (by rw [← hx]; simp) hm
    refine ⟨?_, fin listed a w hall hW⟩
    rw [List.eq_nil_iff_forall_not_mem]
    intro i hi
    obtain ⟨h1, h2, _⟩ := (mem_ready hsz).1 hi
    rw [hall i h1] at h2; cases h2
  | succ fuel ih =>
    intro listed a w hsz hcnt hD hW
    refine ⟨fun h0 => fin listed a w (ready_none hS hsz h0) hW, ?_⟩
    intro i hi
    obtain ⟨h1, h2, h3⟩ := (mem_ready hsz).1 hi
    have hr : Ready ops (fun i => listed.getD i false) i := ⟨hD, h2, h3⟩
    refine hW.step hEnv hS hT hr (o := ops[i]) (by simp [h1]) fun a' w' hW' => ?_
    refine ih (listed.setIfInBounds i true) a' w' (by simpa using hsz) ?_ ?_ ?_
    · rw [Array.toList_setIfInBounds, List.count_set (by simpa [hsz] using h1)]
      have hl : listed[i]? = some (listed[i]'(by omega)) := by simp [hsz, h1]
      simp only [Array.getD_eq_getD_getElem?, hl, Option.getD_some] at h2
      simp [h2, hcnt]
    · rw [listed_set (by omega)]; exact hr.next
    · rw [listed_set (by omega)]; exact hW'

/-- A REGION WHOSE ORDER IS OPEN. -/
theorem dsem_any (hEnv : Env P E) (hS : StaticOK ops c) (hT : Trace E P ops s0 c Pn T H V) {id : Nat} {Q : Exit → St → Prop} (hQ : Q .normal ⟨T ops.size, H ops.size⟩) : DSem P (.region id ops true) Q s0 := by
  intro φ a w hr
  refine wp_region_any hEnv.mixed ?_
  have hr' : Rel φ s0 a { w with drawn := w.drawn + 1 } := ⟨hr.tmps, hr.defers, hr.heap.grow (Nat.le_refl _) (fun _ _ => rfl)⟩
  have hfr : Fr φ s0.A w φ s0.A { w with drawn := w.drawn + 1 } := ⟨Nat.le_refl _, Nat.le_refl _, fun _ _ _ => rfl, fun i o l h1 h2 h3 _ => ⟨i, o, l, h1, h2, h3, rfl⟩, fun _ _ _ => rfl, Ext.refl φ, fun _ _ h => h, rfl, rfl, rfl⟩
  refine way_any (φ0 := φ) (w0 := { w with drawn := w.drawn + 1 }) hEnv hS hT ?_ ops.size _ a _ (by simp) (by simp) ?_ ?_
  · intro φ' a' w' h1 h2
    exact ⟨_, φ', hQ, h1, hfr.trans h2⟩
  · intro k o e hk
    simp [Array.getD_eq_getD_getElem?, Array.getElem?_replicate] at hk
    split at hk <;> simp at hk
  · have : (fun i => (Array.replicate ops.size false).getD i false) = fun _ => false := by
      funext i
      simp only [Array.getD_eq_getD_getElem?, Array.getElem?_replicate]
      split <;> rfl
    rw [this]
    exact ⟨φ, .inl (Head.start hT hS.cut hr')⟩

end
end Go.Dx
end

section
/- The data layer: the run with data, regions of both kinds; its soundness. -/
namespace Go.Dx

abbrev Cuts := List (FuncId × List (Nat × Nat))

def cutAt : Cuts → FuncId → Option (List (Nat × Nat))
  | [], _ => none
  | (g, l) :: r, f => if f == g then some l else cutAt r f

def cutOf : List (Nat × Nat) → Nat → Nat
  | [], _ => 0
  | (i, c) :: r, id => if id == i then c else cutOf r id

def stepOp (E : List TypeId) (P : Program) (call : CallF) (ops : List Oper) (c k : Nat) (o : Oper) (s : St) : Option (Value × Hp) :=
  if wantedD ops s.t o then
    match callee (evOp s.t) o.op with
    | some (f, args) =>
      if k < c then
        (call f args (roH s.A)).bind fun (v, A') =>
          if s.A.length ≤ A'.length ∧ (A'.drop s.A.length).all (fun x => !x.alive || x.wr) = true then some (v, s.A ++ A'.drop s.A.length) else none
      else call f args s.A
    | none => (dOp E P (evOp s.t) s.A o.op).bind fun (v, u) => if k < c ∧ (u.quiet && !isNext o.op) = false then none else some (v, u.on s.A)
  else some (undef, s.A)

def runAny (E : List TypeId) (P : Program) (call : CallF) (ops : List Oper) (c : Nat) : List Oper → Nat → St → Option St
  | [], _, s => some s
  | o :: rest, k, s => (stepOp E P call ops c k o s).bind fun (v, A) => runAny E P call ops c rest (k + 1) ⟨put s.t o.dst v, A⟩

def runC (E : List TypeId) (P : Program) (call : CallF) (k : Nat) (cs : Option (List (Nat × Nat))) : Code → St → Option (Exit × St)
  | .skip, s => some (.normal, s)
  | .region id ops draw, s =>
    match draw, cs with
    | false, _ => (runAny E P call ops.toList 0 ops.toList 0 s).map fun s' => (.normal, s')
    | true, some l => (runAny E P call ops.toList (cutOf l id) ops.toList 0 s).map fun s' => (.normal, s')
    | true, none => none
  | .seq a b, s => (runC E P call k cs a s).bind fun (e, s') => match e with
    | .normal => runC E P call k cs b s'
    | e => some (e, s')
  | .cond c x y, s => match evOp s.t c with
    | some (.bool true) => runC E P call k cs x s
    | some (.bool false) => runC E P call k cs y s
    | _ => none
  | .block id b, s => (runC E P call k cs b s).map fun (e, s') => match e with
    | .exit id' => if id' = id then (.normal, s') else (.exit id', s')
    | e => (e, s')
  | .loop b, s => loopN (runC E P call k cs b) k s
  | .exit id, s => some (.exit id, s)
  | .ret, s => some (.ret, s)
  | .label _, s => some (.normal, s)
  | _, _ => none

def runF (E : List TypeId) (P : Program) (cuts : Cuts) : Nat → CallF
  | 0 => fun _ _ _ => none
  | n + 1 => fun f args A =>
    match P.funcs[f]? with
    | none => none
    | some fn => match fn.body with
      | none => none
      | some c => (runC E P (runF E P cuts n) n (cutAt cuts f) c ⟨args ++ List.replicate (fn.ntmps - args.length) undef, A⟩).bind fun (e, s) => match e with
        | .normal | .ret => (dResults P fn s).map fun v => (v, s.A)
        | _ => none

/-- Every region of this code whose order is open has a sound cut. -/
def CodeOK (l : List (Nat × Nat)) : Code → Prop
  | .region id ops draw => draw = true → StaticOK ops (cutOf l id)
  | .seq a b => CodeOK l a ∧ CodeOK l b
  | .cond _ x y => CodeOK l x ∧ CodeOK l y
  | .block _ b => CodeOK l b
  | .loop b => CodeOK l b
  | _ => True

def CutsOK (P : Program) (cuts : Cuts) : Prop :=
  ∀ f l fn c, cutAt cuts f = some l → P.funcs[f]? = some fn → fn.body = some c → CodeOK l c

/-- A call that does what it says. -/
def CallOK (P : Program) (call : CallF) : Prop :=
  ∀ f args A v A', call f args A = some (v, A') → hasBody P f = true ∧ DCalls P f args A fun v2 A2 => v2 = v ∧ A2 = A'

section
variable {P : Program} {E : List TypeId} {call : CallF} {ops : Array Oper} {c : Nat}

/-- The states on the way through the operations. -/
def onWay (E : List TypeId) (P : Program) (call : CallF) (ops : Array Oper) (c : Nat) (s0 : St) : Nat → St
  | 0 => s0
  | k + 1 => match ops[k]? with
    | some o => match stepOp E P call ops.toList c k o (onWay E P call ops c s0 k) with
      | some (v, A) => ⟨put (onWay E P call ops c s0 k).t o.dst v, A⟩
      | none => onWay E P call ops c s0 k
    | none => onWay E P call ops c s0 k

theorem runAny_way {s0 s' : St} : ∀ (rest : List Oper) (k : Nat), (∀ j, rest[j]? = ops[k + j]?) → runAny E P call ops.toList c rest k (onWay E P call ops c s0 k) = some s' →
    onWay E P call ops c s0 (k + rest.length) = s' ∧ ∀ j o, k ≤ j → ops[j]? = some o → ∃ r, stepOp E P call ops.toList c j o (onWay E P call ops c s0 j) = some r
  | [], k, hr, h => by
    simp only [runAny] at h
    cases h
    refine ⟨rfl, fun j o hj ho => ?_⟩
    have := hr (j - k)
    rw [show k + (j - k) = j by omega, ho] at this
    simp at this
  | o :: rest, k, hr, h => by
    simp only [runAny, Option.bind_eq_some_iff] at h
    obtain ⟨⟨v, A⟩, h1, h2⟩ := h
    have ho : ops[k]? = some o := by have := hr 0; simpa using this.symm
    have hs : onWay E P call ops c s0 (k + 1) = ⟨put (onWay E P call ops c s0 k).t o.dst v, A⟩ := by simp only [onWay, ho, h1]
    simp only at h2
    rw [← hs] at h2
    obtain ⟨h3, h4⟩ := runAny_way rest (k + 1) (fun j => by have := hr (j + 1); rw [show k + 1 + j = k + (j + 1) by omega, ← this]; simp) h2
    refine ⟨by rw [← h3]; simp only [List.length_cons]; congr 1; omega, fun j o' hj ho' => ?_⟩
    rcases Nat.lt_or_ge k j with hlt | hge
    · exact h4 j o' hlt ho'
    · have : j = k := by omega
      subst this
      rw [ho] at ho'; cases ho'
      exact ⟨_, h1⟩

def valWay (E : List TypeId) (P : Program) (call : CallF) (ops : Array Oper) (c : Nat) (s0 : St) (k : Nat) : Value :=
  match ops[k]? with
  | some o => match stepOp E P call ops.toList c k o (onWay E P call ops c s0 k) with
    | some (v, _) => v
    | none => undef
  | none => undef

theorem trace_of (hC : CallOK P call) {s0 : St} (h : ∀ j o, ops[j]? = some o → ∃ r, stepOp E P call ops.toList c j o (onWay E P call ops c s0 j) = some r) :
    Trace E P ops s0 c (fun _ => none) (fun k => (onWay E P call ops c s0 k).t) (fun k => (onWay E P call ops c s0 k).A) (valWay E P call ops c s0) := by
  have key : ∀ k o, ops[k]? = some o → stepOp E P call ops.toList c k o (onWay E P call ops c s0 k) = some (valWay E P call ops c s0 k, (onWay E P call ops c s0 (k + 1)).A) ∧
      (onWay E P call ops c s0 (k + 1)).t = put (onWay E P call ops c s0 k).t o.dst (valWay E P call ops c s0 k) := by
    intro k o ho
    obtain ⟨⟨v, A⟩, hr⟩ := h k o ho
    have h1 : onWay E P call ops c s0 (k + 1) = ⟨put (onWay E P call ops c s0 k).t o.dst v, A⟩ := by simp only [onWay, ho, hr]
    have h2 : valWay E P call ops c s0 k = v := by simp only [valWay, ho, hr]
    rw [h1, h2, hr]
    exact ⟨rfl, rfl⟩
  refine trace_plain rfl rfl (fun k o ho => (key k o ho).2) ?_ ?_ ?_
  · intro k o ho hw
    obtain ⟨h1, _⟩ := key k o ho
    unfold stepOp at h1
    rw [hw] at h1
    simp only [Bool.false_eq_true, if_false, Option.some.injEq, Prod.mk.injEq] at h1
    exact ⟨h1.1.symm, h1.2.symm⟩
  · intro k o f args ho hw hc
    obtain ⟨h1, _⟩ := key k o ho
    unfold stepOp at h1
    rw [hw] at h1
    simp only [if_true] at h1
    rw [hc] at h1
    simp only at h1
    split at h1
    · rename_i hk
      simp only [Option.bind_eq_some_iff] at h1
      obtain ⟨⟨v, A'⟩, h2, h3⟩ := h1
      split at h3
      · rename_i hh
        simp only [Option.some.injEq, Prod.mk.injEq] at h3
        obtain ⟨hb, hd⟩ := hC _ _ _ _ _ h2
        refine ⟨hb, fun _ => ⟨A'.drop (onWay E P call ops c s0 k).A.length, h3.2.symm, ?_, ?_⟩, fun hck => by omega⟩
        · intro x hx hal
          have := List.all_eq_true.1 hh.2 x hx
          simpa [hal] using this
        · refine hd.mono ?_
          rintro v2 A2 ⟨rfl, rfl⟩
          exact ⟨h3.1, rfl, hh.1⟩
      · cases h3
    · rename_i hk
      obtain ⟨hb, hd⟩ := hC _ _ _ _ _ h1
      exact ⟨hb, fun hck => by omega, fun _ => hd⟩
  · intro k o ho hw hc
    obtain ⟨h1, _⟩ := key k o ho
    unfold stepOp at h1
    rw [hw] at h1
    simp only [if_true] at h1
    rw [hc] at h1
    simp only [Option.bind_eq_some_iff] at h1
    obtain ⟨⟨v, u⟩, h2, h3⟩ := h1
    simp only at h3
    split at h3
    · cases h3
    · rename_i hh
      simp only [Option.some.injEq, Prod.mk.injEq] at h3
      refine ⟨u, by rw [h2, h3.1], h3.2.symm, fun hk => ?_⟩
      have : (u.quiet && !isNext o.op) = true := by
        cases hq : (u.quiet && !isNext o.op) with
        | true => rfl
        | false => exact absurd ⟨hk, hq⟩ hh
      simpa using this

theorem runAny_any (hEnv : Env P E) (hC : CallOK P call) (hS : StaticOK ops c) {s s' : St} (h : runAny E P call ops.toList c ops.toList 0 s = some s') {id : Nat} {Q : Exit → St → Prop} (hQ : Q .normal s') :
    DSem P (.region id ops true) Q s := by
  obtain ⟨h1, h2⟩ := runAny_way (s0 := s) ops.toList 0 (fun j => by simp) h
  refine dsem_any hEnv hS (trace_of hC fun j o ho => h2 j o (by omega) ho) ?_
  simp only [Nat.zero_add, Array.length_toList] at h1
  simp only [h1]
  exact hQ

theorem runAny_dops (hC : CallOK P call) {K : St → Prop} {ops : List Oper} {s' : St} (hK : K s') : ∀ (rest : List Oper) (k : Nat) (s : St), runAny E P call ops 0 rest k s = some s' → dops E P ops rest K s
  | [], k, s, h => by simp only [runAny] at h; cases h; exact hK
  | o :: rest, k, s, h => by
    simp only [runAny, Option.bind_eq_some_iff] at h
    obtain ⟨⟨v, A⟩, h1, h2⟩ := h
    have ih := runAny_dops hC hK rest (k + 1) _ h2
    unfold stepOp at h1
    simp only [dops]
    split at h1
    · rename_i hw
      rw [if_pos hw]
      split at h1
      · rename_i f args hc
        rw [hc]
        simp only [Nat.not_lt_zero, if_false] at h1
        obtain ⟨hb, hd⟩ := hC _ _ _ _ _ h1
        refine ⟨hb, hd.mono ?_⟩
        rintro v2 A2 ⟨rfl, rfl⟩
        exact ih
      · rename_i hc
        rw [hc]
        simp only [Option.bind_eq_some_iff] at h1
        obtain ⟨⟨v2, u⟩, h3, h4⟩ := h1
        simp only [Nat.not_lt_zero, false_and, if_false, Option.some.injEq, Prod.mk.injEq] at h4
        rw [h3]
        simp only
        rw [h4.1, h4.2]
        exact ih
    · rename_i hw
      rw [if_neg hw]
      simp only [Option.some.injEq, Prod.mk.injEq] at h1
      rw [h1.1, h1.2]
      exact ih

/-- A loop, by the number of rounds left. -/
theorem dsem_loopN {c : Code} {Q : Exit → St → Prop} {s : St} (I : Nat → St → Prop) (n0 : Nat) (h0 : I n0 s) (hr : ∀ n s, I n s → DSem P c (thn (fun s' => ∃ m, m < n ∧ I m s') Q) s) : DSem P (.loop c) Q s := by
  intro φ a w hrel
  have key : ∀ (n : Nat) (s1 : St) (φ1 : Rz) (a1 : Act) (w1 : World), I n s1 → Rel φ1 s1 a1 w1 → Fr φ s.A w φ1 s1.A w1 → ∀ (b : Frame) (k : List Item) (cs : List Frame),
      ∃ e a' w', (∃ s' φ', Q e s' ∧ Rel φ' s' a' w' ∧ Fr φ s.A w φ' s'.A w') ∧ Arrives P (lone (b.at a1 (.code c :: .inLoop c :: k)) cs w1) b k cs e a' w' := by
    intro n
    induction n using Nat.strongRecOn with
    | _ n ih =>
      intro s1 φ1 a1 w1 hI h1 hf b k cs
      obtain ⟨e, a2, w2, ⟨s2, φ2, hq, h2, hf2⟩, harr⟩ := hr n s1 hI φ1 a1 w1 h1 b (.inLoop c :: k) cs
      cases e with
      | normal =>
        obtain ⟨m, hlt, hI2⟩ := hq
        obtain ⟨e3, a3, w3, hq3, harr3⟩ := ih m hlt s2 φ2 a2 w2 hI2 h2 (hf.trans hf2) b k cs
        exact ⟨e3, a3, w3, hq3, .of_steps (Steps.trans harr (.one step_inLoop)) harr3⟩
      | exit id => exact ⟨_, a2, w2, ⟨s2, φ2, hq, h2, hf.trans hf2⟩, .pass (x := .inLoop c) rfl (fun _ _ => .inl (by simp)) harr⟩
      | goto l => exact ⟨_, a2, w2, ⟨s2, φ2, hq, h2, hf.trans hf2⟩, .pass (x := .inLoop c) rfl (fun _ _ => .inl (by simp)) harr⟩
      | ret => exact ⟨_, a2, w2, ⟨s2, φ2, hq, h2, hf.trans hf2⟩, .pass (x := .inLoop c) rfl (fun _ _ => .inl (by simp)) harr⟩
      | panic ch => exact ⟨_, a2, w2, ⟨s2, φ2, hq, h2, hf.trans hf2⟩, .pass (x := .inLoop c) rfl (fun _ _ => .inl (by simp)) harr⟩
      | outgrown => exact ⟨_, a2, w2, ⟨s2, φ2, hq, h2, hf.trans hf2⟩, .pass (x := .inLoop c) rfl (fun _ _ => .inl (by simp)) harr⟩
  intro b k cs
  obtain ⟨e, a', w', hq, harr⟩ := key n0 s φ a w h0 hrel (Fr.refl _ _ _) b k cs
  exact ⟨e, a', w', hq, .of_steps (.one step_loop) harr⟩

theorem runC_sound (hEnv : Env P E) (hC : CallOK P call) {k : Nat} {cs : Option (List (Nat × Nat))} : ∀ (code : Code), (∀ l, cs = some l → CodeOK l code) → ∀ (s : St) (e : Exit) (s' : St), runC E P call k cs code s = some (e, s') →
    ∀ (Q : Exit → St → Prop), Q e s' → DSem P code Q s
  | .skip, _, s, e, s', h, Q, hQ => by simp only [runC] at h; cases h; exact dsem_skip hQ
  | .label l, _, s, e, s', h, Q, hQ => by simp only [runC] at h; cases h; exact dsem_label hQ
  | .ret, _, s, e, s', h, Q, hQ => by simp only [runC] at h; cases h; exact dsem_ret hQ
  | .exit id, _, s, e, s', h, Q, hQ => by simp only [runC] at h; cases h; exact dsem_exit hQ
  | .region id ops draw, hok, s, e, s', h, Q, hQ => by
    simp only [runC] at h
    split at h
    · simp only [Option.map_eq_some_iff] at h
      obtain ⟨s2, h1, h2⟩ := h
      cases h2
      exact dsem_region hEnv (runAny_dops hC hQ _ _ _ h1)
    · rename_i l
      simp only [Option.map_eq_some_iff] at h
      obtain ⟨s2, h1, h2⟩ := h
      cases h2
      exact runAny_any hEnv hC (hok l rfl rfl) h1 hQ
    · cases h
  | .seq a b, hok, s, e, s', h, Q, hQ => by
    simp only [runC, Option.bind_eq_some_iff] at h
    obtain ⟨⟨e1, s1⟩, h1, h2⟩ := h
    refine dsem_seq (runC_sound hEnv hC a (fun l hl => (hok l hl).1) s e1 s1 h1 _ ?_)
    cases e1 with
    | normal => exact runC_sound hEnv hC b (fun l hl => (hok l hl).2) s1 e s' h2 Q hQ
    | exit id => cases h2; exact hQ
    | goto id => cases h2; exact hQ
    | ret => cases h2; exact hQ
    | panic id => cases h2; exact hQ
    | outgrown => cases h2; exact hQ
  | .cond c x y, hok, s, e, s', h, Q, hQ => by
    simp only [runC] at h
    split at h
    · rename_i hc
      exact dsem_cond hc (runC_sound hEnv hC x (fun l hl => (hok l hl).1) s e s' h Q hQ)
    · rename_i hc
      exact dsem_cond hc (runC_sound hEnv hC y (fun l hl => (hok l hl).2) s e s' h Q hQ)
    · cases h
  | .block id b, hok, s, e, s', h, Q, hQ => by
    simp only [runC, Option.map_eq_some_iff] at h
    obtain ⟨⟨e1, s1⟩, h1, h2⟩ := h
    refine dsem_block (runC_sound hEnv hC b hok s e1 s1 h1 _ ?_)
    cases e1 with
    | exit id' =>
      simp only [inB]
      simp only at h2
      split at h2
      · rename_i he; cases h2; rw [if_pos he]; exact hQ
      · rename_i he; cases h2; rw [if_neg he]; exact hQ
    | normal => cases h2; exact hQ
    | goto id => cases h2; exact hQ
    | ret => cases h2; exact hQ
    | panic id => cases h2; exact hQ
    | outgrown => cases h2; exact hQ
  | .loop b, hok, s, e, s', h, Q, hQ => by
    simp only [runC] at h
    refine dsem_loopN (fun n s1 => loopN (runC E P call k cs b) n s1 = some (e, s')) k h ?_
    intro n s1 hn
    cases n with
    | zero => simp [loopN] at hn
    | succ n =>
      simp only [loopN, Option.bind_eq_some_iff] at hn
      obtain ⟨⟨e1, s2⟩, h1, h2⟩ := hn
      refine runC_sound hEnv hC b hok s1 e1 s2 h1 _ ?_
      cases e1 with
      | normal => exact ⟨n, by omega, h2⟩
      | exit id => cases h2; exact hQ
      | goto id => cases h2; exact hQ
      | ret => cases h2; exact hQ
      | panic id => cases h2; exact hQ
      | outgrown => cases h2; exact hQ
  | .goto _, _, _, _, _, h, _, _ => by simp [runC] at h

theorem runF_ok (hEnv : Env P E) {cuts : Cuts} (hcuts : CutsOK P cuts) : ∀ n, CallOK P (runF E P cuts n)
  | 0 => fun f args A v A' h => by simp [runF] at h
  | n + 1 => fun f args A v A' h => by
    simp only [runF] at h
    split at h
    · cases h
    · rename_i fn hf
      split at h
      · cases h
      · rename_i c hb
        simp only [Option.bind_eq_some_iff] at h
        obtain ⟨⟨e, s⟩, h1, h2⟩ := h
        refine ⟨by simp [hasBody, hf, hb], dcalls_of hf hb (runC_sound hEnv (runF_ok hEnv hcuts n) c (fun l hl => hcuts f l fn c hl hf hb) _ e s h1 _ ?_)⟩
        cases e with
        | normal =>
          simp only [Option.map_eq_some_iff] at h2
          obtain ⟨v', hv, he⟩ := h2
          cases he
          exact ⟨.inl rfl, v, hv, rfl, rfl⟩
        | ret =>
          simp only [Option.map_eq_some_iff] at h2
          obtain ⟨v', hv, he⟩ := h2
          cases he
          exact ⟨.inr rfl, v, hv, rfl, rfl⟩
        | exit id => cases h2
        | goto id => cases h2
        | panic id => cases h2
        | outgrown => cases h2

end
end Go.Dx
end

section
/- The data layer: the check of a region's cut. -/
namespace Go.Dx

def bindsAny (e : Edge) : Bool := Region.binds .any e

def maskOf (done : List Nat) : List Edge → Nat → Nat
  | [], m => m
  | e :: r, m => maskOf done r (if bindsAny e then (m ||| (1 <<< e.on)) ||| done.getD e.on 0 else m)

def masks : List Oper → List Nat → List Nat
  | [], done => done
  | o :: r, done => masks r (done ++ [maskOf done o.after.toList 0])

def dsts : List Oper → Nat → List (Nat × Nat)
  | [], _ => []
  | o :: r, k => match o.dst with
    | some d => (d, k) :: dsts r (k + 1)
    | none => dsts r (k + 1)

def chkBack : List Oper → Nat → Bool
  | [], _ => true
  | o :: r, k => (o.after.toList.all fun e => !bindsAny e || Nat.blt e.on k) && chkBack r (k + 1)

def bitAt (ms : List Nat) (k j : Nat) : Bool := (ms.getD k 0).testBit j

def chkT (ops : Array Oper) (ms : List Nat) (ds : List (Nat × Nat)) : List Oper → Nat → Bool
  | [], _ => true
  | o :: r, j => ((o.looksAt ops ++ o.dst.toList).all fun d => ds.all fun (e, i) => !Nat.beq d e || Nat.beq i j || (if Nat.blt i j then bitAt ms j i else bitAt ms i j)) && chkT ops ms ds r (j + 1)

def impures : List Oper → Nat → List Nat
  | [], _ => []
  | o :: r, k => if pureOp o.op then impures r (k + 1) else k :: impures r (k + 1)

def chkO (ms : List Nat) (c : Nat) (all : List Nat) : List Nat → Bool
  | [] => true
  | k :: r => (Nat.blt k c || all.all fun j => !Nat.blt j k || bitAt ms k j) && chkO ms c all r

def chkReg (ops : Array Oper) (c : Nat) : Bool :=
  Nat.ble c ops.size && chkBack ops.toList 0 &&
    (let ms := masks ops.toList []
     chkT ops ms (dsts ops.toList 0) ops.toList 0 && (let is := impures ops.toList 0; chkO ms c is is))

theorem blt_iff {a b : Nat} : Nat.blt a b = true ↔ a < b := by rw [Nat.blt_eq]

theorem maskOf_bit (done : List Nat) (j : Nat) : ∀ (es : List Edge) (m : Nat), (maskOf done es m).testBit j = true →
    m.testBit j = true ∨ ∃ e ∈ es, bindsAny e = true ∧ (e.on = j ∨ (done.getD e.on 0).testBit j = true)
  | [], m, h => .inl h
  | e :: r, m, h => by
    simp only [maskOf] at h
    rcases maskOf_bit done j r _ h with h1 | ⟨e', he, h2⟩
    · split at h1
      · rename_i hb
        rw [Nat.testBit_or, Nat.testBit_or] at h1
        simp only [Bool.or_eq_true] at h1
        rcases h1 with (h1 | h1) | h1
        · exact .inl h1
        · right
          refine ⟨e, by simp, hb, .inl ?_⟩
          rw [Nat.one_shiftLeft, Nat.testBit_two_pow] at h1
          simpa using h1
        · exact .inr ⟨e, by simp, hb, .inr h1⟩
      · exact .inl h1
    · exact .inr ⟨e', by simp [he], h2⟩

theorem masks_spec (ops : Array Oper) : ∀ (rest : List Oper) (done : List Nat), (∀ j, rest[j]? = ops[done.length + j]?) →
    (∀ k j, k < done.length → bitAt done k j = true → Dep ops k j) → ∀ k j, bitAt (masks rest done) k j = true → Dep ops k j
  | [], done, _, hd, k, j, h => by
    simp only [masks] at h
    rcases Nat.lt_or_ge k done.length with h1 | h1
    · exact hd k j h1 h
    · simp [bitAt, List.getD_eq_getElem?_getD, List.getElem?_eq_none h1] at h
  | o :: rest, done, hr, hd, k, j, h => by
    simp only [masks] at h
    refine masks_spec ops rest _ (fun j => ?_) ?_ k j h
    · have := hr (j + 1)
      simp only [List.getElem?_cons_succ] at this
      rw [this]
      simp only [List.length_append, List.length_cons, List.length_nil]
      congr 1; omega
    · intro k j hk hb
      simp only [List.length_append, List.length_cons, List.length_nil] at hk
      rcases Nat.lt_or_ge k done.length with h1 | h1
      · refine hd k j h1 ?_
        simp only [bitAt, List.getD_eq_getElem?_getD, List.getElem?_append_left h1] at hb ⊢
        exact hb
      · have : k = done.length := by omega
        subst this
        have ho : ops[done.length]? = some o := by have := hr 0; simpa using this.symm
        simp only [bitAt, List.getD_eq_getElem?_getD, List.getElem?_append_right (Nat.le_refl _), Nat.sub_self, List.getElem?_cons_zero, Option.getD_some] at hb
        rcases maskOf_bit done j _ _ hb with h2 | ⟨e, he, h3, h4⟩
        · simp at h2
        · rcases h4 with h4 | h4
          · subst h4
            exact .edge ho (by simpa using he) h3
          · refine .step ho (by simpa using he) h3 ?_
            rcases Nat.lt_or_ge e.on done.length with h5 | h5
            · exact hd _ _ h5 h4
            · simp [List.getD_eq_getElem?_getD, List.getElem?_eq_none h5] at h4

theorem dsts_mem {d i : Nat} {o : Oper} : ∀ (l : List Oper) (k j : Nat), l[j]? = some o → o.dst = some d → i = k + j → (d, i) ∈ dsts l k
  | [], k, j, h, _, _ => by simp at h
  | p :: r, k, j, h, hd, hi => by
    cases j with
    | zero =>
      simp at h; subst h; subst hi
      simp only [dsts, hd]; simp
    | succ j =>
      have ih := dsts_mem (i := i) r (k + 1) j (by simpa using h) hd (by omega)
      simp only [dsts]
      split
      · exact List.mem_cons_of_mem _ ih
      · exact ih

theorem chkBack_spec : ∀ (l : List Oper) (k : Nat), chkBack l k = true → ∀ j o, l[j]? = some o → ∀ e ∈ o.after, Region.binds .any e = true → e.on < k + j
  | [], k, _, j, o, ho => by simp at ho
  | p :: r, k, h, j, o, ho => by
    simp only [chkBack, Bool.and_eq_true] at h
    intro e he hb
    cases j with
    | zero =>
      simp at ho; subst ho
      have := List.all_eq_true.1 h.1 e (by simpa using he)
      simp only [bindsAny, hb, Bool.not_true, Bool.false_or] at this
      exact blt_iff.1 this
    | succ j =>
      have := chkBack_spec r (k + 1) h.2 j o (by simpa using ho) e he hb
      omega

theorem chkT_spec {ops : Array Oper} {ms : List Nat} {ds : List (Nat × Nat)} : ∀ (l : List Oper) (k : Nat), chkT ops ms ds l k = true → ∀ m o, l[m]? = some o →
    ∀ d, d ∈ o.looksAt ops ∨ o.dst = some d → ∀ i, (d, i) ∈ ds → i ≠ k + m → (i < k + m → bitAt ms (k + m) i = true) ∧ (k + m < i → bitAt ms i (k + m) = true)
  | [], k, _, m, o, ho => by simp at ho
  | p :: r, k, h, m, o, ho => by
    simp only [chkT, Bool.and_eq_true] at h
    intro d hd i hi hne
    cases m with
    | zero =>
      simp at ho; subst ho
      have h1 := List.all_eq_true.1 h.1 d (by rcases hd with hd | hd <;> simp [hd])
      have h2 := List.all_eq_true.1 h1 (d, i) hi
      simp only [Nat.add_zero] at hne ⊢
      have hb : Nat.beq i k = false := by
        cases hx : Nat.beq i k with
        | false => rfl
        | true => exact absurd (Nat.eq_of_beq_eq_true hx) hne
      have hb2 : Nat.beq d d = true := Nat.beq_refl d
      simp only [hb, hb2, Bool.not_true, Bool.false_or] at h2
      constructor
      · intro hlt
        rw [if_pos (blt_iff.2 hlt)] at h2
        exact h2
      · intro hlt
        rw [if_neg (fun hh => by have := blt_iff.1 hh; omega)] at h2
        exact h2
    | succ m =>
      have := chkT_spec r (k + 1) h.2 m o (by simpa using ho) d hd i hi (by omega)
      rw [show k + 1 + m = k + (m + 1) by omega] at this
      exact this

theorem impures_mem {o : Oper} {i : Nat} : ∀ (l : List Oper) (k j : Nat), l[j]? = some o → pureOp o.op = false → i = k + j → i ∈ impures l k
  | [], k, j, h, _, _ => by simp at h
  | p :: r, k, j, h, hp, hi => by
    cases j with
    | zero =>
      simp at h; subst h; subst hi
      simp only [impures, hp]; simp
    | succ j =>
      have ih := impures_mem (i := i) r (k + 1) j (by simpa using h) hp (by omega)
      simp only [impures]
      split
      · exact ih
      · exact List.mem_cons_of_mem _ ih

theorem chkO_spec {ms : List Nat} {c : Nat} {all : List Nat} : ∀ (l : List Nat), chkO ms c all l = true → ∀ k ∈ l, c ≤ k → ∀ j ∈ all, j < k → bitAt ms k j = true
  | [], _, k, hk => by simp at hk
  | p :: r, h, k, hk => by
    simp only [chkO, Bool.and_eq_true] at h
    intro hc j hj hlt
    rcases List.mem_cons.1 hk with rfl | hk
    · have h1 := h.1
      rw [Bool.or_eq_true] at h1
      rcases h1 with h1 | h1
      · have := blt_iff.1 h1; omega
      · have := List.all_eq_true.1 h1 j hj
        rw [blt_iff.2 hlt] at this
        simpa using this
    · exact chkO_spec r h.2 k hk hc j hj hlt

theorem chkReg_ok {ops : Array Oper} {c : Nat} (h : chkReg ops c = true) : StaticOK ops c := by
  simp only [chkReg, Bool.and_eq_true] at h
  obtain ⟨⟨h1, h2⟩, h3, h4⟩ := h
  have hm := masks_spec ops ops.toList [] (fun j => by simp) (fun k j hk => by simp at hk)
  refine ⟨?_, ?_, ?_, Nat.le_of_ble_eq_true h1⟩
  · intro k o ho e he hb
    have := chkBack_spec _ _ h2 k o (by simpa using ho) e he hb
    omega
  · intro j oj hj i oi hi hne d hd hdj
    have := chkT_spec _ _ h3 j oj (by simpa using hj) d hdj i (dsts_mem _ 0 i (by simpa using hi) hd (by omega)) (by omega)
    rw [Nat.zero_add] at this
    exact ⟨fun hlt => hm _ _ (this.1 hlt), fun hlt => hm _ _ (this.2 hlt)⟩
  · intro k o ho hk hp j oj hj hlt hpj
    exact hm _ _ (chkO_spec _ h4 k (impures_mem _ 0 k (by simpa using ho) hp (by omega)) hk j (impures_mem _ 0 j (by simpa using hj) hpj (by omega)) hlt)

def chkCode (l : List (Nat × Nat)) : Code → Bool
  | .region id ops draw => !draw || chkReg ops (cutOf l id)
  | .seq a b => chkCode l a && chkCode l b
  | .cond _ x y => chkCode l x && chkCode l y
  | .block _ b => chkCode l b
  | .loop b => chkCode l b
  | _ => true

theorem chkCode_ok {l : List (Nat × Nat)} : ∀ (c : Code), chkCode l c = true → CodeOK l c
  | .region id ops draw, h => fun hd => by
    simp only [chkCode, hd, Bool.not_true, Bool.false_or] at h
    exact chkReg_ok h
  | .seq a b, h => by simp only [chkCode, Bool.and_eq_true] at h; exact ⟨chkCode_ok a h.1, chkCode_ok b h.2⟩
  | .cond _ x y, h => by simp only [chkCode, Bool.and_eq_true] at h; exact ⟨chkCode_ok x h.1, chkCode_ok y h.2⟩
  | .block _ b, h => chkCode_ok b h
  | .loop b, h => chkCode_ok b h
  | .skip, _ => True.intro
  | .rangeFunc _ _ _ _, _ => True.intro
  | .exit _, _ => True.intro
  | .scope _, _ => True.intro
  | .label _, _ => True.intro
  | .goto _, _ => True.intro
  | .ret, _ => True.intro
  | .refuse _, _ => True.intro

def chkCuts (P : Program) : Cuts → Bool
  | [] => true
  | (f, l) :: r => (match P.funcs[f]? with
    | some fn => match fn.body with
      | some c => chkCode l c
      | none => true
    | none => true) && chkCuts P r

theorem chkCuts_ok {P : Program} : ∀ (cuts : Cuts), chkCuts P cuts = true → CutsOK P cuts
  | [], _ => fun f l fn c h => by simp [cutAt] at h
  | (g, m) :: r, h => fun f l fn c hl hf hb => by
    simp only [chkCuts, Bool.and_eq_true] at h
    simp only [cutAt] at hl
    split at hl
    · rename_i he
      have he' : f = g := by simpa using he
      subst he'
      cases hl
      have h1 := h.1
      simp only [hf, hb] at h1
      exact chkCode_ok c h1
    · exact chkCuts_ok r h.2 f l fn c hl hf hb

end Go.Dx
end

