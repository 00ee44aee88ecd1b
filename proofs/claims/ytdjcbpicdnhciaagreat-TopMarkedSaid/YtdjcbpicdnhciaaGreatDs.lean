/- The data layer: a region whose order is open, out of its run in the order of the text. -/
import Derived.Test.YtdjcbpicdnhciaaGreatDq
set_option linter.unusedVariables false
set_option linter.unusedSimpArgs false

section
namespace Go.Dx

/-- j comes before k in every order. -/
inductive Dep (ops : Array Oper) : Nat → Nat → Prop
  | edge {k : Nat} {o : Oper} {e : Edge} : ops[k]? = some o → e ∈ o.after → Region.binds .any e = true → Dep ops k e.on
  | step {k j : Nat} {o : Oper} {e : Edge} : ops[k]? = some o → e ∈ o.after → Region.binds .any e = true → Dep ops e.on j → Dep ops k j

structure StaticOK (ops : Array Oper) (c : Nat) : Prop where
  back : ∀ k o, ops[k]? = some o → ∀ e ∈ o.after, Region.binds .any e = true → e.on < k
  temps : ∀ j oj, ops[j]? = some oj → ∀ i oi, ops[i]? = some oi → i ≠ j → ∀ d, oi.dst = some d → (d ∈ oj.looksAt ops ∨ oj.dst = some d) → (i < j → Dep ops j i) ∧ (j < i → Dep ops i j)
  order : ∀ k o, ops[k]? = some o → c ≤ k → pureOp o.op = false → ∀ j oj, ops[j]? = some oj → j < k → pureOp oj.op = false → Dep ops k j
  cut : c ≤ ops.size

/-- For an object that a store of the head fills: the store, and what the object is before it. -/
abbrev Pend := Nat → Option (Nat × AObj)

/-- The heap of the trace (in which all stores of the head are done), as it stands when just the operations of X have run. -/
def adj (Pn : Pend) (X : Nat → Bool) (m : Nat) (A : Hp) : Hp := A.mapIdx fun i x => match Pn i with
  | none => x
  | some (k, z) => if X k then (if m ≤ k then .dead else x) else z

/-- The heap without the objects that are filled in the head. -/
def hid (Pn : Pend) (A : Hp) : Hp := A.mapIdx fun i x => match Pn i with
  | none => x
  | some _ => .dead

theorem adj_len (Pn : Pend) (X : Nat → Bool) (m : Nat) (A : Hp) : (adj Pn X m A).length = A.length := by simp [adj]
theorem hid_len (Pn : Pend) (A : Hp) : (hid Pn A).length = A.length := by simp [hid]

theorem adj_get (Pn : Pend) (X : Nat → Bool) (m : Nat) (A : Hp) (i : Nat) : (adj Pn X m A)[i]? = (A[i]?).map fun x => match Pn i with
    | none => x
    | some (k, z) => if X k then (if m ≤ k then .dead else x) else z := by
  simp [adj, List.getElem?_mapIdx]
theorem hid_get (Pn : Pend) (A : Hp) (i : Nat) : (hid Pn A)[i]? = (A[i]?).map fun x => match Pn i with
    | none => x
    | some _ => .dead := by
  simp [hid, List.getElem?_mapIdx]

theorem adj_none (X : Nat → Bool) (m : Nat) (A : Hp) : adj (fun _ => none) X m A = A := by
  apply List.ext_getElem?; intro i; rw [adj_get]; cases A[i]? <;> rfl
theorem hid_none (A : Hp) : hid (fun _ => none) A = A := by
  apply List.ext_getElem?; intro i; rw [hid_get]; cases A[i]? <;> rfl

structure Trace (E : List TypeId) (P : Program) (ops : Array Oper) (s0 : St) (c : Nat) (Pn : Pend) (T : Nat → List Value) (H : Nat → Hp) (V : Nat → Value) : Prop where
  t0 : T 0 = s0.t
  h0 : adj Pn (fun _ => false) 0 (H 0) = s0.A
  tS : ∀ k o, ops[k]? = some o → T (k + 1) = put (T k) o.dst (V k)
  skip : ∀ k o, ops[k]? = some o → wantedD ops.toList (T k) o = false → V k = undef ∧ H (k + 1) = H k
  call : ∀ k o f args, ops[k]? = some o → wantedD ops.toList (T k) o = true → callee (evOp (T k)) o.op = some (f, args) → hasBody P f = true ∧
    (k < c → ∃ new, H (k + 1) = H k ++ new ∧ (∀ x ∈ new, x.alive = true → x.wr = true) ∧ (∀ i, (H k).length ≤ i → i < (H (k + 1)).length → Pn i = none) ∧
      DCalls P f args (roH (hid Pn (H k))) fun v A' => v = V k ∧ A'.drop (H k).length = new ∧ (H k).length ≤ A'.length) ∧
    (c ≤ k → DCalls P f args (H k) fun v A' => v = V k ∧ A' = H (k + 1))
  op : ∀ k o, ops[k]? = some o → (∀ i z, Pn i ≠ some (k, z)) → wantedD ops.toList (T k) o = true → callee (evOp (T k)) o.op = none →
    (c ≤ k → ∃ u, dOp E P (evOp (T k)) (H k) o.op = some (V k, u) ∧ H (k + 1) = u.on (H k)) ∧
    (k < c → isNext o.op = false ∧ ∃ u r, dOp E P (evOp (T k)) (hid Pn (H k)) o.op = some (V k, u) ∧ u.quiet = true ∧ H (k + 1) = H k ++ r ∧ (∀ x ∈ r, x.alive = true → x.wr = true) ∧
      u.on (hid Pn (H k)) = hid Pn (H k) ++ (adj Pn (fun _ => false) 0 (H (k + 1))).drop (H k).length)
  store : ∀ i k z, Pn i = some (k, z) → k < c ∧ ∃ o bz bx, ops[k]? = some o ∧ z = .cells bz ∧ (H k)[i]? = some (.cells bx) ∧ bz.ro = false ∧ bx.ro = false ∧ bx.ver = bz.ver ∧ pureOp o.op = false ∧ o.dst = none ∧
    wantedD ops.toList (T k) o = true ∧ callee (evOp (T k)) o.op = none ∧ H (k + 1) = H k ∧ (∀ A, A[i]? = some z → dOp E P (evOp (T k)) A o.op = some (V k, .set i (.cells bx)))
  fresh : ∀ i k z, Pn i = some (k, z) → ∀ j, j < c → (H j).length ≤ i → i < (H (j + 1)).length → Dep ops k j
  one : ∀ i i' k z z', Pn i = some (k, z) → Pn i' = some (k, z') → i = i'

/-- The temporaries, if just the operations of X have run. -/
def tX (ops : Array Oper) (V : Nat → Value) (X : Nat → Bool) (t0 : List Value) : Nat → List Value
  | 0 => t0
  | k + 1 => match ops[k]? with
    | some o => if X k then put (tX ops V X t0 k) o.dst (V k) else tX ops V X t0 k
    | none => tX ops V X t0 k

/-- How much of the heap the value in a temporary may point to. -/
def bX (ops : Array Oper) (L : Nat → Nat) (X : Nat → Bool) (d : Nat) : Nat → Nat
  | 0 => L 0
  | k + 1 => match ops[k]? with
    | some o => if X k = true ∧ o.dst = some d then L (k + 1) else bX ops L X d k
    | none => bX ops L X d k

theorem put_get (t : List Value) (o : Option Tmp) (v : Value) (d : Nat) : (put t o v)[d]? = if o = some d ∧ d < t.length then some v else t[d]? := by
  cases o with
  | none => simp [put]
  | some e =>
    simp only [put, List.getElem?_set, Option.some.injEq]
    by_cases h : e = d
    · subst h
      by_cases h2 : e < t.length
      · simp [h2]
      · simp [h2]
    · simp [h]

theorem put_length (t : List Value) (o : Option Tmp) (v : Value) : (put t o v).length = t.length := by cases o <;> simp [put]

section
variable {ops : Array Oper} {V : Nat → Value} {L : Nat → Nat} {t0 : List Value}

theorem tX_length (X : Nat → Bool) : ∀ m, (tX ops V X t0 m).length = t0.length
  | 0 => rfl
  | m + 1 => by
    simp only [tX]
    split
    · split
      · rw [put_length, tX_length X m]
      · exact tX_length X m
    · exact tX_length X m

theorem tX_congr {X Y : Nat → Bool} {d : Nat} : ∀ m, (∀ i o, i < m → ops[i]? = some o → o.dst = some d → X i = Y i) → (tX ops V X t0 m)[d]? = (tX ops V Y t0 m)[d]?
  | 0, _ => rfl
  | m + 1, h => by
    have ih := tX_congr m (fun i o hi => h i o (by omega))
    simp only [tX]
    cases ho : ops[m]? with
    | none => exact ih
    | some o =>
      simp only
      by_cases hd : o.dst = some d
      · rw [h m o (by omega) ho hd]
        split
        · rw [put_get, put_get, tX_length, tX_length, ih]
        · exact ih
      · have e1 : ∀ Z : Nat → Bool, ((if Z m = true then put (tX ops V Z t0 m) o.dst (V m) else tX ops V Z t0 m))[d]? = (tX ops V Z t0 m)[d]? := by
          intro Z
          split
          · rw [put_get, if_neg (fun hh => hd hh.1)]
          · rfl
        rw [e1, e1]; exact ih

theorem tX_beyond {X : Nat → Bool} {d m : Nat} : ∀ n, m ≤ n → (∀ i o, m ≤ i → i < n → ops[i]? = some o → o.dst = some d → X i = false) → (tX ops V X t0 n)[d]? = (tX ops V X t0 m)[d]?
  | 0, hmn, _ => by have : m = 0 := by omega
                    subst this; rfl
  | n + 1, hmn, h => by
    rcases Nat.lt_or_ge n m with h' | h'
    · have : m = n + 1 := by omega
      subst this; rfl
    · have ih := tX_beyond n h' (fun i o h1 h2 => h i o h1 (by omega))
      rw [← ih]
      simp only [tX]
      cases ho : ops[n]? with
      | none => rfl
      | some o =>
        simp only
        by_cases hd : o.dst = some d
        · rw [h n o h' (by omega) ho hd]; rfl
        · split
          · rw [put_get, if_neg (fun hh => hd hh.1)]
          · rfl

theorem bX_congr {X Y : Nat → Bool} {d : Nat} : ∀ m, (∀ i o, i < m → ops[i]? = some o → o.dst = some d → X i = Y i) → bX ops L X d m = bX ops L Y d m
  | 0, _ => rfl
  | m + 1, h => by
    have ih := bX_congr m (fun i o hi => h i o (by omega))
    simp only [bX]
    cases ho : ops[m]? with
    | none => exact ih
    | some o =>
      simp only
      by_cases hd : o.dst = some d
      · rw [h m o (by omega) ho hd, ih]
      · simp [hd, ih]

theorem bX_beyond {X : Nat → Bool} {d m : Nat} : ∀ n, m ≤ n → (∀ i o, m ≤ i → i < n → ops[i]? = some o → o.dst = some d → X i = false) → bX ops L X d n = bX ops L X d m
  | 0, hmn, _ => by have : m = 0 := by omega
                    subst this; rfl
  | n + 1, hmn, h => by
    rcases Nat.lt_or_ge n m with h' | h'
    · have : m = n + 1 := by omega
      subst this; rfl
    · have ih := bX_beyond n h' (fun i o h1 h2 => h i o h1 (by omega))
      rw [← ih]
      simp only [bX]
      cases ho : ops[n]? with
      | none => rfl
      | some o =>
        simp only
        by_cases hd : o.dst = some d
        · rw [h n o h' (by omega) ho hd]; simp
        · simp [hd]

theorem bX_le {X : Nat → Bool} {d : Nat} (hL : ∀ i, L i ≤ L (i + 1)) : ∀ m, bX ops L X d m ≤ L m
  | 0 => Nat.le_refl _
  | m + 1 => by
    have ih := bX_le (X := X) (d := d) hL m
    simp only [bX]
    split
    · split
      · exact Nat.le_refl _
      · exact Nat.le_trans ih (hL m)
    · exact Nat.le_trans ih (hL m)

end

section
variable {P : Program} {E : List TypeId} {ops : Array Oper} {s0 : St} {c : Nat} {T : Nat → List Value} {H : Nat → Hp} {V : Nat → Value} {Pn : Pend}

/-- What each operation of the head adds to the heap. -/
theorem Trace.grows (hT : Trace E P ops s0 c Pn T H V) {k : Nat} {o : Oper} (ho : ops[k]? = some o) (hk : k < c) : ∃ new, H (k + 1) = H k ++ new ∧ ∀ x ∈ new, x.alive = true → x.wr = true := by
  by_cases hst : ∃ i z, Pn i = some (k, z)
  · obtain ⟨i, z, hp⟩ := hst
    obtain ⟨_, _, _, _, _, _, _, _, _, _, _, _, _, _, h1, _⟩ := hT.store i k z hp
    exact ⟨[], by simp [h1], by simp⟩
  cases hw : wantedD ops.toList (T k) o with
  | false => exact ⟨[], by simp [(hT.skip k o ho hw).2], by simp⟩
  | true =>
    cases hc : callee (evOp (T k)) o.op with
    | some fa =>
      obtain ⟨f, args⟩ := fa
      obtain ⟨new, h1, h2, _⟩ := (hT.call k o f args ho hw hc).2.1 hk
      exact ⟨new, h1, h2⟩
    | none =>
      obtain ⟨_, u, r, _, _, h2, h3, _⟩ := (hT.op k o ho (fun i z h => hst ⟨i, z, h⟩) hw hc).2 hk
      exact ⟨r, h2, h3⟩

theorem Trace.pure_same (hT : Trace E P ops s0 c Pn T H V) {k : Nat} {o : Oper} (ho : ops[k]? = some o) (hp : pureOp o.op = true) : H (k + 1) = H k := by
  cases hw : wantedD ops.toList (T k) o with
  | false => exact (hT.skip k o ho hw).2
  | true =>
    cases hc : callee (evOp (T k)) o.op with
    | some fa =>
      exfalso
      cases hop : o.op with
      | call cc =>
        obtain ⟨cal, args, ts⟩ := cc
        cases cal <;> simp [hop, callee, pureOp] at hc hp
      | _ => simp [hop, callee] at hc
    | none =>
      have hst : ∀ i z, Pn i ≠ some (k, z) := by
        intro i z h
        obtain ⟨_, o', _, _, ho', _, _, _, _, _, hp', _⟩ := hT.store i k z h
        rw [ho] at ho'; cases ho'; rw [hp] at hp'; cases hp'
      obtain ⟨h1, h2⟩ := hT.op k o ho hst hw hc
      rcases Nat.lt_or_ge k c with hk | hk
      · obtain ⟨_, u, r, h3, _, h4, _, h5⟩ := h2 hk
        rw [pure_keep o.op hp h3] at h5
        have := congrArg List.length h5
        simp only [Upd.on, List.length_append, List.length_drop, adj_len, h4] at this
        have hr : r = [] := List.eq_nil_of_length_eq_zero (by omega)
        rw [h4, hr, List.append_nil]
      · obtain ⟨u, h3, h4⟩ := h1 hk
        rw [pure_keep o.op hp h3] at h4
        exact h4

theorem Trace.pre (hT : Trace E P ops s0 c Pn T H V) (hc : c ≤ ops.size) : ∀ d k, k + d = c → ∃ r, H c = H k ++ r
  | 0, k, h => ⟨[], by simp at h; subst h; simp⟩
  | d + 1, k, h => by
    have hk : k < c := by omega
    obtain ⟨new, h1, _⟩ := hT.grows (k := k) (o := ops[k]'(by omega)) (by simp [show k < ops.size by omega]) hk
    obtain ⟨r, hr⟩ := hT.pre hc d (k + 1) (by omega)
    exact ⟨new ++ r, by rw [hr, h1, List.append_assoc]⟩

theorem Trace.lens (hT : Trace E P ops s0 c Pn T H V) (hc : c ≤ ops.size) (i : Nat) : (H (min i c)).length ≤ (H (min (i + 1) c)).length := by
  rcases Nat.lt_or_ge i c with h | h
  · rw [Nat.min_eq_left (by omega), Nat.min_eq_left (by omega)]
    obtain ⟨new, h1, _⟩ := hT.grows (k := i) (o := ops[i]'(by omega)) (by simp [show i < ops.size by omega]) h
    rw [h1]; simp
  · rw [Nat.min_eq_right h, Nat.min_eq_right (by omega)]; exact Nat.le_refl _

theorem Trace.t_eq (hT : Trace E P ops s0 c Pn T H V) : ∀ m, m ≤ ops.size → tX ops V (fun _ => true) s0.t m = T m
  | 0, _ => hT.t0.symm
  | m + 1, h => by
    have ho : ops[m]? = some (ops[m]'(by omega)) := by simp [show m < ops.size by omega]
    simp only [tX, ho, if_true]
    rw [hT.t_eq m (by omega), hT.tS m _ ho]

end

/-- A set of operations that have run: with each one all that it waits for. -/
def Down (ops : Array Oper) (X : Nat → Bool) : Prop := ∀ k o e, X k = true → ops[k]? = some o → e ∈ o.after → Region.binds .any e = true → X e.on = true

theorem Down.dep {ops : Array Oper} {X : Nat → Bool} (h : Down ops X) {k j : Nat} (hd : Dep ops k j) : X k = true → X j = true := by
  induction hd with
  | edge ho he hb => exact fun hk => h _ _ _ hk ho he hb
  | step ho he hb _ ih => exact fun hk => ih (h _ _ _ hk ho he hb)

/-- An operation is ready: all that it waits for has run. -/
theorem dep_ready {ops : Array Oper} {X : Nat → Bool} (h : Down ops X) {k j : Nat} (hr : ∀ o e, ops[k]? = some o → e ∈ o.after → Region.binds .any e = true → X e.on = true) (hd : Dep ops k j) : X j = true := by
  cases hd with
  | edge ho he hb => exact hr _ _ ho he hb
  | step ho he hb hd => exact h.dep hd (hr _ _ ho he hb)

end Go.Dx
end

section
/- The data layer: a region whose order is open, soundness. -/
namespace Go.Dx

/-- One operation of a region with data. -/
def SD (E : List TypeId) (P : Program) (ops : Array Oper) (t : List Value) (B : Hp) (o : Oper) (R : Value → Hp → Prop) : Prop :=
  if wantedD ops.toList t o then
    match callee (evOp t) o.op with
    | some (f, args) => hasBody P f = true ∧ DCalls P f args B R
    | none => ∃ v u, dOp E P (evOp t) B o.op = some (v, u) ∧ R v (u.on B)
  else R undef B

section
variable {P : Program} {E : List TypeId} {ops : Array Oper} {o : Oper} {t : List Value} {a : Act} {w : World} {ψ : Rz} {B : Hp}

theorem looks_guard {g : Nat} {b : Bool} {oj : Oper} {d : Tmp} (hg : o.guard = some (g, b)) (hj : ops[g]? = some oj) (hd : oj.dst = some d) : d ∈ o.looksAt ops := by
  simp [Oper.looksAt, hg, hj, hd]

theorem looks_operand {d : Tmp} (h : Operand.tmp d ∈ o.op.operands.toList) : d ∈ o.looksAt ops := by
  unfold Oper.looksAt
  exact List.mem_append_left _ (List.mem_filterMap.2 ⟨.tmp d, h, rfl⟩)

theorem wanted_eq (hl : t.length = a.tmps.size) (hT : ∀ d ∈ o.looksAt ops, ∀ v v', t[d]? = some v → a.tmps[d]? = some v' → VRel ψ v v') :
    Region.wanted o (yielded ops a.tmps) = wantedD ops.toList t o := by
  unfold Region.wanted wantedD
  cases hg : o.guard with
  | none => rfl
  | some g =>
    obtain ⟨j, b⟩ := g
    simp only [yielded, Array.getElem?_toList]
    cases hj : ops[j]? with
    | none => simp
    | some oj =>
      cases hd : oj.dst with
      | none => simp [hd]
      | some d =>
        simp only [Option.bind_some, hd]
        cases ht : t[d]? with
        | none =>
          have : a.tmps[d]? = none := by
            have := List.getElem?_eq_none_iff.1 ht
            rw [hl] at this
            simpa using this
          simp [this]
        | some v =>
          have hlt : d < a.tmps.size := by rw [← hl]; exact (List.getElem?_eq_some_iff.1 ht).1
          have hv' : a.tmps[d]? = some a.tmps[d] := by simp [hlt]
          have hr := hT d (looks_guard hg hj hd) v _ ht hv'
          simp only [hv']
          generalize a.tmps[d] = y at hr
          cases hr <;> simp

open Classical in
theorem step_gen (hEnv : Env P E) (hH : HRel ψ B w) (hl : t.length = a.tmps.size) (hT : ∀ d ∈ o.looksAt ops, ∀ v v', t[d]? = some v → a.tmps[d]? = some v' → VRel ψ v v')
    {i : Nat} (hi : ops[i]? = some o) {R : Value → Hp → Prop} (h : SD E P ops t B o R) {K : Act → World → Prop} {Q : Exit → Act → World → Prop}
    (hn : ∀ φ' v v' A' w', R v A' → VRel φ' v v' → HRel φ' A' w' → Fr ψ B w φ' A' w' → K (a.put o.dst v') w') : wpOp P ops Q i K a w := by
  unfold wpOp
  simp only [hi]
  rw [wanted_eq hl hT]
  unfold SD at h
  by_cases hw : wantedD ops.toList t o = true
  · rw [if_pos hw] at h ⊢
    refine .inl ?_
    have hcg : ∀ x ∈ o.op.operands.toList, evOp t x = (fun x => if x ∈ o.op.operands.toList then evOp t x else none) x := fun x hx => by simp only; rw [if_pos hx]
    have hev : ∀ x b, (fun x => if x ∈ o.op.operands.toList then evOp t x else none) x = some b → VRel ψ b (a.eval x) := by
      intro x b hx
      simp only at hx
      split at hx
      · rename_i hmem
        cases x with
        | tmp d =>
          simp only [evOp] at hx
          have hlt : d < a.tmps.size := by rw [← hl]; exact (List.getElem?_eq_some_iff.1 hx).1
          have hv' : a.tmps[d]? = some a.tmps[d] := by simp [hlt]
          have := hT d (looks_operand hmem) b _ hx hv'
          simp only [Act.eval, Array.getD_eq_getD_getElem?, hv', Option.getD_some]
          exact this
        | const c =>
          simp only [evOp] at hx
          split at hx
          · rename_i hf; cases hx; exact flat_rel hf
          · cases hx
        | global g => simp [evOp] at hx
        | func f =>
          simp only [evOp] at hx
          cases hx
          exact .func f _ _ _ _ rfl rfl (fun i x y hx => by simp at hx) (fun i x y hx => by simp at hx)
      · cases hx
    split at h
    · rename_i f args hc
      rw [callee_congr o.op hcg] at hc
      obtain ⟨args', h1, h2⟩ := callee_run hEnv (ρ := a.eval) hev hc h.1 w
      unfold Oper.wp
      rw [h1, Oper.upon_enter]
      refine (h.2 ψ args' w hH h2).mono fun e w' ⟨v, v', A', φ', e1, e2, e3, e4, e5⟩ => ?_
      subst e1
      exact hn φ' v v' A' w' e2 e3 e4 e5
    · rename_i hc
      obtain ⟨v, u, hd, hR⟩ := h
      rw [dOp_congr o.op hcg] at hd
      obtain ⟨nx, v', w', φ', h1, h2, h3, h4, h5⟩ := dOp_sound hEnv.eq hH (ρ := a.eval) hev o hd
      unfold Oper.wp
      rw [h1]
      rcases h2 with rfl | ⟨rfl, rfl⟩
      · exact hn φ' v v' _ w' hR h3 h4 h5
      · exact hn φ' v undef _ w' hR h3 h4 h5
  · rw [if_neg hw] at h ⊢
    exact hn ψ undef undef B w h rel_undef hH (Fr.refl _ _ _)

end

theorem put_tmps (a : Act) (o : Option Tmp) (v : Value) (d : Nat) : (a.put o v).tmps[d]? = if o = some d ∧ d < a.tmps.size then some v else a.tmps[d]? := by
  cases o with
  | none => simp [Act.put]
  | some e =>
    simp only [Act.put, Array.getElem?_setIfInBounds, Option.some.injEq]
    by_cases h : e = d
    · subst h
      by_cases h2 : e < a.tmps.size
      · simp [h2]
      · simp [h2]
    · simp [h]

theorem put_size (a : Act) (o : Option Tmp) (v : Value) : (a.put o v).tmps.size = a.tmps.size := by cases o <;> simp [Act.put]

/-- k is ready after X. -/
structure Ready (ops : Array Oper) (X : Nat → Bool) (k : Nat) : Prop where
  down : Down ops X
  not : X k = false
  all : ∀ o e, ops[k]? = some o → e ∈ o.after → Region.binds .any e = true → X e.on = true

def addX (X : Nat → Bool) (k : Nat) : Nat → Bool := fun i => if i = k then true else X i

section
variable {P : Program} {E : List TypeId} {ops : Array Oper} {s0 : St} {c : Nat} {T : Nat → List Value} {H : Nat → Hp} {V : Nat → Value} {X : Nat → Bool} {k : Nat} {o : Oper} {Pn : Pend}

theorem Ready.sides (hS : StaticOK ops c) (h : Ready ops X k) (ho : ops[k]? = some o) {d : Tmp} (hd : d ∈ o.looksAt ops ∨ o.dst = some d) {i : Nat} {oi : Oper} (hi : ops[i]? = some oi) (hdi : oi.dst = some d) (hne : i ≠ k) :
    (i < k → X i = true) ∧ (k < i → X i = false) := by
  obtain ⟨h1, h2⟩ := hS.temps k o ho i oi hi hne d hdi hd
  refine ⟨fun hlt => dep_ready h.down h.all (h1 hlt), fun hlt => ?_⟩
  cases hx : X i with
  | false => rfl
  | true => have := h.down.dep (h2 hlt) hx; rw [h.not] at this; cases this

theorem Ready.look (hS : StaticOK ops c) (hT : Trace E P ops s0 c Pn T H V) (h : Ready ops X k) (ho : ops[k]? = some o) {d : Tmp} (hd : d ∈ o.looksAt ops) :
    (tX ops V X s0.t ops.size)[d]? = (T k)[d]? := by
  have hk : k < ops.size := by simpa using (Array.getElem?_eq_some_iff.1 ho).1
  rw [tX_beyond (m := k) ops.size (by omega), tX_congr (Y := fun _ => true) k, hT.t_eq k (by omega)]
  · intro i oi hik hi hdi
    exact (h.sides hS ho (.inl hd) hi hdi (by omega)).1 hik
  · intro i oi hki hik hi hdi
    by_cases he : i = k
    · subst he; exact h.not
    · exact (h.sides hS ho (.inl hd) hi hdi he).2 (by omega)

theorem Ready.lookb (hS : StaticOK ops c) {L : Nat → Nat} (hL : ∀ i, L i ≤ L (i + 1)) (h : Ready ops X k) (ho : ops[k]? = some o) {d : Tmp} (hd : d ∈ o.looksAt ops) :
    bX ops L X d ops.size ≤ L k := by
  have hk : k < ops.size := by simpa using (Array.getElem?_eq_some_iff.1 ho).1
  rw [bX_beyond (m := k) ops.size (by omega)]
  · exact bX_le hL k
  · intro i oi hki hik hi hdi
    by_cases he : i = k
    · subst he; exact h.not
    · exact (h.sides hS ho (.inl hd) hi hdi he).2 (by omega)

theorem Ready.put (hS : StaticOK ops c) (h : Ready ops X k) (ho : ops[k]? = some o) (d : Tmp) :
    (tX ops V (addX X k) s0.t ops.size)[d]? = if o.dst = some d ∧ d < s0.t.length then some (V k) else (tX ops V X s0.t ops.size)[d]? := by
  have hk : k < ops.size := by simpa using (Array.getElem?_eq_some_iff.1 ho).1
  by_cases hd : o.dst = some d
  · rw [tX_beyond (m := k + 1) ops.size (by omega)]
    · have e1 : tX ops V (addX X k) s0.t (k + 1) = Go.Dx.put (tX ops V (addX X k) s0.t k) o.dst (V k) := by
        simp only [tX, ho, addX, if_true]
      rw [e1, put_get, tX_length]
      by_cases hlt : d < s0.t.length
      · simp [hd, hlt]
      · rw [if_neg (fun hh => hlt hh.2), if_neg (fun hh => hlt hh.2), List.getElem?_eq_none (by rw [tX_length]; exact Nat.not_lt.1 hlt), List.getElem?_eq_none (by rw [tX_length]; exact Nat.not_lt.1 hlt)]
    · intro i oi hki hik hi hdi
      simp only [addX]
      rw [if_neg (by omega)]
      exact (h.sides hS ho (.inr hd) hi hdi (by omega)).2 (by omega)
  · rw [if_neg (fun hh => hd hh.1)]
    refine tX_congr ops.size fun i oi hik hi hdi => ?_
    simp only [addX]
    split
    · rename_i he; subst he; rw [ho] at hi; cases hi; exact absurd hdi hd
    · rfl

theorem Ready.putb (hS : StaticOK ops c) {L : Nat → Nat} (h : Ready ops X k) (ho : ops[k]? = some o) (d : Tmp) :
    bX ops L (addX X k) d ops.size = if o.dst = some d then L (k + 1) else bX ops L X d ops.size := by
  have hk : k < ops.size := by simpa using (Array.getElem?_eq_some_iff.1 ho).1
  by_cases hd : o.dst = some d
  · rw [if_pos hd, bX_beyond (m := k + 1) ops.size (by omega)]
    · simp only [bX, ho, addX, if_true, hd, and_self]
    · intro i oi hki hik hi hdi
      simp only [addX]
      rw [if_neg (by omega)]
      exact (h.sides hS ho (.inr hd) hi hdi (by omega)).2 (by omega)
  · rw [if_neg hd]
    refine bX_congr ops.size fun i oi hik hi hdi => ?_
    simp only [addX]
    split
    · rename_i he; subst he; rw [ho] at hi; cases hi; exact absurd hdi hd
    · rfl

theorem Ready.next (h : Ready ops X k) : Down ops (addX X k) := by
  intro i oi e hi hoi he hb
  simp only [addX] at hi ⊢
  split
  · rfl
  · split at hi
    · rename_i h2; subst h2; exact h.all oi e hoi he hb
    · exact h.down i oi e hi hoi he hb

/-! What one step is, out of the trace. -/

theorem pure_callee {ev : Operand → Option Value} {p : Op} (h : pureOp p = true) : callee ev p = none := by
  cases p with
  | call cc =>
    obtain ⟨cal, args, ts⟩ := cc
    cases cal with
    | builtin b => rfl
    | _ => simp [pureOp] at h
  | _ => rfl

theorem Trace.not_store (hT : Trace E P ops s0 c Pn T H V) (ho : ops[k]? = some o) (h : c ≤ k ∨ pureOp o.op = true) : ∀ i z, Pn i ≠ some (k, z) := by
  intro i z hp
  obtain ⟨h1, o', _, _, ho', _, _, _, _, _, hp', _⟩ := hT.store i k z hp
  rcases h with h | h
  · omega
  · rw [ho] at ho'; cases ho'; rw [h] at hp'; cases hp'

theorem Trace.sd_pure (hT : Trace E P ops s0 c Pn T H V) (ho : ops[k]? = some o) (hp : pureOp o.op = true) (B : Hp) : SD E P ops (T k) B o fun v A' => v = V k ∧ A' = B := by
  unfold SD
  cases hw : wantedD ops.toList (T k) o with
  | false => simp only [Bool.false_eq_true, if_false]; exact ⟨(hT.skip k o ho hw).1.symm, trivial⟩
  | true =>
    simp only [if_true, pure_callee hp]
    obtain ⟨g1, g2⟩ := hT.op k o ho (hT.not_store ho (.inr hp)) hw (pure_callee hp)
    have : ∃ A u, dOp E P (evOp (T k)) A o.op = some (V k, u) := by
      rcases Nat.lt_or_ge k c with hk | hk
      · obtain ⟨_, u, _, h1, _⟩ := g2 hk; exact ⟨_, u, h1⟩
      · obtain ⟨u, h1, _⟩ := g1 hk; exact ⟨_, u, h1⟩
    obtain ⟨A, u, h1⟩ := this
    have hk := pure_keep o.op hp h1
    subst hk
    exact ⟨V k, .keep, by rw [pure_any o.op hp B A]; exact h1, rfl, rfl⟩

/-- What an operation of the head does: it adds to the heap. -/
def RH (Pn : Pend) (H H' : Hp) (V : Value) (v : Value) (A' : Hp) : Prop :=
  v = V ∧ H.length ≤ A'.length ∧ A'.length = H'.length ∧ (∃ r, H' = H ++ r) ∧ A'.drop H.length = (adj Pn (fun _ => false) 0 H').drop H.length ∧ ∀ x ∈ A'.drop H.length, x.alive = true → x.wr = true

theorem RH.same {Pn : Pend} {H : Hp} {V : Value} {A' : Hp} (h : A'.length = H.length) : RH Pn H H V V A' :=
  ⟨rfl, by omega, h, ⟨[], by simp⟩, by rw [List.drop_eq_nil_of_le (by omega), List.drop_eq_nil_of_le (by rw [adj_len]; omega)], by rw [List.drop_eq_nil_of_le (by omega)]; simp⟩

theorem adj_new {Pn : Pend} {X : Nat → Bool} {m : Nat} {H new : Hp} (h : ∀ i, H.length ≤ i → i < (H ++ new).length → Pn i = none) : (adj Pn X m (H ++ new)).drop H.length = new := by
  apply List.ext_getElem?
  intro i
  rw [List.getElem?_drop, adj_get]
  rcases Nat.lt_or_ge (H.length + i) (H ++ new).length with hi | hi
  · rw [h _ (by omega) hi, List.getElem?_append_right (by omega)]
    rw [show H.length + i - H.length = i by omega]
    cases new[i]? <;> rfl
  · rw [List.getElem?_eq_none (by omega)]
    rw [List.length_append] at hi
    rw [List.getElem?_eq_none (by omega)]; rfl

theorem Trace.sd_head (hT : Trace E P ops s0 c Pn T H V) (ho : ops[k]? = some o) (hk : k < c) (hst : ∀ i z, Pn i ≠ some (k, z)) : SD E P ops (T k) (roH (hid Pn (H k))) o (RH Pn (H k) (H (k + 1)) (V k)) := by
  unfold SD
  have hl : (roH (hid Pn (H k))).length = (H k).length := by rw [roH_length, hid_len]
  cases hw : wantedD ops.toList (T k) o with
  | false =>
    simp only [Bool.false_eq_true, if_false]
    obtain ⟨h1, h2⟩ := hT.skip k o ho hw
    rw [h1, h2]
    exact RH.same hl
  | true =>
    simp only [if_true]
    cases hc : callee (evOp (T k)) o.op with
    | some fa =>
      obtain ⟨f, args⟩ := fa
      obtain ⟨hb, h1, _⟩ := hT.call k o f args ho hw hc
      obtain ⟨new, h2, h3, h5, h4⟩ := h1 hk
      refine ⟨hb, h4.mono fun v A' ⟨e1, e2, e3⟩ => ⟨e1, e3, ?_, ⟨new, h2⟩, ?_, by rw [e2]; exact h3⟩⟩
      · have := congrArg List.length e2
        rw [List.length_drop] at this
        rw [h2, List.length_append]; omega
      · rw [e2, h2, adj_new (by rw [← h2]; exact h5)]
    | none =>
      obtain ⟨hn, u, r, h1, hq, h2, h3, h4⟩ := (hT.op k o ho hst hw hc).2 hk
      refine ⟨V k, u, dOp_ro o.op h1 hq hn, rfl, ?_⟩
      have hd : (u.on (roH (hid Pn (H k)))).drop (H k).length = (adj Pn (fun _ => false) 0 (H (k + 1))).drop (H k).length := by
        cases u with
        | keep =>
          simp only [Upd.on] at h4 ⊢
          have := congrArg List.length h4
          rw [List.length_append, hid_len] at this
          rw [List.drop_eq_nil_of_le (by omega)]
          exact (List.eq_nil_of_length_eq_zero (by omega)).symm
        | new x =>
          simp only [Upd.on] at h4 ⊢
          rw [← hl, List.drop_left]
          have := congrArg (List.drop (hid Pn (H k)).length) h4
          rw [List.drop_left, List.drop_left] at this
          rw [hl]; exact this
        | set i x => cases hq
      refine ⟨?_, ?_, ⟨r, h2⟩, hd, ?_⟩
      · cases u with
        | keep => simp only [Upd.on]; omega
        | new x => simp only [Upd.on, List.length_append]; omega
        | set i x => cases hq
      · have e1 := congrArg List.length hd
        rw [List.length_drop, List.length_drop, adj_len] at e1
        have : (H k).length ≤ (H (k + 1)).length := by rw [h2]; simp
        have : (H k).length ≤ (u.on (roH (hid Pn (H k)))).length := by
          cases u with
          | keep => simp only [Upd.on]; omega
          | new x => simp only [Upd.on, List.length_append]; omega
          | set i x => cases hq
        omega
      · rw [hd]
        cases u with
        | keep =>
          simp only [Upd.on] at h4
          have := congrArg List.length h4
          rw [List.length_append, hid_len] at this
          rw [List.eq_nil_of_length_eq_zero (l := (adj Pn (fun _ => false) 0 (H (k + 1))).drop (H k).length) (by omega)]
          simp
        | new x =>
          simp only [Upd.on] at h4
          have := congrArg (List.drop (hid Pn (H k)).length) h4
          rw [List.drop_left, List.drop_left] at this
          rw [← this]
          intro y hy _; simp at hy; subst hy; exact hq
        | set i x => cases hq

theorem Trace.sd_quiet (hT : Trace E P ops s0 c Pn T H V) (ho : ops[k]? = some o) (hk : k < c ∨ pureOp o.op = true) (hst : ∀ i z, Pn i ≠ some (k, z)) : SD E P ops (T k) (roH (hid Pn (H (min k c)))) o (RH Pn (H (min k c)) (H (min (k + 1) c)) (V k)) := by
  rcases Nat.lt_or_ge k c with h | h
  · rw [Nat.min_eq_left (by omega), Nat.min_eq_left (by omega)]
    exact hT.sd_head ho h hst
  · rw [Nat.min_eq_right h, Nat.min_eq_right (by omega)]
    have hp : pureOp o.op = true := by rcases hk with h' | h'; omega; exact h'
    have hs := hT.sd_pure ho hp (roH (hid Pn (H c)))
    have hm : ∀ v A', (v = V k ∧ A' = roH (hid Pn (H c))) → RH Pn (H c) (H c) (V k) v A' := by
      rintro v A' ⟨e1, e2⟩
      subst e2; subst e1
      exact RH.same (by rw [roH_length, hid_len])
    unfold SD at hs ⊢
    split
    · rename_i hw
      rw [if_pos hw] at hs
      rw [pure_callee hp] at hs ⊢
      obtain ⟨v, u, h1, h2⟩ := hs
      exact ⟨v, u, h1, hm _ _ h2⟩
    · rename_i hw
      rw [if_neg hw] at hs
      exact hm _ _ hs

theorem Trace.sd_tail (hT : Trace E P ops s0 c Pn T H V) (ho : ops[k]? = some o) (hk : c ≤ k) : SD E P ops (T k) (H k) o fun v A' => v = V k ∧ A' = H (k + 1) := by
  unfold SD
  cases hw : wantedD ops.toList (T k) o with
  | false => simp only [Bool.false_eq_true, if_false]; exact ⟨(hT.skip k o ho hw).1.symm, (hT.skip k o ho hw).2.symm⟩
  | true =>
    simp only [if_true]
    cases hc : callee (evOp (T k)) o.op with
    | some fa =>
      obtain ⟨f, args⟩ := fa
      obtain ⟨hb, _, h1⟩ := hT.call k o f args ho hw hc
      exact ⟨hb, h1 hk⟩
    | none =>
      obtain ⟨u, h1, h2⟩ := (hT.op k o ho (hT.not_store ho (.inl hk)) hw hc).1 hk
      exact ⟨V k, u, h1, rfl, h2.symm⟩

/-- The store of the head. -/
theorem Trace.sd_store (hT : Trace E P ops s0 c Pn T H V) {i : Nat} {z : AObj} (hp : Pn i = some (k, z)) : ∃ o x, ops[k]? = some o ∧ (H k)[i]? = some x ∧ ∀ B, B[i]? = some z → SD E P ops (T k) B o fun v A' => v = V k ∧ A' = B.set i x := by
  obtain ⟨_, o, bz, bx, ho, _, hx, _, _, _, _, _, hw, hc, _, h1⟩ := hT.store i k z hp
  refine ⟨o, _, ho, hx, fun B hB => ?_⟩
  unfold SD
  rw [hw]
  simp only [if_true, hc]
  exact ⟨V k, _, h1 B hB, rfl, rfl⟩

/-- A trace without a store in the head. -/
theorem trace_plain (t0 : T 0 = s0.t) (h0 : H 0 = s0.A) (tS : ∀ k o, ops[k]? = some o → T (k + 1) = put (T k) o.dst (V k))
    (skip : ∀ k o, ops[k]? = some o → wantedD ops.toList (T k) o = false → V k = undef ∧ H (k + 1) = H k)
    (call : ∀ k o f args, ops[k]? = some o → wantedD ops.toList (T k) o = true → callee (evOp (T k)) o.op = some (f, args) → hasBody P f = true ∧
      (k < c → ∃ new, H (k + 1) = H k ++ new ∧ (∀ x ∈ new, x.alive = true → x.wr = true) ∧ DCalls P f args (roH (H k)) fun v A' => v = V k ∧ A'.drop (H k).length = new ∧ (H k).length ≤ A'.length) ∧
      (c ≤ k → DCalls P f args (H k) fun v A' => v = V k ∧ A' = H (k + 1)))
    (op : ∀ k o, ops[k]? = some o → wantedD ops.toList (T k) o = true → callee (evOp (T k)) o.op = none →
      ∃ u, dOp E P (evOp (T k)) (H k) o.op = some (V k, u) ∧ H (k + 1) = u.on (H k) ∧ (k < c → u.quiet = true ∧ isNext o.op = false)) :
    Trace E P ops s0 c (fun _ => none) T H V := by
  refine ⟨t0, by rw [adj_none]; exact h0, tS, skip, ?_, ?_, fun i k z h => (by cases h), fun i k z h => (by cases h), fun i i' k z z' h => (by cases h)⟩
  · intro k o f args ho hw hc
    obtain ⟨h1, h2, h3⟩ := call k o f args ho hw hc
    refine ⟨h1, fun hk => ?_, h3⟩
    obtain ⟨new, g1, g2, g3⟩ := h2 hk
    exact ⟨new, g1, g2, fun _ _ _ => rfl, by rw [hid_none]; exact g3⟩
  · intro k o ho _ hw hc
    obtain ⟨u, h1, h2, h3⟩ := op k o ho hw hc
    refine ⟨fun _ => ⟨u, h1, h2⟩, fun hk => ?_⟩
    obtain ⟨hq, hn⟩ := h3 hk
    refine ⟨hn, u, ?_⟩
    rw [hid_none, adj_none]
    cases u with
    | keep => exact ⟨[], h1, rfl, by rw [h2]; simp [Upd.on], by simp, by rw [h2]; simp [Upd.on]⟩
    | new x => exact ⟨[x], h1, hq, h2, by intro y hy _; simp at hy; subst hy; exact hq, by rw [h2]; simp [Upd.on]⟩
    | set i x => cases hq

end
end Go.Dx
end

