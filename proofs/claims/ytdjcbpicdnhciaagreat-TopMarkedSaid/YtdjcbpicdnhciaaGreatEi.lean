/- The data layer: a walk through a region with one store in its head. -/
import Derived.Test.YtdjcbpicdnhciaaGreatEh
set_option linter.unusedVariables false
set_option linter.unusedSimpArgs false
namespace Go.Dx

/-- One object is filled by one store. -/
def pend1 (i0 k0 : Nat) (bz : Blk) : Pend := fun i => if i = i0 then some (k0, .cells bz) else none

def StepP (E : List TypeId) (P : Program) (ops : Array Oper) (c i0 k0 : Nat) (bz : Blk) (k : Nat) (o : Oper) (s : St) (v : Value) (A : Hp) : Prop :=
  (c ≤ k ∧ StepR E P ops.toList c k o s v A) ∨
  (k < c ∧ k ≠ k0 ∧ wantedD ops.toList s.t o = false ∧ v = undef ∧ A = s.A) ∨
  (k < c ∧ k ≠ k0 ∧ wantedD ops.toList s.t o = true ∧ callee (evOp s.t) o.op = none ∧ isNext o.op = false ∧
    ((dOp E P (evOp s.t) (hid (pend1 i0 k0 bz) s.A) o.op = some (v, .keep) ∧ A = s.A) ∨
     (∃ x, dOp E P (evOp s.t) (hid (pend1 i0 k0 bz) s.A) o.op = some (v, .new x) ∧ x.wr = true ∧ s.A.length ≠ i0 ∧ A = s.A ++ [x]) ∨
     (∃ bx, dOp E P (evOp s.t) (hid (pend1 i0 k0 bz) s.A) o.op = some (v, .new (.cells bz)) ∧ s.A.length = i0 ∧ bz.ro = false ∧ bx.ro = false ∧ Dep ops k0 k ∧ A = s.A ++ [.cells bx]))) ∨
  (k < c ∧ k = k0 ∧ wantedD ops.toList s.t o = true ∧ callee (evOp s.t) o.op = none ∧ pureOp o.op = false ∧ o.dst = none ∧ A = s.A ∧
    ∃ bx, s.A[i0]? = some (.cells bx) ∧ bz.ro = false ∧ bx.ro = false ∧ bx.ver = bz.ver ∧ ∀ B : Hp, B[i0]? = some (.cells bz) → dOp E P (evOp s.t) B o.op = some (v, .set i0 (.cells bx)))

inductive AnyRP (E : List TypeId) (P : Program) (ops : Array Oper) (c i0 k0 : Nat) (bz : Blk) : List Oper → Nat → St → St → Prop
  | nil (k : Nat) (s : St) : AnyRP E P ops c i0 k0 bz [] k s s
  | cons {o : Oper} {rest : List Oper} {k : Nat} {s s' : St} {v : Value} {A : Hp} : StepP E P ops c i0 k0 bz k o s v A → AnyRP E P ops c i0 k0 bz rest (k + 1) ⟨put s.t o.dst v, A⟩ s' → AnyRP E P ops c i0 k0 bz (o :: rest) k s s'

section
variable {P : Program} {E : List TypeId} {ops : Array Oper} {c i0 k0 : Nat} {bz : Blk}

theorem AnyRP.way {rest : List Oper} {k : Nat} {s s' : St} (h : AnyRP E P ops c i0 k0 bz rest k s s') :
    ∃ (F : Nat → St) (V : Nat → Value), F k = s ∧ F (k + rest.length) = s' ∧ ∀ j o, rest[j]? = some o → StepP E P ops c i0 k0 bz (k + j) o (F (k + j)) (V (k + j)) (F (k + j + 1)).A ∧ (F (k + j + 1)).t = put (F (k + j)).t o.dst (V (k + j)) := by
  induction h with
  | nil k s => exact ⟨fun _ => s, fun _ => undef, rfl, rfl, fun j o h => by simp at h⟩
  | @cons o rest k s s' v A h1 _ ih =>
    obtain ⟨F, V, f1, f2, f3⟩ := ih
    refine ⟨fun j => if j = k then s else F j, fun j => if j = k then v else V j, by simp, ?_, ?_⟩
    · simp only [List.length_cons]
      rw [if_neg (by omega), show k + (rest.length + 1) = k + 1 + rest.length by omega]
      exact f2
    · intro j o' hj
      cases j with
      | zero =>
        simp at hj; subst hj
        simp only [Nat.add_zero, if_true]
        rw [if_neg (by omega), f1]
        exact ⟨h1, rfl⟩
      | succ j =>
        have := f3 j o' (by simpa using hj)
        simp only
        rw [if_neg (by omega), if_neg (by omega), if_neg (by omega)]
        rw [show k + (j + 1) = k + 1 + j by omega]
        exact this

theorem adj_pend (A : Hp) : adj (pend1 i0 k0 bz) (fun _ => false) 0 A = if i0 < A.length then A.set i0 (.cells bz) else A := by
  apply List.ext_getElem?
  intro i
  rw [adj_get]
  by_cases hl : i0 < A.length
  · rw [if_pos hl, List.getElem?_set]
    by_cases hi : i0 = i
    · subst hi; simp [pend1, hl]
    · rw [if_neg hi]
      have : pend1 i0 k0 bz i = none := by simp only [pend1]; rw [if_neg (fun e => hi e.symm)]
      rw [this]; cases A[i]? <;> rfl
  · rw [if_neg hl]
    by_cases hi : i = i0
    · subst hi; rw [List.getElem?_eq_none (by omega)]; rfl
    · have : pend1 i0 k0 bz i = none := by simp only [pend1]; rw [if_neg hi]
      rw [this]; cases A[i]? <;> rfl

theorem adj_last {A : Hp} {x : AObj} (h : A.length ≠ i0) : (adj (pend1 i0 k0 bz) (fun _ => false) 0 (A ++ [x])).drop A.length = [x] := by
  refine adj_new fun i h1 h2 => ?_
  simp at h2
  have : i = A.length := by omega
  subst this
  simp [pend1, h]

theorem adj_lastP {A : Hp} {x : AObj} (h : A.length = i0) : (adj (pend1 i0 k0 bz) (fun _ => false) 0 (A ++ [x])).drop A.length = [.cells bz] := by
  rw [adj_pend, if_pos (by simp; omega), ← h, List.set_append_right _ _ (Nat.le_refl _), List.drop_left]
  simp

/-- One store in the head: the region, out of a run in the order of the text. -/
theorem AnyRP.trace {s0 s s' : St} (hk0 : k0 < c) (hc : c ≤ ops.size) (hs : adj (pend1 i0 k0 bz) (fun _ => false) 0 s.A = s0.A) (ht : s.t = s0.t) (h : AnyRP E P ops c i0 k0 bz ops.toList 0 s s') :
    ∃ T H V, Trace E P ops s0 c (pend1 i0 k0 bz) T H V ∧ s' = ⟨T ops.size, H ops.size⟩ := by
  obtain ⟨F, V, f1, f2, f3⟩ := h.way
  have key : ∀ k o, ops[k]? = some o → StepP E P ops c i0 k0 bz k o (F k) (V k) (F (k + 1)).A ∧ (F (k + 1)).t = put (F k).t o.dst (V k) := by
    intro k o ho
    have := f3 k o (by simpa using ho)
    simpa using this
  have hp0 : ∀ i k z, pend1 i0 k0 bz i = some (k, z) → i = i0 ∧ k = k0 ∧ z = .cells bz := by
    intro i k z h
    simp only [pend1] at h
    split at h
    · rename_i hi; cases h; exact ⟨hi, rfl, rfl⟩
    · cases h
  refine ⟨fun k => (F k).t, fun k => (F k).A, V, ⟨?_, ?_, fun k o ho => (key k o ho).2, ?_, ?_, ?_, ?_, ?_, ?_⟩, ?_⟩
  · simp [f1, ht]
  · simp only [f1]; exact hs
  · intro k o ho hw
    obtain ⟨h1, _⟩ := key k o ho
    rcases h1 with ⟨_, h1⟩ | ⟨_, _, _, h1, h2⟩ | ⟨_, _, h1, _⟩ | ⟨_, _, h1, _⟩
    · unfold StepR at h1
      rw [hw] at h1
      simpa using h1
    · exact ⟨h1, h2⟩
    · rw [h1] at hw; cases hw
    · rw [h1] at hw; cases hw
  · intro k o f args ho hw hcc
    obtain ⟨h1, _⟩ := key k o ho
    rcases h1 with ⟨hck, h1⟩ | ⟨_, _, h1, _⟩ | ⟨_, _, _, h1, _⟩ | ⟨_, _, _, h1, _⟩
    · unfold StepR at h1
      rw [hw] at h1
      simp only [if_true] at h1
      rw [hcc] at h1
      simp only at h1
      rw [if_neg (by omega)] at h1
      exact ⟨h1.1, fun hk => by omega, fun _ => h1.2⟩
    · rw [h1] at hw; cases hw
    · rw [h1] at hcc; cases hcc
    · rw [h1] at hcc; cases hcc
  · intro k o ho hst hw hcc
    obtain ⟨h1, _⟩ := key k o ho
    rcases h1 with ⟨hck, h1⟩ | ⟨_, _, h1, _⟩ | ⟨hk, hkk, _, _, hn, h1⟩ | ⟨_, h1, _⟩
    · unfold StepR at h1
      rw [hw] at h1
      simp only [if_true] at h1
      rw [hcc] at h1
      simp only at h1
      obtain ⟨u, h2, h3, _⟩ := h1
      exact ⟨fun _ => ⟨u, h2, h3⟩, fun hk => by omega⟩
    · rw [h1] at hw; cases hw
    · refine ⟨fun hck => by omega, fun _ => ⟨hn, ?_⟩⟩
      rcases h1 with ⟨h2, h3⟩ | ⟨x, h2, h3, h4, h5⟩ | ⟨bx, h2, h3, h4, h5, _, h6⟩
      · refine ⟨.keep, [], h2, rfl, by rw [h3]; simp, by simp, ?_⟩
        rw [h3]
        rw [List.drop_eq_nil_of_le (by rw [adj_len]; exact Nat.le_refl _), List.append_nil]; rfl
      · refine ⟨.new x, [x], h2, h3, h5, fun y hy _ => by simp at hy; subst hy; exact h3, ?_⟩
        rw [h5, adj_last h4]; rfl
      · refine ⟨.new (.cells bz), [.cells bx], h2, by simp [Upd.quiet, AObj.wr, h4], h6, fun y hy _ => by simp at hy; subst hy; simp [AObj.wr, h5], ?_⟩
        rw [h6, adj_lastP h3]; rfl
    · exact absurd (by simp [pend1, h1]) (hst i0 (.cells bz))
  · intro i k z hp
    obtain ⟨rfl, rfl, rfl⟩ := hp0 i k z hp
    have ho : ops[k]? = some (ops[k]'(by omega)) := by simp [show k < ops.size by omega]
    obtain ⟨h1, _⟩ := key k _ ho
    rcases h1 with ⟨hck, _⟩ | ⟨_, h1, _⟩ | ⟨_, h1, _⟩ | ⟨_, _, h2, h3, h4, h5, h6, bx, h7, h8, h9, h10, h11⟩
    · omega
    · exact absurd rfl h1
    · exact absurd rfl h1
    · exact ⟨hk0, _, bz, bx, ho, rfl, h7, h8, h9, h10, h4, h5, h2, h3, h6, h11⟩
  · intro i k z hp j hj hl1 hl2
    obtain ⟨rfl, rfl, rfl⟩ := hp0 i k z hp
    have ho : ops[j]? = some (ops[j]'(by omega)) := by simp [show j < ops.size by omega]
    obtain ⟨h1, _⟩ := key j _ ho
    rcases h1 with ⟨hck, _⟩ | ⟨_, _, _, _, h2⟩ | ⟨_, _, _, _, _, h1⟩ | ⟨_, _, _, _, _, _, h2, _⟩
    · omega
    · simp only [h2] at hl2; omega
    · rcases h1 with ⟨_, h2⟩ | ⟨x, _, _, h3, h4⟩ | ⟨bx, _, _, _, _, h3, _⟩
      · simp only [h2] at hl2; omega
      · simp only [h4, List.length_append, List.length_singleton] at hl2; omega
      · exact h3
    · simp only [h2] at hl2; omega
  · intro i i' k z z' h1 h2
    obtain ⟨rfl, _⟩ := hp0 i k z h1
    obtain ⟨rfl, _⟩ := hp0 i' k z' h2
    rfl
  · simp only [Nat.zero_add, Array.length_toList] at f2
    rw [← f2]

/-- A walk through a region with one store in its head. -/
def Wp (E : List TypeId) (P : Program) (n : Nat) (ops : Array Oper) (c i0 k0 : Nat) (bz : Blk) (rest : List Oper) (k : Nat) (m : TF) (A : Hp) (K : TF → Hp → Prop) : Prop :=
  ∀ t, Knows n m t → ∃ t' A' m', AnyRP E P ops c i0 k0 bz rest k ⟨t, A⟩ ⟨t', A'⟩ ∧ Knows n m' t' ∧ K m' A'

section
variable {n : Nat} {m : TF} {A : Hp} {Q : Exit → TF → Hp → Prop} {K : TF → Hp → Prop} {k : Nat} {rest : List Oper} {d : Nat} {op : Op} {ty : TypeId} {ps : String} {af : Array Edge} {g : Option (Nat × Bool)}

theorem w_drawP (hEnv : Env P E) {id : Nat} (c i0 k0 : Nat) (bz : Blk) (A0 : Hp) (hS : chkReg ops c = true) (hk0 : Nat.blt k0 c = true) (hA : (if i0 < A0.length then A0.set i0 (.cells bz) else A0) = A)
    (h : Wp E P n ops c i0 k0 bz ops.toList 0 m A0 (fun m' A' => Q .normal m' A')) : W P n (.region id ops true) m A Q := by
  intro t ht
  obtain ⟨t', A', m', h1, h2, h3⟩ := h t ht
  refine ⟨.normal, t', A', m', ?_, h2, h3⟩
  have hok := chkReg_ok hS
  obtain ⟨T, H, V, hT, he⟩ := AnyRP.trace (s0 := ⟨t, A⟩) (s := ⟨t, A0⟩) (blt_iff.1 hk0) hok.cut (by rw [adj_pend]; exact hA) rfl h1
  rw [he]
  exact dsem_any hEnv hok hT ⟨rfl, rfl⟩

theorem wp_tail (hck : Nat.ble c k = true) (h : Wo E P n ops.toList c rest k m A K) : Wp E P n ops c i0 k0 bz rest k m A K := by
  intro t ht
  obtain ⟨t', A', m', h1, h2, h3⟩ := h t ht
  refine ⟨t', A', m', ?_, h2, h3⟩
  have key : ∀ (rest : List Oper) (k : Nat) (s s' : St), AnyR E P ops.toList c rest k s s' → c ≤ k → AnyRP E P ops c i0 k0 bz rest k s s' := by
    intro rest k s s' h
    induction h with
    | nil k s => exact fun _ => .nil k s
    | cons h1 _ ih => exact fun hk => .cons (.inl ⟨hk, h1⟩) (ih (by omega))
  exact key _ _ _ _ h1 (Nat.le_of_ble_eq_true hck)

theorem wp_keep {v : Value} (h : dOp E P (evM m) (hid (pend1 i0 k0 bz) A) op = some (v, .keep)) (hw : wantM ops.toList m ⟨some d, op, ty, ps, af, g⟩ = some true) (hc : ∀ ev, callee ev op = none) (hi : isNext op = false) (hd : Nat.blt d n = true) (hkc : Nat.blt k c = true) (hk0 : Nat.beq k k0 = false)
    (hn : Wp E P n ops c i0 k0 bz rest (k + 1) ((d, v) :: m) A K) : Wp E P n ops c i0 k0 bz (⟨some d, op, ty, ps, af, g⟩ :: rest) k m A K := by
  intro t ht
  obtain ⟨t', A', m', h1, h2, h3⟩ := hn _ (ht.put (d := some d) (dstOK_lt (d := some d) hd) v)
  refine ⟨t', A', m', .cons (.inr (.inr (.inl ⟨blt_iff.1 hkc, ?_, ht.want hw, hc _, hi, .inl ⟨dOp_mono ht.ev h, rfl⟩⟩))) h1, h2, h3⟩
  intro e; subst e; rw [Nat.beq_refl] at hk0; cases hk0

theorem wp_new {v : Value} {x : AObj} (h : dOp E P (evM m) (hid (pend1 i0 k0 bz) A) op = some (v, .new x)) (hx : x.wr = true) (hne : A.length ≠ i0) (hw : wantM ops.toList m ⟨some d, op, ty, ps, af, g⟩ = some true) (hc : ∀ ev, callee ev op = none) (hi : isNext op = false) (hd : Nat.blt d n = true) (hkc : Nat.blt k c = true) (hk0 : Nat.beq k k0 = false)
    (hn : Wp E P n ops c i0 k0 bz rest (k + 1) ((d, v) :: m) (A ++ [x]) K) : Wp E P n ops c i0 k0 bz (⟨some d, op, ty, ps, af, g⟩ :: rest) k m A K := by
  intro t ht
  obtain ⟨t', A', m', h1, h2, h3⟩ := hn _ (ht.put (d := some d) (dstOK_lt (d := some d) hd) v)
  refine ⟨t', A', m', .cons (.inr (.inr (.inl ⟨blt_iff.1 hkc, ?_, ht.want hw, hc _, hi, .inr (.inl ⟨x, dOp_mono ht.ev h, hx, hne, rfl⟩)⟩))) h1, h2, h3⟩
  intro e; subst e; rw [Nat.beq_refl] at hk0; cases hk0

/-- Is there an edge? -/
def edgeB (ops : Array Oper) (k j : Nat) : Bool := match ops[k]? with
  | some o => o.after.toList.any fun e => Region.binds .any e && Nat.beq e.on j
  | none => false

theorem edgeB_dep {k j : Nat} (h : edgeB ops k j = true) : Dep ops k j := by
  unfold edgeB at h
  split at h
  · rename_i o ho
    obtain ⟨e, h1, h2⟩ := List.any_eq_true.1 h
    simp only [Bool.and_eq_true] at h2
    have := Nat.eq_of_beq_eq_true h2.2
    subst this
    exact .edge ho (by simpa using h1) h2.1
  · cases h

theorem wp_newP {v : Value} (bx : Blk) (h : dOp E P (evM m) (hid (pend1 i0 k0 bz) A) op = some (v, .new (.cells bz))) (hl : A.length = i0) (hb : bz.ro = false) (hb2 : bx.ro = false) (he : edgeB ops k0 k = true) (hw : wantM ops.toList m ⟨some d, op, ty, ps, af, g⟩ = some true) (hc : ∀ ev, callee ev op = none) (hi : isNext op = false) (hd : Nat.blt d n = true) (hkc : Nat.blt k c = true) (hk0 : Nat.beq k k0 = false)
    (hn : Wp E P n ops c i0 k0 bz rest (k + 1) ((d, v) :: m) (A ++ [.cells bx]) K) : Wp E P n ops c i0 k0 bz (⟨some d, op, ty, ps, af, g⟩ :: rest) k m A K := by
  intro t ht
  obtain ⟨t', A', m', h1, h2, h3⟩ := hn _ (ht.put (d := some d) (dstOK_lt (d := some d) hd) v)
  refine ⟨t', A', m', .cons (.inr (.inr (.inl ⟨blt_iff.1 hkc, ?_, ht.want hw, hc _, hi, .inr (.inr ⟨bx, dOp_mono ht.ev h, hl, hb, hb2, edgeB_dep he, rfl⟩)⟩))) h1, h2, h3⟩
  intro e; subst e; rw [Nat.beq_refl] at hk0; cases hk0

theorem wp_store {t : TypeId} {x y : Operand} {off ver : Nat} {bx : Blk} {v : Value} {ti : TypeInfo} (hx : evM m x = some (.pointer (some ⟨i0, off, some ver⟩))) (hy : evM m y = some v) (hbx : A[i0]? = some (.cells bx)) (hv : bz.ver = ver) (hb : bz.ro = false)
    (he : bx = { bz with cs := splice bz.cs off v.cells.toList }) (hle : off + v.cells.toList.length ≤ bz.cs.length) (hcl : v.cells.toList.all isCell = true)
    (hw : wantM ops.toList m ⟨none, .store t x y, ty, ps, af, g⟩ = some true) (hi : P.info? t = some ti) (hl : v.cells.toList.length = ti.size) (hkc : Nat.blt k c = true) (hk0 : Nat.beq k k0 = true)
    (hn : Wp E P n ops c i0 k0 bz rest (k + 1) m A K) : Wp E P n ops c i0 k0 bz (⟨none, .store t x y, ty, ps, af, g⟩ :: rest) k m A K := by
  have hk0' := Nat.eq_of_beq_eq_true hk0
  intro tt ht
  obtain ⟨t', A', m', h1, h2, h3⟩ := hn tt ht
  refine ⟨t', A', m', .cons (v := .tuple #[]) (.inr (.inr (.inr ⟨blt_iff.1 hkc, hk0', ht.want hw, rfl, rfl, rfl, rfl, bx, hbx, hb, by rw [he]; exact hb, by rw [he], fun B hB => ?_⟩))) h1, h2, h3⟩
  refine dOp_mono ht.ev ?_
  simp only [dOp, hx, hy, Option.bind_some, hi, hl, if_true, wrt, hB]
  rw [if_pos ⟨hb, hv, by rw [← hl]; exact hle, hcl⟩, he]
  rfl

end
end

/-- What is seen is seen all the same. -/
theorem le_hid {V B : Hp} {i0 k0 : Nat} {bz : Blk} (h : Le V B) (hn : ∀ b, V[i0]? ≠ some (.cells b)) : Le V (hid (pend1 i0 k0 bz) B) := by
  intro i b hb
  obtain ⟨b', h1, h2⟩ := h i b hb
  refine ⟨b', ?_, h2⟩
  rw [hid_get, h1]
  have : i ≠ i0 := fun e => by subst e; exact hn b hb
  simp [pend1, this]

end Go.Dx
