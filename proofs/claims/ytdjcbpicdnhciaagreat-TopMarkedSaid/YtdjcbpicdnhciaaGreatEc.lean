/- The data layer: slices that are read; steps of a walk that look at memory. -/
import Derived.Test.YtdjcbpicdnhciaaGreatDz
set_option linter.unusedVariables false
set_option linter.unusedSimpArgs false

section
namespace Go.Dx

/-- A slice of rows of cells. -/
def Sl (A : Hp) (a : Option Addr) (sz : Nat) (rows : List (List Value)) : Prop :=
  rows = [] ∨ ∃ i off ver b, a = some ⟨i, off, some ver⟩ ∧ A[i]? = some (.cells b) ∧ b.ver = ver ∧
    (b.cs.drop off).take (rows.length * sz) = rows.flatten ∧ off + rows.length * sz ≤ b.cs.length ∧ (∀ r ∈ rows, r.length = sz) ∧ b.es = sz

theorem flatten_row {α : Type} {sz : Nat} : ∀ {rows : List (List α)} {j : Nat} {row : List α}, (∀ r ∈ rows, r.length = sz) → rows[j]? = some row → (rows.flatten.drop (j * sz)).take sz = row
  | [], j, row, _, h => by simp at h
  | r :: rows, 0, row, hl, h => by
    simp at h; subst h
    simp [hl r (by simp)]
  | r :: rows, j + 1, row, hl, h => by
    have h1 : r.length = sz := hl r (by simp)
    have ih := flatten_row (rows := rows) (j := j) (fun r hr => hl r (by simp [hr])) (by simpa using h)
    rw [List.flatten_cons, List.drop_append, List.drop_eq_nil_of_le (by rw [h1, Nat.succ_mul]; omega), List.nil_append, h1, Nat.succ_mul, Nat.add_sub_cancel]
    exact ih

theorem Sl.row {A : Hp} {a : Option Addr} {sz : Nat} {rows : List (List Value)} (h : Sl A a sz rows) {j : Nat} {row : List Value} (hj : rows[j]? = some row) :
    ∃ i off ver, a = some ⟨i, off, some ver⟩ ∧ rd A ⟨i, off + j * sz, some ver⟩ sz = some row := by
  have hjl : j < rows.length := (List.getElem?_eq_some_iff.1 hj).1
  rcases h with h | ⟨i, off, ver, b, h1, h2, h3, h4, h5, h6, _⟩
  · subst h; simp at hjl
  · refine ⟨i, off, ver, h1, ?_⟩
    have hle : (j + 1) * sz ≤ rows.length * sz := Nat.mul_le_mul_right _ hjl
    have hle' : j * sz + sz ≤ rows.length * sz := by rw [← Nat.succ_mul]; exact hle
    simp only [rd, h2, h3, true_and]
    rw [if_pos (by omega)]
    congr 1
    rw [← flatten_row h6 hj, ← h4, List.drop_take, List.take_take, List.drop_drop]
    congr 1; omega

section
variable {P : Program} {E : List TypeId} {n : Nat} {m : TF} {A : Hp} {K : TF → Hp → Prop} {ops : List Oper} {c k : Nat} {rest : List Oper} {d : Nat} {op : Op} {ty : TypeId} {ps : String} {af : Array Edge} {g : Option (Nat × Bool)}

/-- An operation that leaves memory as it is. -/
theorem wo_pure {v : Value} (h : dOp E P (evM m) A op = some (v, .keep)) (hw : wantM ops m ⟨some d, op, ty, ps, af, g⟩ = some true) (hc : ∀ ev, callee ev op = none) (hi : isNext op = false) (hd : Nat.blt d n = true)
    (hn : Wo E P n ops c rest (k + 1) ((d, v) :: m) A K) : Wo E P n ops c (⟨some d, op, ty, ps, af, g⟩ :: rest) k m A K :=
  wo_op (o := ⟨some d, op, ty, ps, af, g⟩) hd hw hc h (fun _ => ⟨rfl, hi⟩) hn

/-- An operation that is not wanted. -/
theorem wo_not (hw : wantM ops m ⟨some d, op, ty, ps, af, g⟩ = some false) (hd : Nat.blt d n = true)
    (hn : Wo E P n ops c rest (k + 1) ((d, undef) :: m) A K) : Wo E P n ops c (⟨some d, op, ty, ps, af, g⟩ :: rest) k m A K :=
  wo_skip (o := ⟨some d, op, ty, ps, af, g⟩) hd hw hn

/-- The place of an element of a slice. -/
theorem wo_at {t e : TypeId} {x ix : Operand} {a : Option Addr} {len cap sz : Nat} {kk : IntKind} {j : Int} {rows : List (List Value)} (row : List Value)
    (hx : evM m x = some (.slice a len cap)) (hs : Sl A a sz rows) (hi : evM m ix = some (.int kk j)) (hw : wantM ops m ⟨some d, .indexAddr t x ix, ty, ps, af, g⟩ = some true) (hd : Nat.blt d n = true)
    (ht : P.underlying t = some (.slice e)) (hz : szOf P e = some sz)
    (hl : len = rows.length) (h0 : 0 ≤ j) (hj : rows[j.toNat]? = some row)
    (hn : ∀ p, rd A p sz = some row → Wo E P n ops c rest (k + 1) ((d, .pointer (some p)) :: m) A K) : Wo E P n ops c (⟨some d, .indexAddr t x ix, ty, ps, af, g⟩ :: rest) k m A K := by
  obtain ⟨i, off, ver, rfl, hr⟩ := hs.row hj
  have hjl : j.toNat < rows.length := (List.getElem?_eq_some_iff.1 hj).1
  refine wo_pure (v := .pointer (some ⟨i, off + j.toNat * sz, some ver⟩)) ?_ hw (fun _ => rfl) rfl hd (hn _ hr)
  simp only [dOp, hx, hi, ht, hz, Option.bind_some, Option.map_some]
  rw [if_pos ⟨h0, by omega⟩]

/-- A load of one cell. -/
theorem wo_load {t : TypeId} {x : Operand} {p : Addr} {de : TypeDesc} {ti : TypeInfo} {v : Value} (hx : evM m x = some (.pointer (some p))) (hr : rd A p 1 = some [v])
    (hw : wantM ops m ⟨some d, .load t x, ty, ps, af, g⟩ = some true) (hd : Nat.blt d n = true) (ht : P.underlying t = some de) (hi : P.info? t = some ti) (hg : isAggD de = false)
    (hn : Wo E P n ops c rest (k + 1) ((d, v) :: m) A K) : Wo E P n ops c (⟨some d, .load t x, ty, ps, af, g⟩ :: rest) k m A K := by
  refine wo_pure (v := v) ?_ hw (fun _ => rfl) rfl hd hn
  simp only [dOp, hx, ht, hi, hg, Option.bind_some, Bool.false_eq_true, if_false, hr]
  rfl

/-- A load of a struct or an array. -/
theorem wo_loads {t : TypeId} {x : Operand} {p : Addr} {de : TypeDesc} {ti : TypeInfo} {N : Nat} {cs : List Value} (hx : evM m x = some (.pointer (some p))) (hr : rd A p N = some cs)
    (hw : wantM ops m ⟨some d, .load t x, ty, ps, af, g⟩ = some true) (hd : Nat.blt d n = true) (ht : P.underlying t = some de) (hi : P.info? t = some ti) (hg : isAggD de = true) (hN : ti.size = N)
    (hn : Wo E P n ops c rest (k + 1) ((d, .agg ⟨cs⟩) :: m) A K) : Wo E P n ops c (⟨some d, .load t x, ty, ps, af, g⟩ :: rest) k m A K := by
  subst hN
  refine wo_pure (v := .agg ⟨cs⟩) ?_ hw (fun _ => rfl) rfl hd hn
  simp only [dOp, hx, ht, hi, hg, Option.bind_some, if_true, hr, Option.map_some]

theorem rd_part {p : Addr} {N : Nat} {cs : List Value} (h : rd A p N = some cs) (off s : Nat) (hs : off + s ≤ N) : rd A { p with off := p.off + off } s = some ((cs.drop off).take s) := by
  obtain ⟨i, o, sp⟩ := p
  cases sp with
  | none => cases h
  | some ver =>
    simp only [rd] at h ⊢
    split at h
    · rename_i b hb
      split at h
      · rename_i hh
        cases h
        rw [if_pos ⟨hh.1, by omega⟩]
        rw [List.drop_take, List.take_take, List.drop_drop]
        congr 2; omega
      · cases h
    · cases h

/-- The place of a field. -/
theorem wo_field {t : TypeId} {x : Operand} {p : Addr} {f : Nat} {fs : Array Field} {fd : Field} {N s : Nat} {cs : List Value}
    (hx : evM m x = some (.pointer (some p))) (hr : rd A p N = some cs) (hw : wantM ops m ⟨some d, .fieldAddr t x f, ty, ps, af, g⟩ = some true) (hd : Nat.blt d n = true)
    (ht : P.underlying t = some (.struct fs)) (hf : fs.toList[f]? = some fd) (hz : szOf P fd.type = some (s + 1)) (hs : Nat.ble (fd.offset + (s + 1)) N = true)
    (hn : ∀ p', rd A p' (s + 1) = some ((cs.drop fd.offset).take (s + 1)) → Wo E P n ops c rest (k + 1) ((d, .pointer (some p')) :: m) A K) : Wo E P n ops c (⟨some d, .fieldAddr t x f, ty, ps, af, g⟩ :: rest) k m A K := by
  have h2 := rd_part hr fd.offset (s + 1) (Nat.le_of_ble_eq_true hs)
  obtain ⟨i, off, sp⟩ := p
  cases sp with
  | none => cases hr
  | some ver =>
    refine wo_pure (v := .pointer (some ⟨i, off + fd.offset, some ver⟩)) ?_ hw (fun _ => rfl) rfl hd (hn _ h2)
    simp only [dOp, hx, ht, hf, hz, Option.bind_some]

end
end Go.Dx
end

section
/- The data layer: calls that leave all data as they are; heaps that grow; places; slices that grow by append. -/
namespace Go.Dx

def Fresh (r : Hp) : Prop := ∀ x ∈ r, x.alive = true → x.wr = true

/-- What runs where nothing may be written, runs. -/
theorem ev_ro {P : Program} {f : FuncId} {args : List Value} {A : Hp} {v : Value} {r : Hp} (h : Ev P f args (roH A) v (roH A ++ r)) (hr : Fresh r) : Ev P f args A v (A ++ r) := by
  refine ⟨h.1, fun φ args' w hH ha => (h.2 φ args' w hH.ro ha).mono ?_⟩
  rintro e w' ⟨v1, v', A1, φ', he, ⟨rfl, rfl⟩, hv, hH', hf⟩
  have hlen : (roH A).length = A.length := roH_length A
  have hphi : ∀ i, i < A.length → φ' i = φ i := fun i hi => hf.phi i (by omega) (fun o ho => roH_wr ho)
  have hmem : ∀ b, b < w.heap.size → w'.heap[b]? = w.heap[b]? := fun b hb => hf.keep b hb (fun i o l h1 h2 => by rw [roH_wr h1] at h2; cases h2)
  have hnew : ∀ (i : Nat) (o : AObj), A.length ≤ i → (A ++ r)[i]? = some o → (roH A ++ r)[i]? = some o ∧ o ∈ r := by
    intro i o hi ho
    rw [List.getElem?_append_right hi] at ho
    rw [List.getElem?_append_right (by omega), hlen]
    exact ⟨ho, List.mem_of_getElem? ho⟩
  have hold : ∀ (i : Nat) (o : AObj), i < A.length → (A ++ r)[i]? = some o → A[i]? = some o := by
    intro i o hi ho
    rw [List.getElem?_append_left hi] at ho; exact ho
  have hfar : ∀ (i : Nat) (o : AObj) (l : Loc), A.length ≤ i → (A ++ r)[i]? = some o → o.wr = true → φ' i = some l → w.heap.size ≤ l.blk := by
    intro i o l hi ho hw hl
    rcases Nat.lt_or_ge l.blk w.heap.size with hb | hb
    · obtain ⟨j, p, m, h1, h2, _⟩ := hf.wr i o l (hnew i o hi ho).1 hw hl hb
      rw [roH_wr h1] at h2; cases h2
    · exact hb
  refine ⟨v1, v', A ++ r, φ', he, ⟨rfl, rfl⟩, hv, ⟨?_, ?_, ?_⟩, ?_⟩
  · intro i hi
    exact hH'.dom i (by rw [List.length_append] at hi ⊢; omega)
  · intro i o l hl ho hal
    rcases Nat.lt_or_ge i A.length with hi | hi
    · rw [hphi i hi] at hl
      obtain ⟨h1, h2⟩ := hH.obj i o l hl (hold i o hi ho) hal
      have := hf.size
      exact ⟨by omega, h2.mono hf.ext (hmem _ h1)⟩
    · exact hH'.obj i o l hl (hnew i o hi ho).1 hal
  · intro i j o p l m hij ho hp hw hal hl hm
    rcases Nat.lt_or_ge i A.length with hi | hi <;> rcases Nat.lt_or_ge j A.length with hj | hj
    · rw [hphi i hi] at hl; rw [hphi j hj] at hm
      exact hH.sep i j o p l m hij (hold i o hi ho) (hold j p hj hp) hw hal hl hm
    · rw [hphi i hi] at hl
      have h1 := (hH.obj i o l hl (hold i o hi ho) (AObj.alive_of_wr hw)).1
      have h2 := hfar j p m hj hp (hr p (hnew j p hj hp).2 hal) hm
      omega
    · rw [hphi j hj] at hm
      have h1 := (hH.obj j p m hm (hold j p hj hp) hal).1
      have h2 := hfar i o l hi ho hw hl
      omega
    · exact hH'.sep i j o p l m hij (hnew i o hi ho).1 (hnew j p hj hp).1 hw hal hl hm
  · refine ⟨hf.size, by simp, fun b hb _ => hmem b hb, ?_, fun i hi _ => hphi i hi, hf.ext, ?_, hf.tape, hf.os, hf.output⟩
    · intro i o l ho hw hl hb
      rcases Nat.lt_or_ge i A.length with hi | hi
      · rw [hphi i hi] at hl
        exact ⟨i, o, l, hold i o hi ho, hw, hl, rfl⟩
      · have := hfar i o l hi ho hw hl
        omega
    · intro i hi hn o ho
      exact hn o (hold i o hi ho)

/-! Heaps that have only grown since. -/

def Pre (A B : Hp) : Prop := ∃ r, B = A ++ r

theorem Pre.refl (A : Hp) : Pre A A := ⟨[], by simp⟩
theorem Pre.app {A B : Hp} (h : Pre A B) (r : Hp) : Pre A (B ++ r) := by obtain ⟨s, rfl⟩ := h; exact ⟨s ++ r, by simp⟩
theorem Pre.trans {A B C : Hp} (h : Pre A B) (k : Pre B C) : Pre A C := by obtain ⟨s, rfl⟩ := h; obtain ⟨t, rfl⟩ := k; exact ⟨s ++ t, by simp⟩
theorem Pre.le {A B : Hp} (h : Pre A B) : A.length ≤ B.length := by obtain ⟨r, rfl⟩ := h; simp
theorem Pre.set {A B : Hp} (h : Pre A B) {i : Nat} (hi : A.length ≤ i) (o : AObj) : Pre A (B.set i o) := by
  obtain ⟨r, rfl⟩ := h
  exact ⟨r.set (i - A.length) o, by rw [List.set_append_right _ _ hi]⟩
theorem Pre.at {A B : Hp} (h : Pre A B) {i : Nat} {o : AObj} (ho : A[i]? = some o) : B[i]? = some o := by
  obtain ⟨r, rfl⟩ := h
  rw [List.getElem?_append_left (List.getElem?_eq_some_iff.1 ho).1]; exact ho
theorem Sl.pre {A B : Hp} (h : Pre A B) {a : Option Addr} {sz : Nat} {rows : List (List Value)} (hs : Sl A a sz rows) : Sl B a sz rows := by
  rcases hs with hs | ⟨i, off, ver, b, h1, h2, h3⟩
  · exact .inl hs
  · exact .inr ⟨i, off, ver, b, h1, h.at h2, h3⟩
theorem at_new (A : Hp) (o : AObj) : (A ++ [o])[A.length]? = some o := by simp
theorem at_app {A : Hp} {i : Nat} {o : AObj} (h : A[i]? = some o) (r : Hp) : (A ++ r)[i]? = some o := (Pre.refl A).app r |>.at h
theorem at_set {A : Hp} {i : Nat} {o p : AObj} (h : A[i]? = some o) : (A.set i p)[i]? = some p := by
  have := (List.getElem?_eq_some_iff.1 h).1
  simp [this]
theorem at_set_ne {A : Hp} {i j : Nat} {o p : AObj} (hne : i ≠ j) (h : A[j]? = some o) : (A.set i p)[j]? = some o := by
  rw [List.getElem?_set_ne hne]; exact h

/-- The same heaps but for what may be written. -/
theorem Sl.ro {A : Hp} {a : Option Addr} {sz : Nat} {rows : List (List Value)} (h : Sl A a sz rows) : Sl (roH A) a sz rows := by
  rcases h with h | ⟨i, off, ver, b, h1, h2, h3⟩
  · exact .inl h
  · exact .inr ⟨i, off, ver, { b with ro := true }, h1, by rw [roH_at, h2]; rfl, h3⟩

theorem roH_app_at {A r : Hp} {i : Nat} {b : Blk} (h : (roH A ++ r)[i]? = some (.cells b)) : ∃ b', (A ++ r)[i]? = some (.cells b') ∧ b'.cs = b.cs ∧ b'.ver = b.ver ∧ b'.es = b.es ∧ b'.opn = b.opn := by
  rcases Nat.lt_or_ge i A.length with hi | hi
  · rw [List.getElem?_append_left (by rw [roH_length]; exact hi), roH_at] at h
    rw [List.getElem?_append_left hi]
    cases ho : A[i]? with
    | none => simp [ho] at h
    | some o =>
      rw [ho] at h
      cases o with
      | cells b' => simp [roObj] at h; subst h; exact ⟨b', rfl, rfl, rfl, rfl, rfl⟩
      | dead => simp [roObj] at h
      | map _ _ => simp [roObj] at h
      | iter _ _ => simp [roObj] at h
  · rw [List.getElem?_append_right (by rw [roH_length]; exact hi), roH_length] at h
    exact ⟨b, by rw [List.getElem?_append_right hi]; exact h, rfl, rfl, rfl, rfl⟩

theorem Sl.unro {A r : Hp} {a : Option Addr} {sz : Nat} {rows : List (List Value)} (h : Sl (roH A ++ r) a sz rows) : Sl (A ++ r) a sz rows := by
  rcases h with h | ⟨i, off, ver, b, h1, h2, h3, h4, h5, h6, h7⟩
  · exact .inl h
  · obtain ⟨b', g1, g2, g3, g4, _⟩ := roH_app_at h2
    exact .inr ⟨i, off, ver, b', h1, g1, by rw [g3]; exact h3, by rw [g2]; exact h4, by rw [g2]; exact h5, h6, by rw [g4]; exact h7⟩

section
variable {P : Program} {E : List TypeId} {n : Nat} {m : TF} {A : Hp} {K : TF → Hp → Prop} {ops : List Oper} {c k : Nat} {rest : List Oper} {d : Nat} {op : Op} {ty : TypeId} {ps : String} {af : Array Edge} {g : Option (Nat × Bool)}

/-- A call of a function that leaves all data as they are. -/
theorem wo_fun {f : FuncId} {args : List Value} {R : Value → Hp → Prop} (hc : callee (evM m) op = some (f, args)) (h : ∃ v r, Ev P f args (roH A) v (roH A ++ r) ∧ Fresh r ∧ R v (roH A ++ r))
    (hw : wantM ops m ⟨some d, op, ty, ps, af, g⟩ = some true) (hd : Nat.blt d n = true)
    (hn : ∀ v r, Fresh r → R v (roH A ++ r) → Wo E P n ops c rest (k + 1) ((d, v) :: m) (A ++ r) K) : Wo E P n ops c (⟨some d, op, ty, ps, af, g⟩ :: rest) k m A K := by
  obtain ⟨v, r, h1, h2, h3⟩ := h
  cases hk : Nat.blt k c with
  | true => exact wo_free (o := ⟨some d, op, ty, ps, af, g⟩) hd hw hc hk h1 (roH_length A) h2 (hn v r h2 h3)
  | false =>
    refine wo_call (o := ⟨some d, op, ty, ps, af, g⟩) hd hw hc ?_ (ev_ro h1 h2) (hn v r h2 h3)
    cases hb : Nat.ble c k with
    | true => rfl
    | false =>
      have h1 : ¬ k < c := fun h => by rw [blt_iff.2 h] at hk; cases hk
      have : c ≤ k := by omega
      rw [Nat.ble_eq_true_of_le this] at hb; cases hb

/-- A call whose result is plain data, and that leaves nothing. -/
theorem wo_new {v : Value} {o : AObj} (h : dOp E P (evM m) A op = some (v, .new o)) (hw : wantM ops m ⟨some d, op, ty, ps, af, g⟩ = some true) (hc : ∀ ev, callee ev op = none) (hi : isNext op = false) (hq : o.wr = true) (hd : Nat.blt d n = true)
    (hn : Wo E P n ops c rest (k + 1) ((d, v) :: m) (A ++ [o]) K) : Wo E P n ops c (⟨some d, op, ty, ps, af, g⟩ :: rest) k m A K :=
  wo_op (o := ⟨some d, op, ty, ps, af, g⟩) hd hw hc h (fun _ => ⟨hq, hi⟩) hn

end
end Go.Dx
end

section
/- The data layer: what has been made since, append, stores. -/
namespace Go.Dx

/-- The heap has grown by data that may be written. -/
def Gr (A B : Hp) : Prop := ∃ r, B = A ++ r ∧ Fresh r

theorem Fresh.nil : Fresh [] := fun _ h => by simp at h
theorem Fresh.app {r s : Hp} (h : Fresh r) (k : Fresh s) : Fresh (r ++ s) := fun x hx => (List.mem_append.1 hx).elim (h x) (k x)
theorem Fresh.one {o : AObj} (h : o.wr = true) : Fresh [o] := fun x hx _ => by simp at hx; subst hx; exact h
theorem Gr.refl (A : Hp) : Gr A A := ⟨[], by simp, .nil⟩
theorem Gr.app {A B r : Hp} (h : Gr A B) (hr : Fresh r) : Gr A (B ++ r) := by obtain ⟨s, rfl, hs⟩ := h; exact ⟨s ++ r, by simp, hs.app hr⟩
theorem Gr.push {A B : Hp} {o : AObj} (h : Gr A B) (ho : o.wr = true) : Gr A (B ++ [o]) := h.app (.one ho)
theorem Gr.pre {A B : Hp} (h : Gr A B) : Pre A B := by obtain ⟨r, h1, _⟩ := h; exact ⟨r, h1⟩
theorem Gr.le {A B : Hp} (h : Gr A B) : A.length ≤ B.length := h.pre.le
theorem Gr.set {A B : Hp} {i : Nat} {o : AObj} (h : Gr A B) (hi : A.length ≤ i) (ho : o.wr = true) : Gr A (B.set i o) := by
  obtain ⟨r, rfl, hr⟩ := h
  refine ⟨r.set (i - A.length) o, by rw [List.set_append_right _ _ hi], ?_⟩
  intro x hx hal
  rcases List.mem_or_eq_of_mem_set hx with h | h
  · exact hr x h hal
  · subst h; exact ho

theorem flatten_len {α : Type} {sz : Nat} : ∀ {rows : List (List α)}, (∀ r ∈ rows, r.length = sz) → rows.flatten.length = rows.length * sz
  | [], _ => by simp
  | r :: rows, h => by
    rw [List.flatten_cons, List.length_append, h r (by simp), flatten_len (fun r hr => h r (by simp [hr])), List.length_cons, Nat.succ_mul, Nat.add_comm]

theorem sl_of_at {A : Hp} {i : Nat} {b : Blk} {sz : Nat} {rows : List (List Value)} (h : A[i]? = some (.cells b)) (hc : b.cs = rows.flatten) (hl : ∀ r ∈ rows, r.length = sz) (he : b.es = sz) : Sl A (some ⟨i, 0, some b.ver⟩) sz rows := by
  have := flatten_len hl
  exact .inr ⟨i, 0, b.ver, b, rfl, h, rfl, by rw [hc, List.drop_zero, List.take_of_length_le (by omega)], by rw [hc]; omega, hl, he⟩

theorem Sl.cells {A : Hp} {a : Option Addr} {sz : Nat} {rows : List (List Value)} (h : Sl A a sz rows) (l c : Nat) : rdFirst A sz rows.length (.slice a l c) = some rows.flatten ∨ rows = [] := by
  rcases h with h | ⟨i, off, ver, b, rfl, h2, h3, h4, h5, h6, _⟩
  · exact .inr h
  · refine .inl ?_
    unfold rdFirst
    simp only
    split
    · rename_i h0
      have : rows = [] := List.eq_nil_of_length_eq_zero h0
      subst this; rfl
    · simp only [rd, h2, h3, true_and]
      rw [if_pos h5, h4]

theorem Sl.lens {A : Hp} {a : Option Addr} {sz : Nat} {rows : List (List Value)} (h : Sl A a sz rows) : ∀ r ∈ rows, r.length = sz := by
  rcases h with h | ⟨i, off, ver, b, h1, h2, h3, h4, h5, h6, _⟩
  · subst h; simp
  · exact h6

/-- A slice that is grown by append alone. -/
def Own (A : Hp) (o : Option Nat) (a : Option Addr) (sz : Nat) (rows : List (List Value)) : Prop :=
  match o with
  | none => a = none ∧ rows = []
  | some i => ∃ ver, a = some ⟨i, 0, some ver⟩ ∧ A[i]? = some (.cells ⟨rows.flatten, false, true, sz, ver⟩) ∧ (∀ r ∈ rows, r.length = sz) ∧ rows.flatten.all isCell = true

theorem own_nil {A : Hp} {sz : Nat} : Own A none none sz [] := ⟨rfl, rfl⟩

theorem Own.keep {A B : Hp} {o : Option Nat} {a : Option Addr} {sz : Nat} {rows : List (List Value)} (h : Own A o a sz rows) (hk : ∀ i x, o = some i → A[i]? = some x → B[i]? = some x) : Own B o a sz rows := by
  cases o with
  | none => exact h
  | some i =>
    obtain ⟨ver, h1, h2, h3⟩ := h
    exact ⟨ver, h1, hk i _ rfl h2, h3⟩

theorem Own.app {A : Hp} {o : Option Nat} {a : Option Addr} {sz : Nat} {rows : List (List Value)} (h : Own A o a sz rows) (r : Hp) : Own (A ++ r) o a sz rows :=
  h.keep fun _ _ _ hx => at_app hx r

theorem Own.sl {A : Hp} {o : Option Nat} {a : Option Addr} {sz : Nat} {rows : List (List Value)} (h : Own A o a sz rows) : Sl A a sz rows := by
  cases o with
  | none => exact .inl h.2
  | some i =>
    obtain ⟨ver, h1, h2, h3, _⟩ := h
    subst h1
    exact sl_of_at (b := ⟨rows.flatten, false, true, sz, ver⟩) h2 rfl h3 rfl

/-- How an append changes the heap. -/
structure AppStep (A : Hp) (o : Option Nat) (A' : Hp) (o' : Option Nat) : Prop where
  keep : ∀ (j : Nat) (x : AObj), A[j]? = some x → some j ≠ o → A'[j]? = some x
  which : o' = o ∨ o' = some A.length
  le : A.length ≤ A'.length
  gr : ∀ base, Gr base A → (∀ i, o = some i → base.length ≤ i) → Gr base A' ∧ (∀ i, o' = some i → base.length ≤ i)

/-- Slices of other elements stay. -/
theorem Sl.step {A A' : Hp} {o o' : Option Nat} {a a2 : Option Addr} {sz sz2 : Nat} {rows rows2 : List (List Value)} (hs : Sl A a sz rows) (ho : Own A o a2 sz2 rows2) (hst : AppStep A o A' o') (hne : sz ≠ sz2) : Sl A' a sz rows := by
  rcases hs with hs | ⟨j, off, ver, b, rfl, h2, h3, h4, h5, h6, h7⟩
  · exact .inl hs
  · refine .inr ⟨j, off, ver, b, rfl, hst.keep j _ h2 (fun he => ?_), h3, h4, h5, h6, h7⟩
    subst he
    obtain ⟨ver2, _, g2, _⟩ := ho
    rw [h2] at g2
    cases g2
    exact hne h7.symm

theorem dAppend_own {A : Hp} {o : Option Nat} {a : Option Addr} {sz bytes : Nat} {rows xrows : List (List Value)} (h : Own A o a sz rows) (hx : ∀ r ∈ xrows, r.length = sz) (hc : xrows.flatten.all isCell = true)
    (hb : (rows.length + xrows.length) * bytes ≤ 1000000000) (hb2 : rows.length + xrows.length ≤ 1000000000) :
    ∃ o' a' u, dAppend A sz bytes (.slice a rows.length rows.length) xrows.flatten xrows.length = some (.slice a' (rows ++ xrows).length (rows ++ xrows).length, u) ∧
      Own (u.on A) o' a' sz (rows ++ xrows) ∧ AppStep A o (u.on A) o' ∧ (u.quiet = true ∨ o ≠ none) := by
  have hl : (rows ++ xrows).length = rows.length + xrows.length := List.length_append
  rw [hl]
  have hlr : ∀ r ∈ rows ++ xrows, (∀ r ∈ rows, r.length = sz) → r.length = sz := fun r hr h => (List.mem_append.1 hr).elim (h r) (hx r)
  cases o with
  | none =>
    obtain ⟨rfl, rfl⟩ := h
    by_cases h0 : xrows.length = 0
    · have : xrows = [] := List.eq_nil_of_length_eq_zero h0
      subst this
      exact ⟨none, none, .keep, by simp [dAppend], ⟨rfl, rfl⟩, ⟨fun j x hj _ => hj, .inl rfl, Nat.le_refl _, fun base hg ho => ⟨hg, ho⟩⟩, .inl rfl⟩
    · have hk : (0 : Nat) + xrows.length = xrows.length := by omega
      simp only [List.length_nil] at hb hb2
      refine ⟨some A.length, some ⟨A.length, 0, some 0⟩, .new (.cells { cs := xrows.flatten, ro := false, opn := true, es := sz, ver := 0 }), ?_, ⟨0, rfl, by simp [Upd.on], ?_, ?_⟩, ⟨?_, .inr rfl, by simp [Upd.on], ?_⟩, .inl rfl⟩
      · simp only [dAppend, List.length_nil, and_self, if_true]
        rw [if_neg h0, if_pos ⟨by rw [← hk]; exact hb, by omega, hc⟩, hk]
      · intro r hr; exact hx r (by simpa using hr)
      · simpa using hc
      · intro j x hj _; exact at_app hj _
      · intro base hg ho
        exact ⟨hg.push rfl, fun i hi => by cases hi; exact hg.le⟩
  | some i =>
    obtain ⟨ver, rfl, h2, h3, h4⟩ := h
    by_cases h0 : xrows.length = 0
    · have : xrows = [] := List.eq_nil_of_length_eq_zero h0
      subst this
      refine ⟨some i, some ⟨i, 0, some ver⟩, .keep, ?_, ⟨ver, rfl, by simpa [Upd.on] using h2, by simpa using h3, by simpa using h4⟩, ⟨fun j x hj _ => hj, .inl rfl, Nat.le_refl _, fun base hg ho => ⟨hg, ho⟩⟩, .inl rfl⟩
      simp [dAppend]
    · have hfl := flatten_len h3
      refine ⟨some i, some ⟨i, 0, some (ver + 1)⟩, .set i (.cells { cs := rows.flatten ++ xrows.flatten, ro := false, opn := true, es := sz, ver := ver + 1 }), ?_, ⟨ver + 1, rfl, ?_, ?_, ?_⟩, ⟨?_, .inl rfl, by simp [Upd.on], ?_⟩, .inr (fun h => by cases h)⟩
      · simp only [dAppend]
        rw [if_neg (by omega), h2]
        simp only [true_and, List.drop_zero, Nat.zero_add]
        rw [if_pos ⟨by rw [hfl]; exact Nat.le_refl _, hb, hb2, hc⟩, if_neg (by simp [hfl]), if_pos (by simp)]
        rw [List.take_of_length_le (by rw [hfl]; exact Nat.le_refl _)]
      · simp only [Upd.on, List.flatten_append]
        exact at_set h2
      · intro r hr; exact hlr r hr h3
      · rw [List.flatten_append, List.all_append, h4, hc]; rfl
      · intro j x hj hne
        exact at_set_ne (fun h => hne (by rw [h])) hj
      · intro base hg ho
        exact ⟨hg.set (ho i rfl) rfl, ho⟩

section
variable {P : Program} {E : List TypeId} {n : Nat} {m : TF} {A : Hp} {K : TF → Hp → Prop} {ops : List Oper} {c k : Nat} {rest : List Oper} {d : Nat} {op : Op} {ty : TypeId} {ps : String} {af : Array Edge} {g : Option (Nat × Bool)}

/-- An append to a slice that is grown by append alone. -/
theorem wo_append {t u e : TypeId} {s x : Operand} {ie : TypeInfo} {z : Value} {o : Option Nat} {a xa : Option Addr} {len cap xl xc sz : Nat} {rows xrows : List (List Value)}
    (hs : evM m s = some (.slice a len cap)) (hx : evM m x = some (.slice xa xl xc)) (ho : Own A o a sz rows) (hX : Sl A xa sz xrows) (hl : len = rows.length) (hcp : cap = rows.length) (hxl : xl = xrows.length) (hcl : xrows.flatten.all isCell = true)
    (hb : (rows.length + xrows.length) * ie.bytes ≤ 1000000000) (hb2 : rows.length + xrows.length ≤ 1000000000)
    (hw : wantM ops m ⟨some d, .call { callee := .builtin .append, args := #[s, x], argTypes := #[t, u] }, ty, ps, af, g⟩ = some true) (hd : Nat.blt d n = true)
    (ht : P.underlying t = some (.slice e)) (hu : P.underlying u = some (.slice e)) (hi : P.info? e = some ie) (hz : ie.zero = some z) (hzl : z.cells.toList.length = ie.size) (hsz : ie.size = sz)
    (hk : Nat.ble c k = true ∨ o = none)
    (hn : ∀ o' a' A', Own A' o' a' sz (rows ++ xrows) → AppStep A o A' o' → Wo E P n ops c rest (k + 1) ((d, .slice a' (rows ++ xrows).length (rows ++ xrows).length) :: m) A' K) :
    Wo E P n ops c (⟨some d, .call { callee := .builtin .append, args := #[s, x], argTypes := #[t, u] }, ty, ps, af, g⟩ :: rest) k m A K := by
  subst hl; subst hcp; subst hxl; subst hsz
  obtain ⟨o', a', up, h1, h2, h3, h4⟩ := dAppend_own (bytes := ie.bytes) ho hX.lens hcl hb hb2
  have hrd : rdFirst A ie.size xrows.length (.slice xa xrows.length xc) = some xrows.flatten := by
    rcases hX.cells xrows.length xc with h | h
    · exact h
    · subst h; cases xa <;> simp [rdFirst]
  refine wo_op (o := ⟨some d, .call { callee := .builtin .append, args := #[s, x], argTypes := #[t, u] }, ty, ps, af, g⟩) (v := .slice a' (rows ++ xrows).length (rows ++ xrows).length) (u := up) hd hw (fun _ => rfl) ?_ ?_ (hn o' a' _ h2 h3)
  · simp only [dOp, evs, hs, hx, Option.bind_some, Option.map_some, dBuiltin, ht, hu, hi, hz, if_true, hzl, hrd]
    exact h1
  · intro hkc
    refine ⟨?_, rfl⟩
    rcases h4 with h4 | h4
    · exact h4
    · rcases hk with hk | hk
      · have := Nat.le_of_ble_eq_true hk
        have := blt_iff.1 hkc
        omega
      · exact absurd hk h4

/-- A store into an object that may be written. -/
theorem wo_store {t : TypeId} {x y : Operand} {i off ver : Nat} {b : Blk} {v : Value} {vs : List Value} {ti : TypeInfo}
    (hx : evM m x = some (.pointer (some ⟨i, off, some ver⟩))) (hy : evM m y = some v) (ha : A[i]? = some (.cells b)) (hro : b.ro = false) (hv : b.ver = ver)
    (hw : ∀ dd, wantM ops m ⟨dd, .store t x y, ty, ps, af, g⟩ = some true) (hi : P.info? t = some ti) (hc : v.cells.toList = vs) (hl : vs.length = ti.size) (hle : off + vs.length ≤ b.cs.length) (hcl : vs.all isCell = true) (hk : Nat.ble c k = true) (hdd : dstOK n none = true)
    (hn : Wo E P n ops c rest (k + 1) m (A.set i (.cells { b with cs := splice b.cs off vs })) K) : Wo E P n ops c (⟨none, .store t x y, ty, ps, af, g⟩ :: rest) k m A K := by
  subst hc
  refine wo_op (o := ⟨none, .store t x y, ty, ps, af, g⟩) (v := .tuple #[]) (u := .set i (.cells { b with cs := splice b.cs off v.cells.toList })) hdd (hw none) (fun _ => rfl) ?_ ?_ hn
  · simp only [dOp, hx, hy, Option.bind_some, hi, hl, if_true, wrt, ha]
    rw [if_pos ⟨hro, hv, by rw [← hl]; exact hle, hcl⟩]
    rfl
  · intro hkc
    have := Nat.le_of_ble_eq_true hk
    have := blt_iff.1 hkc
    omega

end

theorem rd_at {A : Hp} {i : Nat} {b : Blk} (h : A[i]? = some (.cells b)) (off k : Nat) (hle : off + k ≤ b.cs.length) : rd A ⟨i, off, some b.ver⟩ k = some ((b.cs.drop off).take k) := by
  simp only [rd, h, true_and]
  rw [if_pos hle]

theorem rd_ver {A : Hp} {i ver : Nat} {b : Blk} (h : A[i]? = some (.cells b)) (hv : b.ver = ver) (off k : Nat) (hle : off + k ≤ b.cs.length) : rd A ⟨i, off, some ver⟩ k = some ((b.cs.drop off).take k) := by
  subst hv; exact rd_at h off k hle

end Go.Dx
end

