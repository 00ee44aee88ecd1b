/- The data layer: steps of a walk by what is seen and what is owned. -/
import Derived.Test.YtdjcbpicdnhciaaGreatEf
set_option linter.unusedVariables false
set_option linter.unusedSimpArgs false
namespace Go.Dx

/-- Cells that are seen. -/
def At (V : Hp) (i : Nat) (cs : List Value) : Prop := ∃ b, V[i]? = some (.cells b) ∧ b.cs = cs ∧ b.ver = 0

theorem At.le {V W : Hp} {i : Nat} {cs : List Value} (hv : At V i cs) (h : Le V W) : At W i cs := by
  obtain ⟨b, h1, h2, h3⟩ := hv
  obtain ⟨b', g1, g2, g3, _⟩ := h i b h1
  exact ⟨b', g1, g2.trans h2, g3.trans h3⟩

theorem At.of {V : Hp} {i : Nat} {b : Blk} (h : V[i]? = some (.cells b)) (hv : b.ver = 0) : At V i b.cs := ⟨b, h, rfl, hv⟩

theorem At.rds {V B : Hp} {i : Nat} {cs : List Value} (hv : At V i cs) (h : Le V B) (n : Nat) (hn : n = cs.length) : rd B ⟨i, 0, some 0⟩ n = some cs := by
  obtain ⟨b, h1, h2, h3⟩ := hv.le h
  rw [rd_ver h1 h3 0 n (by rw [h2, hn]; omega), h2, List.drop_zero, hn, List.take_length]

theorem At.rd1 {V B : Hp} {i : Nat} {v : Value} (hv : At V i [v]) (h : Le V B) : rd B ⟨i, 0, some 0⟩ 1 = some [v] := hv.rds h 1 rfl

theorem rd_one {A : Hp} {i ver q : Nat} {b : Blk} {v : Value} (h : A[i]? = some (.cells b)) (hv : b.ver = ver) (hq : b.cs[q]? = some v) : rd A ⟨i, q, some ver⟩ 1 = some [v] := by
  have hl := (List.getElem?_eq_some_iff.1 hq).1
  rw [rd_ver h hv q 1 (by omega)]
  congr 1
  obtain ⟨h1, h2⟩ := List.getElem?_eq_some_iff.1 hq
  rw [List.drop_eq_getElem_cons h1, h2]
  rfl

theorem At.rdq {V B : Hp} {i : Nat} {cs : List Value} (hv : At V i cs) (h : Le V B) (q : Nat) {v : Value} (hq : cs[q]? = some v) : rd B ⟨i, q, some 0⟩ 1 = some [v] := by
  obtain ⟨b, h1, h2, h3⟩ := hv.le h
  exact rd_one h1 h3 (by rw [h2]; exact hq)

theorem rep_one (k : Nat) (v : Value) : rep k [v] = List.replicate k v := by
  simp only [rep]
  induction k with
  | zero => rfl
  | succ k ih => simp [List.replicate_succ, ih]

theorem set_snoc {α : Type} (l : List α) (x y : α) (k : Nat) : (l ++ List.replicate (k + 1) x).set l.length y = (l ++ [y]) ++ List.replicate k x := by
  rw [List.set_append_right _ _ (Nat.le_refl _), Nat.sub_self, List.replicate_succ, List.set_cons_zero, List.append_assoc]
  rfl

section
variable {P : Program} {E : List TypeId} {n : Nat} {m : TF} {base V B : Hp} {os : List Own1} {K : TF → Hp → Prop} {ops : List Oper} {c k : Nat} {rest : List Oper} {d : Nat} {op : Op} {ty : TypeId} {ps : String} {af : Array Edge} {g : Option (Nat × Bool)}

/-- A new object that is seen. -/
theorem wo_allocF (hst : Sta base V B os) {cs : List Value} (es : Nat) (h : dOp E P (evM m) B op = some (.pointer (some ⟨B.length, 0, some 0⟩), .new (.cells ⟨cs, false, false, es, 0⟩))) (hw : wantM ops m ⟨some d, op, ty, ps, af, g⟩ = some true) (hc : ∀ ev, callee ev op = none) (hi : isNext op = false) (hd : Nat.blt d n = true)
    (hn : ∀ i V' B', Sta base V' B' os → Le V V' → At V' i cs → Wo E P n ops c rest (k + 1) ((d, .pointer (some ⟨i, 0, some 0⟩)) :: m) B' K) : Wo E P n ops c (⟨some d, op, ty, ps, af, g⟩ :: rest) k m B K := by
  refine wo_alloc h hw hc hi rfl hd (fun i B' s => ?_)
  obtain ⟨V', h1, h2, h3⟩ := hst.nf s
  exact hn i V' B' h1 h2 (At.of h3 rfl)

/-- A new object that is owned. -/
theorem wo_allocO (hst : Sta base V B os) {cs : List Value} (es : Nat) (h : dOp E P (evM m) B op = some (.pointer (some ⟨B.length, 0, some 0⟩), .new (.cells ⟨cs, false, false, es, 0⟩))) (hw : wantM ops m ⟨some d, op, ty, ps, af, g⟩ = some true) (hc : ∀ ev, callee ev op = none) (hi : isNext op = false) (hd : Nat.blt d n = true)
    (hn : ∀ i V' B', Sta base V' B' (.obj i ⟨cs, false, false, es, 0⟩ :: os) → Le V V' → Wo E P n ops c rest (k + 1) ((d, .pointer (some ⟨i, 0, some 0⟩)) :: m) B' K) : Wo E P n ops c (⟨some d, op, ty, ps, af, g⟩ :: rest) k m B K := by
  refine wo_alloc h hw hc hi rfl hd (fun i B' s => ?_)
  obtain ⟨V', h1, h2⟩ := hst.ns s rfl
  exact hn i V' B' h1 h2

/-- A new slice that is seen: what buildSlice makes. -/
theorem wo_mkF (hst : Sta base V B os) {cs : List Value} {l cap : Nat} (es : Nat) (h : dOp E P (evM m) B op = some (.slice (some ⟨B.length, 0, some 0⟩) l cap, .new (.cells ⟨cs, false, false, es, 0⟩))) (hw : wantM ops m ⟨some d, op, ty, ps, af, g⟩ = some true) (hc : ∀ ev, callee ev op = none) (hi : isNext op = false) (hd : Nat.blt d n = true)
    (hn : ∀ i V' B', Sta base V' B' os → Le V V' → V'[i]? = some (.cells ⟨cs, true, false, es, 0⟩) → Wo E P n ops c rest (k + 1) ((d, .slice (some ⟨i, 0, some 0⟩) l cap) :: m) B' K) : Wo E P n ops c (⟨some d, op, ty, ps, af, g⟩ :: rest) k m B K := by
  refine wo_mk h hw hc hi rfl hd (fun i B' s => ?_)
  obtain ⟨V', h1, h2, h3⟩ := hst.nf s
  exact hn i V' B' h1 h2 h3

/-- A new slice that is owned: what buildSlice makes. -/
theorem wo_mkO (hst : Sta base V B os) {cs : List Value} {l cap : Nat} (es : Nat) (h : dOp E P (evM m) B op = some (.slice (some ⟨B.length, 0, some 0⟩) l cap, .new (.cells ⟨cs, false, false, es, 0⟩))) (hw : wantM ops m ⟨some d, op, ty, ps, af, g⟩ = some true) (hc : ∀ ev, callee ev op = none) (hi : isNext op = false) (hd : Nat.blt d n = true)
    (hn : ∀ i V' B', Sta base V' B' (.obj i ⟨cs, false, false, es, 0⟩ :: os) → Le V V' → Wo E P n ops c rest (k + 1) ((d, .slice (some ⟨i, 0, some 0⟩) l cap) :: m) B' K) : Wo E P n ops c (⟨some d, op, ty, ps, af, g⟩ :: rest) k m B K := by
  refine wo_mk h hw hc hi rfl hd (fun i B' s => ?_)
  obtain ⟨V', h1, h2⟩ := hst.ns s rfl
  exact hn i V' B' h1 h2

/-- A slice of so many zeros of one cell. -/
theorem wo_makeS (hst : Sta base V B os) {t e : TypeId} {x y : Operand} {k1 k2 : IntKind} {z1 z2 : Int} {ie : TypeInfo} {zv : Value} (len : Nat) (hx : evM m x = some (.int k1 z1)) (hy : evM m y = some (.int k2 z2)) (h1 : z1 = (len : Int)) (h2 : z2 = (len : Int)) (hs : len ≤ 1000000)
    (hw : wantM ops m ⟨some d, .makeSlice t x y, ty, ps, af, g⟩ = some true) (hd : Nat.blt d n = true) (ht : P.underlying t = some (.slice e)) (hi : P.info? e = some ie) (hz : ie.zero = some zv) (hf : flat zv = true) (hl : zv.cells.toList = [zv]) (hsz : Nat.beq ie.size 1 = true) (hby : Nat.ble ie.bytes 100 = true) (hc : isCell zv = true)
    (hn : ∀ i V' B', Sta base V' B' (.obj i ⟨List.replicate len zv, false, false, 1, 0⟩ :: os) → Le V V' → Wo E P n ops c rest (k + 1) ((d, .slice (some ⟨i, 0, some 0⟩) len len) :: m) B' K) : Wo E P n ops c (⟨some d, .makeSlice t x y, ty, ps, af, g⟩ :: rest) k m B K := by
  have hsz' := Nat.eq_of_beq_eq_true hsz
  have hby' := Nat.le_of_ble_eq_true hby
  have hb : len * ie.bytes ≤ 1000000000 := Nat.le_trans (Nat.mul_le_mul hs hby') (by omega)
  refine wo_makeSlice len hx hy h1 h2 (by omega) hb hw hd ht hi hz hf (by simp [z_len, hl, hsz']) (by simp [hl, hc]) (fun i B' s => ?_)
  rw [hl, hsz', rep_one] at s
  obtain ⟨V', h1, h2⟩ := hst.ns s rfl
  exact hn i V' B' h1 h2

/-- The place itself of an element. -/
theorem wo_ix {t e : TypeId} {x ix : Operand} {i off ver len cap : Nat} {kk : IntKind} {j : Int} (q sz off' : Nat) (hx : evM m x = some (.slice (some ⟨i, off, some ver⟩) len cap)) (hi : evM m ix = some (.int kk j)) (hj : j = (q : Int)) (hq : q < len) (ho : off + q * sz = off')
    (hw : wantM ops m ⟨some d, .indexAddr t x ix, ty, ps, af, g⟩ = some true) (hd : Nat.blt d n = true) (ht : P.underlying t = some (.slice e)) (hz : szOf P e = some sz)
    (hn : Wo E P n ops c rest (k + 1) ((d, .pointer (some ⟨i, off', some ver⟩)) :: m) B K) : Wo E P n ops c (⟨some d, .indexAddr t x ix, ty, ps, af, g⟩ :: rest) k m B K := by
  subst ho
  exact wo_idx q hx hi hj hq hw hd ht hz hn

/-- A store of one cell into what is owned. -/
theorem wo_stO (hst : Sta base V B os) {t : TypeId} {x y : Operand} {i q ver es : Nat} {opn : Bool} {bcs : List Value} {v : Value} {ti : TypeInfo} (w : Nat)
    (hk : os[w]? = some (.obj i ⟨bcs, false, opn, es, ver⟩)) (hx : evM m x = some (.pointer (some ⟨i, q, some ver⟩))) (hy : evM m y = some v) (hq : q < bcs.length)
    (hw : ∀ dd, wantM ops m ⟨dd, .store t x y, ty, ps, af, g⟩ = some true) (hi : P.info? t = some ti) (hl : v.cells.toList = [v]) (hsz : Nat.beq ti.size 1 = true) (hcl : isCell v = true) (hkc : Nat.ble c k = true)
    (hn : ∀ B', Sta base V B' (os.set w (.obj i ⟨bcs.set q v, false, opn, es, ver⟩)) → Wo E P n ops c rest (k + 1) m B' K) : Wo E P n ops c (⟨none, .store t x y, ty, ps, af, g⟩ :: rest) k m B K := by
  have hsz' := Nat.eq_of_beq_eq_true hsz
  refine wo_put hx hy (hst.obj hk) hw hi (by rw [hl, hsz']; rfl) (Nat.ble_eq_true_of_le (by rw [hl]; show q + 1 ≤ bcs.length; omega)) (by simp [hl, hcl]) hkc (by rw [hl, splice_one hq]) (fun B' s => ?_)
  exact hn B' (hst.ss hk s rfl)

/-- A store of a struct over a whole object that is owned. -/
theorem wo_stW (hst : Sta base V B os) {t : TypeId} {x y : Operand} {i ver es : Nat} {opn : Bool} {bcs : List Value} {vs : List Value} {ti : TypeInfo} (w : Nat)
    (hk : os[w]? = some (.obj i ⟨bcs, false, opn, es, ver⟩)) (hx : evM m x = some (.pointer (some ⟨i, 0, some ver⟩))) (hy : evM m y = some (.agg ⟨vs⟩)) (hq : bcs.length = vs.length)
    (hw : ∀ dd, wantM ops m ⟨dd, .store t x y, ty, ps, af, g⟩ = some true) (hi : P.info? t = some ti) (hsz : Nat.beq vs.length ti.size = true) (hcl : vs.all isCell = true) (hkc : Nat.ble c k = true)
    (hn : ∀ B', Sta base V B' (os.set w (.obj i ⟨vs, false, opn, es, ver⟩)) → Wo E P n ops c rest (k + 1) m B' K) : Wo E P n ops c (⟨none, .store t x y, ty, ps, af, g⟩ :: rest) k m B K := by
  have hcs : (Value.agg ⟨vs⟩).cells.toList = vs := rfl
  refine wo_put (cs := vs) hx hy (hst.obj hk) hw hi (by rw [hcs]; exact Nat.eq_of_beq_eq_true hsz) (Nat.ble_eq_true_of_le (by rw [hcs]; omega)) (by rw [hcs]; exact hcl) hkc ?_ (fun B' s => ?_)
  · rw [hcs]
    simp only [splice, List.take_zero, List.nil_append, Nat.zero_add]
    rw [List.drop_eq_nil_of_le (by omega), List.append_nil]
  · exact hn B' (hst.ss hk s rfl)

/-- A variable with its first value, one cell, that is seen from now on. -/
theorem wo_varF (hst : Sta base V B os) {t : TypeId} {x : Operand} {v : Value} {ti : TypeInfo} {z : Value} {ty2 : TypeId} {ps2 : String} {af2 : Array Edge} {g2 : Option (Nat × Bool)}
    (hx : evM m x = some v) (hv : v.cells.toList = [v]) (hne : ∀ e, x = .tmp e → Nat.beq d e = false) (hw : wantM ops m ⟨some d, .alloc t, ty, ps, af, g⟩ = some true) (hd : Nat.blt d n = true) (hg2 : g2 = none) (hi : P.info? t = some ti) (hz : ti.zero = some z) (hf : flat z = true) (hfc : z.cells.toList.all isCell = true)
    (hl : z.cells.toList.length = ti.size) (hvl : Nat.beq 1 ti.size = true) (hcl : isCell v = true) (hk : Nat.ble c (k + 1) = true)
    (hn : ∀ i V' B', Sta base V' B' os → Le V V' → At V' i [v] → Wo E P n ops c rest (k + 1 + 1) ((d, .pointer (some ⟨i, 0, some 0⟩)) :: m) B' K) :
    Wo E P n ops c (⟨some d, .alloc t, ty, ps, af, g⟩ :: ⟨none, .store t (.tmp d) x, ty2, ps2, af2, g2⟩ :: rest) k m B K := by
  refine wo_var1 hx hv hne hw hd hg2 hi hz hf hfc hl hvl hcl hk (fun i B' s => ?_)
  obtain ⟨V', h1, h2, h3⟩ := hst.nf s
  exact hn i V' B' h1 h2 (At.of h3 rfl)

/-- The same, owned. -/
theorem wo_varO (hst : Sta base V B os) {t : TypeId} {x : Operand} {v : Value} {ti : TypeInfo} {z : Value} {ty2 : TypeId} {ps2 : String} {af2 : Array Edge} {g2 : Option (Nat × Bool)}
    (hx : evM m x = some v) (hv : v.cells.toList = [v]) (hne : ∀ e, x = .tmp e → Nat.beq d e = false) (hw : wantM ops m ⟨some d, .alloc t, ty, ps, af, g⟩ = some true) (hd : Nat.blt d n = true) (hg2 : g2 = none) (hi : P.info? t = some ti) (hz : ti.zero = some z) (hf : flat z = true) (hfc : z.cells.toList.all isCell = true)
    (hl : z.cells.toList.length = ti.size) (hvl : Nat.beq 1 ti.size = true) (hcl : isCell v = true) (hk : Nat.ble c (k + 1) = true)
    (hn : ∀ i V' B', Sta base V' B' (.obj i ⟨[v], false, false, 1, 0⟩ :: os) → Le V V' → Wo E P n ops c rest (k + 1 + 1) ((d, .pointer (some ⟨i, 0, some 0⟩)) :: m) B' K) :
    Wo E P n ops c (⟨some d, .alloc t, ty, ps, af, g⟩ :: ⟨none, .store t (.tmp d) x, ty2, ps2, af2, g2⟩ :: rest) k m B K := by
  refine wo_var1 hx hv hne hw hd hg2 hi hz hf hfc hl hvl hcl hk (fun i B' s => ?_)
  obtain ⟨V', h1, h2⟩ := hst.ns s rfl
  exact hn i V' B' h1 h2

/-- A struct variable with its first value, seen. -/
theorem wo_varsF (hst : Sta base V B os) {t : TypeId} {x : Operand} {vs : List Value} {ti : TypeInfo} {z : Value} {ty2 : TypeId} {ps2 : String} {af2 : Array Edge} {g2 : Option (Nat × Bool)}
    (hx : evM m x = some (.agg ⟨vs⟩)) (hne : ∀ e, x = .tmp e → Nat.beq d e = false) (hw : wantM ops m ⟨some d, .alloc t, ty, ps, af, g⟩ = some true) (hd : Nat.blt d n = true) (hg2 : g2 = none) (hi : P.info? t = some ti) (hz : ti.zero = some z) (hf : flat z = true) (hfc : z.cells.toList.all isCell = true)
    (hl : z.cells.toList.length = ti.size) (hvl : Nat.beq vs.length ti.size = true) (hcl : vs.all isCell = true) (hk : Nat.ble c (k + 1) = true)
    (hn : ∀ i V' B', Sta base V' B' os → Le V V' → At V' i vs → Wo E P n ops c rest (k + 1 + 1) ((d, .pointer (some ⟨i, 0, some 0⟩)) :: m) B' K) :
    Wo E P n ops c (⟨some d, .alloc t, ty, ps, af, g⟩ :: ⟨none, .store t (.tmp d) x, ty2, ps2, af2, g2⟩ :: rest) k m B K := by
  refine wo_varA hx hne hw hd hg2 hi hz hf hfc hl hvl hcl hk (fun i B' s => ?_)
  obtain ⟨V', h1, h2, h3⟩ := hst.nf s
  exact hn i V' B' h1 h2 (At.of h3 rfl)

/-- The same, owned. -/
theorem wo_varsO (hst : Sta base V B os) {t : TypeId} {x : Operand} {vs : List Value} {ti : TypeInfo} {z : Value} {ty2 : TypeId} {ps2 : String} {af2 : Array Edge} {g2 : Option (Nat × Bool)}
    (hx : evM m x = some (.agg ⟨vs⟩)) (hne : ∀ e, x = .tmp e → Nat.beq d e = false) (hw : wantM ops m ⟨some d, .alloc t, ty, ps, af, g⟩ = some true) (hd : Nat.blt d n = true) (hg2 : g2 = none) (hi : P.info? t = some ti) (hz : ti.zero = some z) (hf : flat z = true) (hfc : z.cells.toList.all isCell = true)
    (hl : z.cells.toList.length = ti.size) (hvl : Nat.beq vs.length ti.size = true) (hcl : vs.all isCell = true) (hk : Nat.ble c (k + 1) = true)
    (hn : ∀ i V' B', Sta base V' B' (.obj i ⟨vs, false, false, 1, 0⟩ :: os) → Le V V' → Wo E P n ops c rest (k + 1 + 1) ((d, .pointer (some ⟨i, 0, some 0⟩)) :: m) B' K) :
    Wo E P n ops c (⟨some d, .alloc t, ty, ps, af, g⟩ :: ⟨none, .store t (.tmp d) x, ty2, ps2, af2, g2⟩ :: rest) k m B K := by
  refine wo_varA hx hne hw hd hg2 hi hz hf hfc hl hvl hcl hk (fun i B' s => ?_)
  obtain ⟨V', h1, h2⟩ := hst.ns s rfl
  exact hn i V' B' h1 h2

/-- A call over what is seen (the view of the call may see more than the walk's). -/
theorem wo_callX {f : FuncId} {args : List Value} {R : Value → Hp → Prop} {V2 : Hp} {os2 : List Own1} {base2 : Hp} (hst : Sta base2 V2 B os2) (h : Fun P f args V2 R) (hc : callee (evM m) op = some (f, args))
    (hw : wantM ops m ⟨some d, op, ty, ps, af, g⟩ = some true) (hd : Nat.blt d n = true)
    (hn : ∀ v r, Fresh r → R v (V2 ++ r) → Wo E P n ops c rest (k + 1) ((d, v) :: m) (B ++ r) K) : Wo E P n ops c (⟨some d, op, ty, ps, af, g⟩ :: rest) k m B K := by
  obtain ⟨v, r, h1, h2, h3⟩ := h
  rw [hst.view.fixed] at h1 h3
  have hn' := hn v r h2 h3
  cases hk : Nat.blt k c with
  | true => exact wo_free (o := ⟨some d, op, ty, ps, af, g⟩) hd hw hc hk (ev_view hst.view.ro h1 h2) (roH_length B) h2 hn'
  | false =>
    refine wo_call (o := ⟨some d, op, ty, ps, af, g⟩) hd hw hc ?_ (ev_view hst.view h1 h2) hn'
    cases hb : Nat.ble c k with
    | true => rfl
    | false =>
      have h1 : ¬ k < c := fun h => by rw [blt_iff.2 h] at hk; cases hk
      have : c ≤ k := by omega
      rw [Nat.ble_eq_true_of_le this] at hb; cases hb

/-- An append to a slice that is grown by append alone. -/
theorem wo_app (hst : Sta base V B os) {t u e : TypeId} {s x : Operand} {ie : TypeInfo} {z : Value} {a xa : Option Addr} {len cap xl xc sz : Nat} {rows xrows : List (List Value)} (w : Nat)
    (hk : os[w]? = some (.acc a sz rows)) (hs : evM m s = some (.slice a len cap)) (hx : evM m x = some (.slice xa xl xc)) (hX : Sl B xa sz xrows) (hl : len = rows.length) (hcp : cap = rows.length) (hxl : xl = xrows.length) (hcl : xrows.flatten.all isCell = true)
    (hb2 : rows.length + xrows.length ≤ 1000000)
    (hw : wantM ops m ⟨some d, .call { callee := .builtin .append, args := #[s, x], argTypes := #[t, u] }, ty, ps, af, g⟩ = some true) (hd : Nat.blt d n = true)
    (ht : P.underlying t = some (.slice e)) (hu : P.underlying u = some (.slice e)) (hi : P.info? e = some ie) (hz : ie.zero = some z) (hzl : z.cells.toList.length = ie.size) (hsz : ie.size = sz) (hby : Nat.ble ie.bytes 1000 = true)
    (hkc : Nat.ble c k = true)
    (hn : ∀ a' V' B', Sta base V' B' (os.set w (.acc a' sz (rows ++ xrows))) → Le V V' → Wo E P n ops c rest (k + 1) ((d, .slice a' (rows.length + xrows.length) (rows.length + xrows.length)) :: m) B' K) :
    Wo E P n ops c (⟨some d, .call { callee := .builtin .append, args := #[s, x], argTypes := #[t, u] }, ty, ps, af, g⟩ :: rest) k m B K := by
  obtain ⟨o, ho, _⟩ := hst.own _ (List.mem_of_getElem? hk)
  have hby' := Nat.le_of_ble_eq_true hby
  refine wo_append hs hx ho hX hl hcp hxl hcl (Nat.le_trans (Nat.mul_le_mul hb2 hby') (by omega)) (by omega) hw hd ht hu hi hz hzl hsz (.inl hkc) (fun o' a' A' h1 h2 => ?_)
  obtain ⟨V', h3, h4⟩ := hst.as hk ho h1 h2
  rw [List.length_append]
  exact hn a' V' A' h3 h4

/-- An append of one row, just made. -/
theorem wo_app1 (hst : Sta base V B os) {t u e : TypeId} {s x : Operand} {ie : TypeInfo} {z : Value} {a : Option Addr} {i xc len cap sz : Nat} {rows : List (List Value)} {row : List Value} {ro opn : Bool} (w : Nat)
    (hk : os[w]? = some (.acc a sz rows)) (hs : evM m s = some (.slice a len cap)) (hx : evM m x = some (.slice (some ⟨i, 0, some 0⟩) 1 xc)) (hX : V[i]? = some (.cells ⟨row, ro, opn, sz, 0⟩)) (hrl : row.length = sz) (hl : len = rows.length) (hcp : cap = rows.length) (hcl : row.all isCell = true)
    (hb2 : rows.length ≤ 100000)
    (hw : wantM ops m ⟨some d, .call { callee := .builtin .append, args := #[s, x], argTypes := #[t, u] }, ty, ps, af, g⟩ = some true) (hd : Nat.blt d n = true)
    (ht : P.underlying t = some (.slice e)) (hu : P.underlying u = some (.slice e)) (hi : P.info? e = some ie) (hz : ie.zero = some z) (hzl : z.cells.toList.length = ie.size) (hsz : ie.size = sz) (hby : Nat.ble ie.bytes 1000 = true)
    (hkc : Nat.ble c k = true)
    (hn : ∀ a' V' B', Sta base V' B' (os.set w (.acc a' sz (rows ++ [row]))) → Le V V' → Wo E P n ops c rest (k + 1) ((d, .slice a' (rows.length + 1) (rows.length + 1)) :: m) B' K) :
    Wo E P n ops c (⟨some d, .call { callee := .builtin .append, args := #[s, x], argTypes := #[t, u] }, ty, ps, af, g⟩ :: rest) k m B K := by
  have hX2 : Sl V (some ⟨i, 0, some 0⟩) sz [row] := sl_of_at hX (by simp) (by simpa using hrl) rfl
  replace hX2 := hX2.le hst.le
  exact wo_app hst (xrows := [row]) w hk hs hx hX2 hl hcp rfl (by simpa using hcl) (by simp; omega) hw hd ht hu hi hz hzl hsz hby hkc hn

end

section
variable {P : Program} {E : List TypeId} {n : Nat} {m : TF} {B : Hp} {K : TF → Hp → Prop} {ops : List Oper} {c k : Nat} {rest : List Oper} {d : Nat} {ty : TypeId} {ps : String} {af : Array Edge} {g : Option (Nat × Bool)}

/-- An element of an array. -/
theorem wo_index1 {t e : TypeId} {x ix : Operand} {cs : List Value} {kk : IntKind} {j : Int} {len : Nat} {v : Value} (q : Nat) (hx : evM m x = some (.agg ⟨cs⟩)) (hi : evM m ix = some (.int kk j)) (hj : j = (q : Int)) (hq : q < len) (hv : cs[q]? = some v)
    (hw : wantM ops m ⟨some d, .index t x ix, ty, ps, af, g⟩ = some true) (hd : Nat.blt d n = true) (ht : P.underlying t = some (.array len e)) (hz : szOf P e = some 1) (hp : dpart P e cs q = cs[q]?)
    (hn : Wo E P n ops c rest (k + 1) ((d, v) :: m) B K) : Wo E P n ops c (⟨some d, .index t x ix, ty, ps, af, g⟩ :: rest) k m B K := by
  subst hj
  refine wo_pure (v := v) ?_ hw (fun _ => rfl) rfl hd hn
  simp only [dOp, hx, hi, ht, hz, Option.bind_some]
  rw [if_pos ⟨by omega, by omega⟩, Int.toNat_natCast, Nat.mul_one, hp, hv]
  rfl

/-- The place of an element of an array in memory. -/
theorem wo_ixA {t e : TypeId} {x ix : Operand} {i off ver len : Nat} {kk : IntKind} {j : Int} (q sz off' : Nat) (hx : evM m x = some (.pointer (some ⟨i, off, some ver⟩))) (hi : evM m ix = some (.int kk j)) (hj : j = (q : Int)) (hq : q < len) (ho : off + q * sz = off')
    (hw : wantM ops m ⟨some d, .indexAddr t x ix, ty, ps, af, g⟩ = some true) (hd : Nat.blt d n = true) (ht : P.underlying t = some (.array len e)) (hz : szOf P e = some sz)
    (hn : Wo E P n ops c rest (k + 1) ((d, .pointer (some ⟨i, off', some ver⟩)) :: m) B K) : Wo E P n ops c (⟨some d, .indexAddr t x ix, ty, ps, af, g⟩ :: rest) k m B K := by
  subst hj; subst ho
  refine wo_pure (v := .pointer (some ⟨i, off + q * sz, some ver⟩)) ?_ hw (fun _ => rfl) rfl hd hn
  simp only [dOp, hx, hi, ht, hz, Option.bind_some, Option.map_some]
  rw [if_pos ⟨by omega, by omega⟩, Int.toNat_natCast]

end

/-- Operations that leave memory as it is and do not look at it. -/
def purish : Op → Bool
  | .move _ => true
  | .assign _ => true
  | .pick _ _ _ => true
  | .build _ _ => true
  | .binOp _ _ _ _ _ => true
  | .unOp _ _ _ => true
  | .convert _ _ _ => true
  | .makeFunc _ _ _ => true
  | .field _ _ _ => true
  | .index _ _ _ => true
  | .fieldAddr _ _ _ => true
  | .extract _ _ => true
  | .nilCheck _ => true
  | .makeInterface _ _ => true
  | .call { callee := .builtin .len, .. } => true
  | .call { callee := .builtin .cap, .. } => true
  | _ => false

/-- A gate ahead of a plain step. -/
theorem wo_gate {P : Program} {E : List TypeId} {n : Nat} {m : TF} {A : Hp} {K : TF → Hp → Prop} {ops : List Oper} {c k : Nat} {rest : List Oper} {dd : Option Tmp} {op : Op} {ty : TypeId} {ps : String} {af : Array Edge} {g : Option (Nat × Bool)}
    (_hp : purish op = true) (hn : Wo E P n ops c (⟨dd, op, ty, ps, af, g⟩ :: rest) k m A K) : Wo E P n ops c (⟨dd, op, ty, ps, af, g⟩ :: rest) k m A K := hn

/-- What is owned may be frozen. -/
theorem Sta.frzO {base V B : Hp} {os : List Own1} (h : Sta base V B os) {i es ver : Nat} {opn : Bool} {cs : List Value} (k : Nat) (hk : os[k]? = some (.obj i ⟨cs, false, opn, es, ver⟩)) :
    ∃ V', Sta base V' B (os.eraseIdx k) ∧ Le V V' ∧ V'[i]? = some (.cells ⟨cs, true, opn, es, ver⟩) := by
  obtain ⟨V', h1, h2, h3⟩ := h.frz hk
  exact ⟨V', h1, h2, h3⟩

theorem Sta.swap {base V B : Hp} {x y : Own1} {os : List Own1} (h : Sta base V B (x :: y :: os)) : Sta base V B (y :: x :: os) := by
  have key : ∀ (i : Nat) (z : Own1), (y :: x :: os)[i]? = some z → (x :: y :: os)[if i = 0 then 1 else if i = 1 then 0 else i]? = some z := by
    intro i z hz
    match i with
    | 0 => exact hz
    | 1 => exact hz
    | i + 2 => rw [if_neg (by omega), if_neg (by omega)]; exact hz
  refine ⟨h.view, h.gr, fun z hz => h.own z ?_, ?_⟩
  · simp only [List.mem_cons] at hz ⊢
    rcases hz with h | h | h
    · exact .inr (.inl h)
    · exact .inl h
    · exact .inr (.inr h)
  · intro i j z u k hz hu hzk huk
    have := h.ne _ _ z u k (key i z hz) (key j u hu) hzk huk
    split at this <;> split at this <;> (try split at this) <;> (try split at this) <;> omega

/-- One more slice to be grown, behind the first owned. -/
theorem Sta.addAccs {base V B : Hp} {x : Own1} {os : List Own1} (h : Sta base V B (x :: os)) (sz : Nat) : Sta base V B (x :: .acc none sz [] :: os) := (h.addAcc sz).swap

theorem Sta.welAcc {base V B : Hp} {os : List Own1} (h : Sta base V B os) {k sz : Nat} {a : Option Addr} {rows : List (List Value)} (hk : os[k]? = some (.acc a sz rows)) :
    ∀ p, a = some p → ∃ i off ver b, p = ⟨i, off, some ver⟩ ∧ B[i]? = some (.cells b) ∧ b.ver = ver ∧ b.es = sz := by
  obtain ⟨o, h1, _⟩ := h.own _ (List.mem_of_getElem? hk)
  intro p hp
  subst hp
  cases o with
  | none => cases h1.1
  | some i =>
    obtain ⟨ver, he, h2, _⟩ := h1
    cases he
    exact ⟨i, 0, ver, _, rfl, h2, rfl, rfl⟩

/-- The state behind a call. -/
theorem Sta.callE {base V B : Hp} {os : List Own1} (h : Sta base V B os) {r : Hp} (hr : Fresh r) : ∃ V', Sta base V' (B ++ r) os ∧ Le V V' ∧ Le (V ++ r) V' := ⟨_, h.call hr, .app _ _, h.callLe r⟩

end Go.Dx
