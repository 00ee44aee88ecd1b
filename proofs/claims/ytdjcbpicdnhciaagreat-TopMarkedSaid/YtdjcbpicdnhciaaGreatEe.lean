/- The data layer: contracts of functions that leave all data as they are; new objects and stores, by what is known. -/
import Derived.Test.YtdjcbpicdnhciaaGreatEd
set_option linter.unusedVariables false
set_option linter.unusedSimpArgs false
namespace Go.Dx

/-- The contract of a function that leaves all data as they are. -/
def Fun (P : Program) (f : FuncId) (args : List Value) (A : Hp) (R : Value → Hp → Prop) : Prop :=
  ∃ v r, Ev P f args (roH A) v (roH A ++ r) ∧ Fresh r ∧ R v (roH A ++ r)

theorem Fun.mono {P : Program} {f : FuncId} {args : List Value} {A : Hp} {R R' : Value → Hp → Prop} (h : Fun P f args A R) (hr : ∀ v B, R v B → R' v B) : Fun P f args A R' := by
  obtain ⟨v, r, h1, h2, h3⟩ := h; exact ⟨v, r, h1, h2, hr _ _ h3⟩

theorem fun_walk {P : Program} {f : FuncId} {fn : Func} {c : Code} {args : List Value} {A : Hp} {R : Value → Hp → Prop} (hf : P.funcs[f]? = some fn) (hb : fn.body = some c) (hn : Nat.ble args.length fn.ntmps = true)
    (h : W P fn.ntmps c (argsM 0 args) (roH A) fun e m' B => (e = .normal ∨ e = .ret) ∧ Gr (roH A) B ∧ ∃ vs, ressM P m' B fn.results.toList = some vs ∧ R (oneOf vs) B) : Fun P f args A R := by
  have : ∃ v A', Ev P f args (roH A) v A' ∧ (Gr (roH A) A' ∧ R v A') := by
    refine ev_walk hf hb hn (w_mono h ?_)
    rintro e m' B ⟨h1, h2, vs, h3, h4⟩
    exact ⟨h1, vs, h3, h2, h4⟩
  obtain ⟨v, A', h1, ⟨r, rfl, hr⟩, h3⟩ := this
  exact ⟨v, r, h1, hr, h3⟩

section
variable {P : Program} {E : List TypeId} {n : Nat} {m : TF} {A : Hp} {K : TF → Hp → Prop} {ops : List Oper} {c k : Nat} {rest : List Oper} {d : Nat} {op : Op} {ty : TypeId} {ps : String} {af : Array Edge} {g : Option (Nat × Bool)}

/-- A call of a function with a contract. -/
theorem wo_call1 {f : FuncId} {args : List Value} {R : Value → Hp → Prop} (h : Fun P f args A R) (hc : callee (evM m) op = some (f, args))
    (hw : wantM ops m ⟨some d, op, ty, ps, af, g⟩ = some true) (hd : Nat.blt d n = true)
    (hn : ∀ v r, Fresh r → R v (roH A ++ r) → Wo E P n ops c rest (k + 1) ((d, v) :: m) (A ++ r) K) : Wo E P n ops c (⟨some d, op, ty, ps, af, g⟩ :: rest) k m A K :=
  wo_fun hc h hw hd hn

/-- How a new object changes the heap. -/
structure NewStep (A B : Hp) (i : Nat) (o : AObj) : Prop where
  at_ : B[i]? = some o
  gr : ∀ base, Gr base A → Gr base B ∧ base.length ≤ i
  keep : ∀ (j : Nat) (x : AObj), A[j]? = some x → B[j]? = some x ∧ j ≠ i
  pre : Pre A B
  idx : i = A.length
  len : B.length = A.length + 1

theorem new_step (A : Hp) {o : AObj} (h : o.wr = true) : NewStep A (A ++ [o]) A.length o :=
  ⟨at_new A o, fun _ hg => ⟨hg.push h, hg.le⟩, fun j x hj => ⟨at_app hj _, by have := (List.getElem?_eq_some_iff.1 hj).1; omega⟩, (Pre.refl A).app _, rfl, by simp⟩

theorem wo_alloc {b : Blk} (h : dOp E P (evM m) A op = some (.pointer (some ⟨A.length, 0, some 0⟩), .new (.cells b))) (hw : wantM ops m ⟨some d, op, ty, ps, af, g⟩ = some true) (hc : ∀ ev, callee ev op = none) (hi : isNext op = false) (hq : b.ro = false) (hd : Nat.blt d n = true)
    (hn : ∀ i B, NewStep A B i (.cells b) → Wo E P n ops c rest (k + 1) ((d, .pointer (some ⟨i, 0, some 0⟩)) :: m) B K) : Wo E P n ops c (⟨some d, op, ty, ps, af, g⟩ :: rest) k m A K := by
  have hq' : (AObj.cells b).wr = true := by simp [AObj.wr, hq]
  exact wo_new h hw hc hi hq' hd (hn A.length _ (new_step A hq'))

theorem wo_mk {b : Blk} {l cap : Nat} (h : dOp E P (evM m) A op = some (.slice (some ⟨A.length, 0, some 0⟩) l cap, .new (.cells b))) (hw : wantM ops m ⟨some d, op, ty, ps, af, g⟩ = some true) (hc : ∀ ev, callee ev op = none) (hi : isNext op = false) (hq : b.ro = false) (hd : Nat.blt d n = true)
    (hn : ∀ i B, NewStep A B i (.cells b) → Wo E P n ops c rest (k + 1) ((d, .slice (some ⟨i, 0, some 0⟩) l cap) :: m) B K) : Wo E P n ops c (⟨some d, op, ty, ps, af, g⟩ :: rest) k m A K := by
  have hq' : (AObj.cells b).wr = true := by simp [AObj.wr, hq]
  exact wo_new h hw hc hi hq' hd (hn A.length _ (new_step A hq'))

/-- An append to a slice of a block that is not grown: it makes a new one. -/
theorem wo_append_new {t u e : TypeId} {s x : Operand} {ie : TypeInfo} {z : Value} {i off ver : Nat} {b : Blk} {xa : Option Addr} {len cap xl xc sz : Nat} {rows xrows : List (List Value)}
    (hs : evM m s = some (.slice (some ⟨i, off, some ver⟩) len cap)) (hx : evM m x = some (.slice xa xl xc)) (hb : A[i]? = some (.cells b)) (hv : b.ver = ver) (hopn : b.opn = false) (hr : (b.cs.drop off).take (len * sz) = rows.flatten)
    (hle : off + len * sz ≤ b.cs.length) (hl : len = rows.length) (hrl : ∀ r ∈ rows, r.length = sz) (hrc : rows.flatten.all isCell = true) (hX : Sl A xa sz xrows) (hxl : xl = xrows.length) (hcl : xrows.flatten.all isCell = true) (hcap : cap < len + xl)
    (hb1 : (rows.length + xrows.length) * ie.bytes ≤ 1000000000) (hb2 : rows.length + xrows.length ≤ 1000000000)
    (hw : wantM ops m ⟨some d, .call { callee := .builtin .append, args := #[s, x], argTypes := #[t, u] }, ty, ps, af, g⟩ = some true) (hd : Nat.blt d n = true)
    (ht : P.underlying t = some (.slice e)) (hu : P.underlying u = some (.slice e)) (hi : P.info? e = some ie) (hz : ie.zero = some z) (hzl : z.cells.toList.length = ie.size) (hsz : ie.size = sz)
    (hn : ∀ i' B, NewStep A B i' (.cells ⟨(rows ++ xrows).flatten, false, true, sz, 0⟩) → Own B (some i') (some ⟨i', 0, some 0⟩) sz (rows ++ xrows) → Wo E P n ops c rest (k + 1) ((d, .slice (some ⟨i', 0, some 0⟩) (rows ++ xrows).length (rows ++ xrows).length) :: m) B K) :
    Wo E P n ops c (⟨some d, .call { callee := .builtin .append, args := #[s, x], argTypes := #[t, u] }, ty, ps, af, g⟩ :: rest) k m A K := by
  subst hl; subst hxl; subst hsz
  have hrd : rdFirst A ie.size xrows.length (.slice xa xrows.length xc) = some xrows.flatten := by
    rcases hX.cells xrows.length xc with h | h
    · exact h
    · subst h; cases xa <;> simp [rdFirst]
  have hst := new_step A (o := .cells ⟨(rows ++ xrows).flatten, false, true, ie.size, 0⟩) rfl
  refine wo_new (v := .slice (some ⟨A.length, 0, some 0⟩) (rows ++ xrows).length (rows ++ xrows).length) (o := .cells ⟨(rows ++ xrows).flatten, false, true, ie.size, 0⟩) ?_ hw (fun _ => rfl) rfl rfl hd
    (hn A.length _ hst ⟨0, rfl, hst.at_, fun r hr => (List.mem_append.1 hr).elim (hrl r) (hX.lens r), by rw [List.flatten_append, List.all_append, hrc, hcl]; rfl⟩)
  simp only [dOp, evs, hs, hx, Option.bind_some, Option.map_some, dBuiltin, ht, hu, hi, hz, if_true, hzl, hrd, dAppend]
  rw [if_neg (by omega), hb]
  simp only
  rw [if_pos ⟨hv, hle, hb1, hb2, hcl⟩, if_pos (.inl hopn), hr, ← List.flatten_append, List.length_append]

/-- How a store changes the heap. -/
structure SetStep (A B : Hp) (i : Nat) (o : AObj) : Prop where
  at_ : B[i]? = some o
  gr : ∀ base, Gr base A → base.length ≤ i → Gr base B
  keep : ∀ (j : Nat) (x : AObj), j ≠ i → A[j]? = some x → B[j]? = some x
  len : B.length = A.length

theorem wo_put {t : TypeId} {x y : Operand} {i off ver es : Nat} {opn : Bool} {bcs : List Value} {v : Value} {cs : List Value} {ti : TypeInfo}
    (hx : evM m x = some (.pointer (some ⟨i, off, some ver⟩))) (hy : evM m y = some v) (ha : A[i]? = some (.cells ⟨bcs, false, opn, es, ver⟩))
    (hw : ∀ dd, wantM ops m ⟨dd, .store t x y, ty, ps, af, g⟩ = some true) (hi : P.info? t = some ti) (hl : v.cells.toList.length = ti.size) (hle : Nat.ble (off + v.cells.toList.length) bcs.length = true) (hcl : v.cells.toList.all isCell = true) (hk : Nat.ble c k = true)
    (hcs : splice bcs off v.cells.toList = cs)
    (hn : ∀ B, SetStep A B i (.cells ⟨cs, false, opn, es, ver⟩) → Wo E P n ops c rest (k + 1) m B K) : Wo E P n ops c (⟨none, .store t x y, ty, ps, af, g⟩ :: rest) k m A K := by
  subst hcs
  refine wo_store (hx := hx) (hy := hy) (ha := ha) rfl rfl hw hi rfl hl (Nat.le_of_ble_eq_true hle) hcl hk rfl (hn _ ⟨at_set ha, fun base hg hb => hg.set hb rfl, fun j x hj hx => at_set_ne (fun h => hj h.symm) hx, by simp⟩)

/-- A variable in memory, with its first value: a struct or an array. -/
theorem wo_varA {t : TypeId} {x : Operand} {vs : List Value} {ti : TypeInfo} {z : Value} {ty2 : TypeId} {ps2 : String} {af2 : Array Edge} {g2 : Option (Nat × Bool)}
    (hx : evM m x = some (.agg ⟨vs⟩)) (hne : ∀ e, x = .tmp e → Nat.beq d e = false) (hw : wantM ops m ⟨some d, .alloc t, ty, ps, af, g⟩ = some true) (hd : Nat.blt d n = true) (hg2 : g2 = none) (hi : P.info? t = some ti) (hz : ti.zero = some z) (hf : flat z = true) (hfc : z.cells.toList.all isCell = true)
    (hl : z.cells.toList.length = ti.size) (hvl : Nat.beq vs.length ti.size = true) (hcl : vs.all isCell = true) (hk : Nat.ble c (k + 1) = true)
    (hn : ∀ i B, NewStep A B i (.cells ⟨vs, false, false, 1, 0⟩) → Wo E P n ops c rest (k + 1 + 1) ((d, .pointer (some ⟨i, 0, some 0⟩)) :: m) B K) :
    Wo E P n ops c (⟨some d, .alloc t, ty, ps, af, g⟩ :: ⟨none, .store t (.tmp d) x, ty2, ps2, af2, g2⟩ :: rest) k m A K := by
  have hvl' : vs.length = ti.size := Nat.eq_of_beq_eq_true hvl
  refine wo_new (v := .pointer (some ⟨A.length, 0, some 0⟩)) (o := .cells ⟨z.cells.toList, false, false, 1, 0⟩) ?_ hw (fun _ => rfl) rfl rfl hd ?_
  · simp only [dOp, zeroOf, hi, Option.bind_some, hz, hf, hfc, Bool.and_self, if_true]
  · have hx2 : evM ((d, .pointer (some ⟨A.length, 0, some 0⟩)) :: m) x = some (.agg ⟨vs⟩) := by
      cases x with
      | tmp e => simp only [evM, look, hne e rfl]; exact hx
      | const v => exact hx
      | global g => exact hx
      | func f => exact hx
    have hcs : (Value.agg ⟨vs⟩).cells.toList = vs := rfl
    refine wo_store (i := A.length) (off := 0) (ver := 0) (b := ⟨z.cells.toList, false, false, 1, 0⟩) (v := .agg ⟨vs⟩) (vs := vs) (ti := ti) ?_ hx2 (at_new A _) rfl rfl ?_ hi hcs hvl' (by show 0 + vs.length ≤ z.cells.toList.length; omega) hcl ?_ rfl ?_
    · simp [evM, look]
    · intro dd; subst hg2; rfl
    · exact hk
    · have e : splice z.cells.toList 0 vs = vs := by
        simp only [splice, List.take_zero, List.nil_append, Nat.zero_add]
        rw [List.drop_eq_nil_of_le (by omega), List.append_nil]
      rw [e]
      have e2 : (A ++ [AObj.cells ⟨z.cells.toList, false, false, 1, 0⟩]).set A.length (.cells ⟨vs, false, false, 1, 0⟩) = A ++ [.cells ⟨vs, false, false, 1, 0⟩] := by
        rw [List.set_append_right _ _ (Nat.le_refl _)]; simp
      rw [e2]
      exact hn A.length _ (new_step A rfl)

/-- The same, a variable of one cell. -/
theorem wo_var1 {t : TypeId} {x : Operand} {v : Value} {ti : TypeInfo} {z : Value} {ty2 : TypeId} {ps2 : String} {af2 : Array Edge} {g2 : Option (Nat × Bool)}
    (hx : evM m x = some v) (hv : v.cells.toList = [v]) (hne : ∀ e, x = .tmp e → Nat.beq d e = false) (hw : wantM ops m ⟨some d, .alloc t, ty, ps, af, g⟩ = some true) (hd : Nat.blt d n = true) (hg2 : g2 = none) (hi : P.info? t = some ti) (hz : ti.zero = some z) (hf : flat z = true) (hfc : z.cells.toList.all isCell = true)
    (hl : z.cells.toList.length = ti.size) (hvl : Nat.beq 1 ti.size = true) (hcl : isCell v = true) (hk : Nat.ble c (k + 1) = true)
    (hn : ∀ i B, NewStep A B i (.cells ⟨[v], false, false, 1, 0⟩) → Wo E P n ops c rest (k + 1 + 1) ((d, .pointer (some ⟨i, 0, some 0⟩)) :: m) B K) :
    Wo E P n ops c (⟨some d, .alloc t, ty, ps, af, g⟩ :: ⟨none, .store t (.tmp d) x, ty2, ps2, af2, g2⟩ :: rest) k m A K := by
  have hvl' : 1 = ti.size := Nat.eq_of_beq_eq_true hvl
  refine wo_new (v := .pointer (some ⟨A.length, 0, some 0⟩)) (o := .cells ⟨z.cells.toList, false, false, 1, 0⟩) ?_ hw (fun _ => rfl) rfl rfl hd ?_
  · simp only [dOp, zeroOf, hi, Option.bind_some, hz, hf, hfc, Bool.and_self, if_true]
  · have hx2 : evM ((d, .pointer (some ⟨A.length, 0, some 0⟩)) :: m) x = some v := by
      cases x with
      | tmp e => simp only [evM, look, hne e rfl]; exact hx
      | const v => exact hx
      | global g => exact hx
      | func f => exact hx
    refine wo_store (i := A.length) (off := 0) (ver := 0) (b := ⟨z.cells.toList, false, false, 1, 0⟩) (v := v) (vs := [v]) (ti := ti) ?_ hx2 (at_new A _) rfl rfl ?_ hi hv hvl' (by show 0 + 1 ≤ z.cells.toList.length; omega) (by simp [hcl]) ?_ rfl ?_
    · simp [evM, look]
    · intro dd; subst hg2; rfl
    · exact hk
    · have e : splice z.cells.toList 0 [v] = [v] := by
        simp only [splice, List.take_zero, List.nil_append, Nat.zero_add]
        rw [List.drop_eq_nil_of_le (by show z.cells.toList.length ≤ 0 + 1; omega), List.append_nil]
      rw [e]
      have e2 : (A ++ [AObj.cells ⟨z.cells.toList, false, false, 1, 0⟩]).set A.length (.cells ⟨[v], false, false, 1, 0⟩) = A ++ [.cells ⟨[v], false, false, 1, 0⟩] := by
        rw [List.set_append_right _ _ (Nat.le_refl _)]; simp
      rw [e2]
      exact hn A.length _ (new_step A rfl)

theorem max_go (x y : Int) : (if (decide (y > x)) = true then y else x) = max x y := by
  by_cases h : y > x
  · simp [h]; omega
  · simp [h]; omega

theorem min_go (x y : Int) : (if (decide (y < x)) = true then y else x) = min x y := by
  by_cases h : y < x
  · simp [h]; omega
  · simp [h]; omega

theorem wo_max {x y : Operand} {ts : Array TypeId} {kk : IntKind} {p q : Int} (hx : evM m x = some (.int kk p)) (hy : evM m y = some (.int kk q)) (hw : wantM ops m ⟨some d, .call { callee := .builtin .max, args := #[x, y], argTypes := ts }, ty, ps, af, g⟩ = some true) (hd : Nat.blt d n = true)
    (hn : Wo E P n ops c rest (k + 1) ((d, .int kk (max p q)) :: m) A K) : Wo E P n ops c (⟨some d, .call { callee := .builtin .max, args := #[x, y], argTypes := ts }, ty, ps, af, g⟩ :: rest) k m A K := by
  refine wo_pure (v := .int kk (max p q)) ?_ hw (fun _ => rfl) rfl hd hn
  simp only [dOp, evs, hx, hy, Option.bind_some, Option.map_some, dBuiltin, dMinMax, if_true, max_go]

theorem wo_min {x y : Operand} {ts : Array TypeId} {kk : IntKind} {p q : Int} (hx : evM m x = some (.int kk p)) (hy : evM m y = some (.int kk q)) (hw : wantM ops m ⟨some d, .call { callee := .builtin .min, args := #[x, y], argTypes := ts }, ty, ps, af, g⟩ = some true) (hd : Nat.blt d n = true)
    (hn : Wo E P n ops c rest (k + 1) ((d, .int kk (min p q)) :: m) A K) : Wo E P n ops c (⟨some d, .call { callee := .builtin .min, args := #[x, y], argTypes := ts }, ty, ps, af, g⟩ :: rest) k m A K := by
  refine wo_pure (v := .int kk (min p q)) ?_ hw (fun _ => rfl) rfl hd hn
  simp only [dOp, evs, hx, hy, Option.bind_some, Option.map_some, dBuiltin, dMinMax, if_true, min_go]

/-- A result that lies in memory. -/
theorem ress_cell {a : Nat} {t : TypeId} {p : Addr} {de : TypeDesc} {ti : TypeInfo} {N : Nat} {cs : List Value} {rs : List ResultVar} {vs : List Value} (h : look m a = some (.pointer (some p))) (hr : rd A p N = some cs) (ht : P.underlying t = some de) (hi : P.info? t = some ti)
    (hg : isAggD de = true) (hN : ti.size = N) (hs : ressM P m A rs = some vs) : ressM P m A (.cell a t :: rs) = some (.agg ⟨cs⟩ :: vs) := by
  subst hN
  simp only [ressM, resM, h, Option.bind_some, ht, hi, hg, if_true, hr, Option.map_some, hs]

end
def z_len (zv : Value) (ie : TypeInfo) : Bool := Nat.beq zv.cells.toList.length ie.size

theorem rep_cells {n : Nat} {z : List Value} (h : z.all isCell = true) : (rep n z).all isCell = true := by
  rw [List.all_eq_true] at h ⊢
  intro x hx
  simp only [rep, List.mem_flatten, List.mem_replicate] at hx
  obtain ⟨l, ⟨_, rfl⟩, h2⟩ := hx
  exact h x h2

section
variable {P : Program} {E : List TypeId} {n : Nat} {m : TF} {A : Hp} {K : TF → Hp → Prop} {ops : List Oper} {c k : Nat} {rest : List Oper} {d : Nat} {op : Op} {ty : TypeId} {ps : String} {af : Array Edge} {g : Option (Nat × Bool)}

/-- A slice of so many zeros. -/
theorem wo_makeSlice {t e : TypeId} {x y : Operand} {k1 k2 : IntKind} {z1 z2 : Int} {ie : TypeInfo} {zv : Value} (len : Nat) (hx : evM m x = some (.int k1 z1)) (hy : evM m y = some (.int k2 z2)) (h1 : z1 = (len : Int)) (h2 : z2 = (len : Int)) (hs : len ≤ 1000000000) (hb : len * ie.bytes ≤ 1000000000)
    (hw : wantM ops m ⟨some d, .makeSlice t x y, ty, ps, af, g⟩ = some true) (hd : Nat.blt d n = true) (ht : P.underlying t = some (.slice e)) (hi : P.info? e = some ie) (hz : ie.zero = some zv) (hf : flat zv = true) (hl : z_len zv ie = true) (hc : zv.cells.toList.all isCell = true)
    (hn : ∀ i B, NewStep A B i (.cells ⟨rep len zv.cells.toList, false, false, ie.size, 0⟩) → Wo E P n ops c rest (k + 1) ((d, .slice (some ⟨i, 0, some 0⟩) len len) :: m) B K) : Wo E P n ops c (⟨some d, .makeSlice t x y, ty, ps, af, g⟩ :: rest) k m A K := by
  subst h1; subst h2
  refine wo_new (v := .slice (some ⟨A.length, 0, some 0⟩) len len) (o := .cells ⟨rep len zv.cells.toList, false, false, ie.size, 0⟩) ?_ hw (fun _ => rfl) rfl rfl hd (hn A.length _ (new_step A rfl))
  have hl' : zv.cells.toList.length = ie.size := by simpa [z_len] using hl
  have hd : decide (0 ≤ (len : Int) ∧ (len : Int) ≤ (len : Int) ∧ (len : Int) ≤ 1000000000 ∧ len * ie.bytes ≤ 1000000000) = true := by
    rw [decide_eq_true_eq]
    exact ⟨by omega, by omega, by omega, hb⟩
  simp only [dOp, hx, hy, Option.bind_some, ht, hi, hz, hf, hl', hc, hd, decide_true, Bool.and_self, if_true, Int.toNat_natCast]

end

section
variable {P : Program} {E : List TypeId} {n : Nat} {m : TF} {A : Hp} {K : TF → Hp → Prop} {ops : List Oper} {c k : Nat} {rest : List Oper} {d : Nat} {op : Op} {ty : TypeId} {ps : String} {af : Array Edge} {g : Option (Nat × Bool)}

/-- The place itself of an element of a slice. -/
theorem wo_idx {t e : TypeId} {x ix : Operand} {i off ver len cap sz : Nat} {kk : IntKind} {j : Int} (q : Nat) (hx : evM m x = some (.slice (some ⟨i, off, some ver⟩) len cap)) (hi : evM m ix = some (.int kk j)) (hj : j = (q : Int)) (hq : q < len)
    (hw : wantM ops m ⟨some d, .indexAddr t x ix, ty, ps, af, g⟩ = some true) (hd : Nat.blt d n = true) (ht : P.underlying t = some (.slice e)) (hz : szOf P e = some sz)
    (hn : Wo E P n ops c rest (k + 1) ((d, .pointer (some ⟨i, off + q * sz, some ver⟩)) :: m) A K) : Wo E P n ops c (⟨some d, .indexAddr t x ix, ty, ps, af, g⟩ :: rest) k m A K := by
  subst hj
  refine wo_pure (v := .pointer (some ⟨i, off + q * sz, some ver⟩)) ?_ hw (fun _ => rfl) rfl hd hn
  simp only [dOp, hx, hi, ht, hz, Option.bind_some, Option.map_some]
  rw [if_pos ⟨by omega, by omega⟩, Int.toNat_natCast]

end

theorem splice_one {cs : List Value} {off : Nat} {v : Value} (h : off < cs.length) : splice cs off [v] = cs.set off v := by
  simp only [splice, List.length_singleton]
  rw [List.set_eq_take_append_cons_drop, if_pos h]
  simp

theorem drop_flatten {α : Type} {sz : Nat} : ∀ (k : Nat) {rows : List (List α)}, (∀ r ∈ rows, r.length = sz) → rows.flatten.drop (k * sz) = (rows.drop k).flatten
  | 0, rows, _ => by simp
  | k + 1, [], _ => by simp
  | k + 1, r :: rows, h => by
    have h1 : r.length = sz := h r (by simp)
    rw [List.flatten_cons, List.drop_succ_cons, List.drop_append, List.drop_eq_nil_of_le (by rw [h1, Nat.succ_mul]; omega), List.nil_append, h1, Nat.succ_mul, Nat.add_sub_cancel]
    exact drop_flatten k (fun r hr => h r (by simp [hr]))

theorem take_flatten {α : Type} {sz : Nat} : ∀ (k : Nat) {rows : List (List α)}, (∀ r ∈ rows, r.length = sz) → rows.flatten.take (k * sz) = (rows.take k).flatten
  | 0, rows, _ => by simp
  | k + 1, [], _ => by simp
  | k + 1, r :: rows, h => by
    have h1 : r.length = sz := h r (by simp)
    rw [List.flatten_cons, List.take_succ_cons, List.flatten_cons, List.take_append, List.take_of_length_le (by rw [h1, Nat.succ_mul]; omega), h1, Nat.succ_mul, Nat.add_sub_cancel]
    rw [take_flatten k (fun r hr => h r (by simp [hr]))]

/-- A part of a slice. -/
theorem Sl.sub {A : Hp} {i off ver sz : Nat} {rows : List (List Value)} (h : Sl A (some ⟨i, off, some ver⟩) sz rows) (lo hi : Nat) (h1 : lo ≤ hi) (h2 : hi ≤ rows.length) : Sl A (some ⟨i, off + lo * sz, some ver⟩) sz ((rows.take hi).drop lo) := by
  rcases h with h | ⟨i', off', ver', b, he, g2, g3, g4, g5, g6, g7⟩
  · subst h; exact .inl (by simp)
  · cases he
    have hl : ((rows.take hi).drop lo).length = hi - lo := by simp; omega
    have hle : hi * sz ≤ rows.length * sz := Nat.mul_le_mul_right _ h2
    have hle2 : lo * sz ≤ hi * sz := Nat.mul_le_mul_right _ h1
    have hsub : (hi - lo) * sz = hi * sz - lo * sz := Nat.sub_mul _ _ _
    refine .inr ⟨i, off + lo * sz, ver, b, rfl, g2, g3, ?_, by rw [hl, hsub]; omega, fun r hr => g6 r (List.mem_of_mem_take (List.mem_of_mem_drop hr)), g7⟩
    rw [hl, hsub, ← drop_flatten lo (fun r hr => g6 r (List.mem_of_mem_take hr)), ← take_flatten hi g6, ← g4, List.take_take, Nat.min_eq_left hle, List.drop_take, List.drop_drop]

section
variable {P : Program} {E : List TypeId} {n : Nat} {m : TF} {A : Hp} {K : TF → Hp → Prop} {ops : List Oper} {c k : Nat} {rest : List Oper} {d : Nat} {op : Op} {ty : TypeId} {ps : String} {af : Array Edge} {g : Option (Nat × Bool)}

/-- A slice of a slice. -/
theorem wo_slice {t e : TypeId} {x : Operand} {lo hi : Option Operand} {a : Option Addr} {len cap sz l h : Nat} {rows : List (List Value)} {lov hiv : Option Value}
    (hx : evM m x = some (.slice a len cap)) (hs : Sl A a sz rows) (hl : len = rows.length) (hlc : len ≤ cap) (hlo : evo (evM m) lo = some lov) (hhi : evo (evM m) hi = some hiv)
    (hw : wantM ops m ⟨some d, .slice t x lo hi none, ty, ps, af, g⟩ = some true) (hd : Nat.blt d n = true) (ht : P.underlying t = some (.slice e)) (hz : szOf P e = some sz) (hane : ∀ p, a = some p → ∃ i off ver b, p = ⟨i, off, some ver⟩ ∧ A[i]? = some (.cells b) ∧ b.ver = ver ∧ b.es = sz)
    (hb : dBound hiv len cap = some h) (hb2 : dBound lov 0 h = some l) (hle : l ≤ h) (hle2 : h ≤ rows.length)
    (hn : ∀ a', Sl A a' sz ((rows.take h).drop l) → (a = none → a' = none) → (∀ p, a' = some p → ∃ i off ver b, p = ⟨i, off, some ver⟩ ∧ A[i]? = some (.cells b) ∧ b.ver = ver ∧ b.es = sz) → Wo E P n ops c rest (k + 1) ((d, .slice a' (h - l) (cap - l)) :: m) A K) : Wo E P n ops c (⟨some d, .slice t x lo hi none, ty, ps, af, g⟩ :: rest) k m A K := by
  subst hl
  cases a with
  | none =>
    have hr0 : rows = [] := by
      rcases hs with hs | ⟨i, off, ver, b, he, _⟩
      · exact hs
      · cases he
    refine wo_pure (v := .slice none (h - l) (cap - l)) ?_ hw (fun _ => rfl) rfl hd (hn none (.inl (by subst hr0; simp)) (fun h => h) (fun p hp => by cases hp))
    have e3 : evo (evM m) none = some none := rfl
    have e4 : dBound none cap cap = some cap := rfl
    simp only [dOp, hx, hlo, hhi, e3, Option.bind_some, dSlice, ht, hz, e4, hb, hb2, Option.isSome_none, Bool.false_and, Bool.false_eq_true, if_false]
    rw [if_pos hlc]; rfl
  | some p =>
    obtain ⟨i, off, ver, b, rfl, g2, g3, g4⟩ := hane p rfl
    refine wo_pure (v := .slice (some ⟨i, off + l * sz, some ver⟩) (h - l) (cap - l)) ?_ hw (fun _ => rfl) rfl hd (hn _ (hs.sub l h hle hle2) (fun h => by cases h) (fun p hp => by cases hp; exact ⟨_, _, _, b, rfl, g2, g3, g4⟩))
    have e3 : evo (evM m) none = some none := rfl
    have e4 : dBound none cap cap = some cap := rfl
    simp only [dOp, hx, hlo, hhi, e3, Option.bind_some, dSlice, ht, hz, e4, hb, hb2, Option.isSome_none, Bool.false_and, Bool.false_eq_true, if_false, g2]
    rw [if_pos ⟨g3, .inr g4⟩]; rfl

end

/-- The slice's block was made since. -/
def From (n : Nat) (a : Option Addr) : Prop := ∀ x, a = some x → n ≤ x.block

theorem From.none {n : Nat} : From n none := fun _ h => by cases h
theorem From.le {n k : Nat} {a : Option Addr} (h : From n a) (hk : k ≤ n) : From k a := fun x hx => Nat.le_trans hk (h x hx)
theorem From.at {n i off : Nat} {sp : Option Nat} (h : n ≤ i) : From n (some ⟨i, off, sp⟩) := fun x hx => by cases hx; exact h

theorem Sl.upd {A B : Hp} {i n : Nat} {o : AObj} (h : SetStep A B i o) {a : Option Addr} {sz : Nat} {rows : List (List Value)} (hs : Sl A a sz rows) (ha : From n a) (hi : i < n) : Sl B a sz rows := by
  rcases hs with hs | ⟨j, off, ver, b, rfl, h2, h3⟩
  · exact .inl hs
  · have := ha _ rfl
    exact .inr ⟨j, off, ver, b, rfl, h.keep j _ (by simp at this; omega) h2, h3⟩

end Go.Dx
