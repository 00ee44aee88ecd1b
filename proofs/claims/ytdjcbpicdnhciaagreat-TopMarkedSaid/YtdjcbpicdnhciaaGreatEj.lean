/- The data layer: single operations, for a walk through a region with one store in its head. -/
import Derived.Test.YtdjcbpicdnhciaaGreatEi
set_option linter.unusedVariables false
set_option linter.unusedSimpArgs false
namespace Go.Dx

section
variable {P : Program} {E : List TypeId} {m : TF} {A : Hp}

theorem dOp_at {t e : TypeId} {x ix : Operand} {a : Option Addr} {len cap sz : Nat} {kk : IntKind} {j : Int} {rows : List (List Value)} (row : List Value)
    (hx : evM m x = some (.slice a len cap)) (hs : Sl A a sz rows) (hi : evM m ix = some (.int kk j)) (ht : P.underlying t = some (.slice e)) (hz : szOf P e = some sz)
    (hl : len = rows.length) (h0 : 0 ≤ j) (hj : rows[j.toNat]? = some row) : ∃ p, dOp E P (evM m) A (.indexAddr t x ix) = some (.pointer (some p), .keep) ∧ rd A p sz = some row := by
  obtain ⟨i, off, ver, rfl, hr⟩ := hs.row hj
  have hjl : j.toNat < rows.length := (List.getElem?_eq_some_iff.1 hj).1
  refine ⟨⟨i, off + j.toNat * sz, some ver⟩, ?_, hr⟩
  simp only [dOp, hx, hi, ht, hz, Option.bind_some, Option.map_some]
  rw [if_pos ⟨h0, by omega⟩]

theorem dOp_loads {t : TypeId} {x : Operand} {p : Addr} {de : TypeDesc} {ti : TypeInfo} {N : Nat} {cs : List Value} (hx : evM m x = some (.pointer (some p))) (hr : rd A p N = some cs)
    (ht : P.underlying t = some de) (hi : P.info? t = some ti) (hg : isAggD de = true) (hN : ti.size = N) : dOp E P (evM m) A (.load t x) = some (.agg ⟨cs⟩, .keep) := by
  subst hN
  simp only [dOp, hx, ht, hi, hg, Option.bind_some, if_true, hr, Option.map_some]

theorem dOp_load {t : TypeId} {x : Operand} {p : Addr} {de : TypeDesc} {ti : TypeInfo} {v : Value} (hx : evM m x = some (.pointer (some p))) (hr : rd A p 1 = some [v])
    (ht : P.underlying t = some de) (hi : P.info? t = some ti) (hg : isAggD de = false) : dOp E P (evM m) A (.load t x) = some (v, .keep) := by
  simp only [dOp, hx, ht, hi, hg, Option.bind_some, Bool.false_eq_true, if_false, hr]
  rfl

end

section
variable {P : Program} {E : List TypeId} {ops : Array Oper} {c i0 k0 : Nat} {bz : Blk} {n : Nat} {m : TF} {A : Hp} {Q : Exit → TF → Hp → Prop} {K : TF → Hp → Prop} {k : Nat} {rest : List Oper} {d : Nat} {op : Op} {ty : TypeId} {ps : String} {af : Array Edge} {g : Option (Nat × Bool)}

/-- The object that is filled in the head is made. -/
theorem wp_allocP {t : TypeId} {z : Value} (bx : Blk) (hz : zeroOf P t = some z) (hf : flat z = true) (hc : z.cells.toList.all isCell = true) (hbz : bz = ⟨z.cells.toList, false, false, 1, 0⟩) (hl : A.length = i0) (hb2 : bx.ro = false) (he : edgeB ops k0 k = true)
    (hw : wantM ops.toList m ⟨some d, .alloc t, ty, ps, af, g⟩ = some true) (hd : Nat.blt d n = true) (hkc : Nat.blt k c = true) (hk0 : Nat.beq k k0 = false)
    (hn : Wp E P n ops c i0 k0 bz rest (k + 1) ((d, .pointer (some ⟨A.length, 0, some 0⟩)) :: m) (A ++ [.cells bx]) K) : Wp E P n ops c i0 k0 bz (⟨some d, .alloc t, ty, ps, af, g⟩ :: rest) k m A K := by
  refine wp_newP (v := .pointer (some ⟨A.length, 0, some 0⟩)) bx ?_ hl (by rw [hbz]) hb2 he hw (fun _ => rfl) rfl hd hkc hk0 hn
  simp only [dOp, hz, Option.bind_some, hf, hc, Bool.and_self, if_true, hid_len, ← hbz]

/-- Another object is made. -/
theorem wp_allocN {t : TypeId} {z : Value} (hz : zeroOf P t = some z) (hf : flat z = true) (hc : z.cells.toList.all isCell = true) (hne : A.length ≠ i0)
    (hw : wantM ops.toList m ⟨some d, .alloc t, ty, ps, af, g⟩ = some true) (hd : Nat.blt d n = true) (hkc : Nat.blt k c = true) (hk0 : Nat.beq k k0 = false)
    (hn : Wp E P n ops c i0 k0 bz rest (k + 1) ((d, .pointer (some ⟨A.length, 0, some 0⟩)) :: m) (A ++ [.cells ⟨z.cells.toList, false, false, 1, 0⟩]) K) : Wp E P n ops c i0 k0 bz (⟨some d, .alloc t, ty, ps, af, g⟩ :: rest) k m A K := by
  refine wp_new (v := .pointer (some ⟨A.length, 0, some 0⟩)) (x := .cells ⟨z.cells.toList, false, false, 1, 0⟩) ?_ rfl hne hw (fun _ => rfl) rfl hd hkc hk0 hn
  simp only [dOp, hz, Option.bind_some, hf, hc, Bool.and_self, if_true, hid_len]

theorem wp_at {t e : TypeId} {x ix : Operand} {a : Option Addr} {len cap sz : Nat} {kk : IntKind} {j : Int} {rows : List (List Value)} (row : List Value)
    (hx : evM m x = some (.slice a len cap)) (hs : Sl (hid (pend1 i0 k0 bz) A) a sz rows) (hi : evM m ix = some (.int kk j)) (ht : P.underlying t = some (.slice e)) (hz : szOf P e = some sz)
    (hl : len = rows.length) (h0 : 0 ≤ j) (hj : rows[j.toNat]? = some row) (hw : wantM ops.toList m ⟨some d, .indexAddr t x ix, ty, ps, af, g⟩ = some true) (hd : Nat.blt d n = true) (hkc : Nat.blt k c = true) (hk0 : Nat.beq k k0 = false)
    (hn : ∀ p, rd (hid (pend1 i0 k0 bz) A) p sz = some row → Wp E P n ops c i0 k0 bz rest (k + 1) ((d, .pointer (some p)) :: m) A K) : Wp E P n ops c i0 k0 bz (⟨some d, .indexAddr t x ix, ty, ps, af, g⟩ :: rest) k m A K := by
  obtain ⟨p, h1, h2⟩ := dOp_at (E := E) (P := P) row hx hs hi ht hz hl h0 hj
  exact wp_keep h1 hw (fun _ => rfl) rfl hd hkc hk0 (hn p h2)

theorem wp_loads {t : TypeId} {x : Operand} {p : Addr} {de : TypeDesc} {ti : TypeInfo} {N : Nat} {cs : List Value} (hx : evM m x = some (.pointer (some p))) (hr : rd (hid (pend1 i0 k0 bz) A) p N = some cs)
    (ht : P.underlying t = some de) (hi : P.info? t = some ti) (hg : isAggD de = true) (hN : ti.size = N) (hw : wantM ops.toList m ⟨some d, .load t x, ty, ps, af, g⟩ = some true) (hd : Nat.blt d n = true) (hkc : Nat.blt k c = true) (hk0 : Nat.beq k k0 = false)
    (hn : Wp E P n ops c i0 k0 bz rest (k + 1) ((d, .agg ⟨cs⟩) :: m) A K) : Wp E P n ops c i0 k0 bz (⟨some d, .load t x, ty, ps, af, g⟩ :: rest) k m A K :=
  wp_keep (dOp_loads hx hr ht hi hg hN) hw (fun _ => rfl) rfl hd hkc hk0 hn

theorem wp_load {t : TypeId} {x : Operand} {p : Addr} {de : TypeDesc} {ti : TypeInfo} {v : Value} (hx : evM m x = some (.pointer (some p))) (hr : rd (hid (pend1 i0 k0 bz) A) p 1 = some [v])
    (ht : P.underlying t = some de) (hi : P.info? t = some ti) (hg : isAggD de = false) (hw : wantM ops.toList m ⟨some d, .load t x, ty, ps, af, g⟩ = some true) (hd : Nat.blt d n = true) (hkc : Nat.blt k c = true) (hk0 : Nat.beq k k0 = false)
    (hn : Wp E P n ops c i0 k0 bz rest (k + 1) ((d, v) :: m) A K) : Wp E P n ops c i0 k0 bz (⟨some d, .load t x, ty, ps, af, g⟩ :: rest) k m A K :=
  wp_keep (dOp_load hx hr ht hi hg) hw (fun _ => rfl) rfl hd hkc hk0 hn

end
/-- Is the operation not wanted, since the one that it hangs on was not? -/
def wantU (ops : List Oper) (m : TF) (o : Oper) : Bool :=
  match o.guard with
  | none => false
  | some (j, _) =>
    match ops[j]? with
    | some oj => match oj.dst with
      | some d => match look m d with
        | some (.bool _) => false
        | some _ => true
        | none => false
      | none => false
    | none => false

theorem Knows.wantU {n : Nat} {m : TF} {t : List Value} (h : Knows n m t) {ops : List Oper} {o : Oper} (hw : wantU ops m o = true) : wantedD ops t o = false := by
  unfold Go.Dx.wantU at hw
  unfold wantedD
  split at hw
  · cases hw
  · rename_i j c hg
    rw [hg]
    simp only
    split at hw
    · rename_i oj hj
      rw [hj]
      simp only
      split at hw
      · rename_i d hd
        rw [hd]
        simp only
        split at hw
        · cases hw
        · rename_i v hn hl
          rw [h.2 _ _ hl]
          cases v <;> first | rfl | exact (hn _ rfl).elim
        · cases hw
      · cases hw
    · cases hw

theorem wo_notU {P : Program} {E : List TypeId} {n : Nat} {m : TF} {A : Hp} {K : TF → Hp → Prop} {ops : List Oper} {c k : Nat} {rest : List Oper} {d : Nat} {op : Op} {ty : TypeId} {ps : String} {af : Array Edge} {g : Option (Nat × Bool)}
    (hw : wantU ops m ⟨some d, op, ty, ps, af, g⟩ = true) (hd : Nat.blt d n = true)
    (hn : Wo E P n ops c rest (k + 1) ((d, undef) :: m) A K) : Wo E P n ops c (⟨some d, op, ty, ps, af, g⟩ :: rest) k m A K := by
  intro t ht
  obtain ⟨t', A', m', h1, h2, h3⟩ := hn _ (ht.put (d := some d) (dstOK_lt (d := some d) hd) undef)
  refine ⟨t', A', m', .cons ?_ h1, h2, h3⟩
  unfold StepR
  rw [if_neg (by rw [ht.wantU hw]; simp)]
  exact ⟨rfl, rfl⟩

end Go.Dx
