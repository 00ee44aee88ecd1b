/- The data layer: slices, addresses, fields, maps, iterators are sound. -/
import Derived.Test.YtdjcbpicdnhciaaGreatDi
set_option linter.unusedVariables false
set_option linter.unusedSimpArgs false

section
namespace Go.Dx

theorem bytes_eq {a b : ByteArray} (h : a.data.toList = b.data.toList) : a = b := by
  obtain ⟨⟨x⟩⟩ := a; obtain ⟨⟨y⟩⟩ := b
  simpa using h

theorem extract_eq (s : ByteArray) (l h : Nat) : s.extract l h = ⟨⟨(s.data.toList.drop l).take (h - l)⟩⟩ := by
  apply bytes_eq
  simp [ByteArray.data_extract]

def loSem (lo : Option Value) (h : Nat) (code : BoundsCode) (M : Nat) : Sem (Nat × Nat × Nat) :=
  match lo with
  | some v => do let l ← Instr.sliceBound v h code; pure (l, h, M)
  | none => do let l ← pure 0; pure (l, h, M)

section
variable {P : Program} {φ : Rz} {A : Hp} {w : World} {ρ : Operand → Value} {o : Oper} {v : Value} {u : Upd}

theorem run_bound {x : Value} {dflt top top' m : Nat} {code : BoundsCode} (h : dBound (some x) dflt top = some m) (ht : top ≤ top') (w : World) : ∃ k n, x = .int k n ∧ (Instr.sliceBound x top' code).run P w = .ok m w ∧ m ≤ top := by
  unfold dBound at h
  split at h
  · rename_i heq; cases heq
  · rename_i k n heq
    cases heq
    split at h
    · rename_i hc
      cases h
      refine ⟨k, n, rfl, ?_, by omega⟩
      have : 0 ≤ n ∧ n ≤ (top' : Int) := by omega
      simp [Instr.sliceBound, asIntOf, this]
    · cases h
  · cases h

/-- The three bounds of a slice expression. -/
theorem run_bounds {isS : Bool} {len cap cap' : Nat} {lo hi mx lo' hi' mx' : Option Value} {l h m : Nat} (hlo : ∀ x, lo = some x → ∃ y, lo' = some y ∧ VRel φ x y) (hlo0 : lo = none → lo' = none)
    (hhi : ∀ x, hi = some x → ∃ y, hi' = some y ∧ VRel φ x y) (hhi0 : hi = none → hi' = none) (hmx : ∀ x, mx = some x → ∃ y, mx' = some y ∧ VRel φ x y) (hmx0 : mx = none → mx' = none)
    (hcap : cap ≤ cap') (hlen : len ≤ cap)
    (hm : dBound mx cap cap = some m) (hh : (if mx.isSome && hi.isNone then none else dBound hi len m) = some h) (hl : dBound lo 0 h = some l) (w : World) :
    (Instr.sliceBounds isS len cap' lo' hi' mx').run P w = .ok (l, h, if mx.isSome then m else cap') w ∧ l ≤ h ∧ h ≤ m ∧ m ≤ cap ∧ (mx.isSome = false → m = cap) := by
  have atomr : ∀ {x y : Value} {d t n : Nat}, dBound (some x) d t = some n → VRel φ x y → y = x := by
    intro x y d t n h hr
    unfold dBound at h
    split at h
    · rename_i heq; cases heq
    · rename_i heq; cases heq; exact atom_eq rfl hr
    · cases h
  have hl' : ∀ (code : BoundsCode) (M : Nat), (loSem lo' h code M).run P w = .ok (l, h, M) w ∧ l ≤ h := by
    intro code M
    cases lo with
    | none => rw [hlo0 rfl]; simp only [dBound] at hl; cases hl; exact ⟨rfl, Nat.zero_le _⟩
    | some x =>
      obtain ⟨y, hy, hr⟩ := hlo x rfl
      rw [hy, atomr hl hr]
      obtain ⟨k, n, rfl, hrun, hle⟩ := run_bound (P := P) (code := code) hl (Nat.le_refl _) w
      exact ⟨by simp only [loSem, Sem.run_bind, hrun, Result.andThen_ok]; rfl, hle⟩
  cases mx with
  | none =>
    rw [hmx0 rfl]
    simp only [dBound] at hm
    cases hm
    simp only [Option.isSome_none, Bool.false_and, Bool.false_eq_true, if_false] at hh ⊢
    cases hi with
    | none =>
      rw [hhi0 rfl]
      simp only [dBound] at hh
      cases hh
      refine ⟨?_, (hl' .sliceB cap').2, hlen, Nat.le_refl _, by simp⟩
      have := (hl' .sliceB cap').1
      simp only [Instr.sliceBounds, Sem.run_bind, Sem.run_pure, Result.andThen_ok, Option.isSome_none, Bool.false_eq_true, if_false]
      exact this
    | some x =>
      obtain ⟨y, hy, hr⟩ := hhi x rfl
      rw [hy, atomr hh hr]
      obtain ⟨k, n, rfl, hrun, hle⟩ := run_bound (P := P) (code := if isS then .sliceAcap else .sliceAlen) hh hcap w
      refine ⟨?_, (hl' .sliceB cap').2, hle, Nat.le_refl _, by simp⟩
      have := (hl' .sliceB cap').1
      simp only [Instr.sliceBounds, Sem.run_bind, Sem.run_pure, Result.andThen_ok, Option.isSome_none, Bool.false_eq_true, if_false, hrun]
      exact this
  | some x =>
    obtain ⟨y, hy, hr⟩ := hmx x rfl
    rw [hy, atomr hm hr]
    obtain ⟨k, n, rfl, hrun, hle⟩ := run_bound (P := P) (code := if isS then .slice3Acap else .slice3Alen) hm hcap w
    cases hi with
    | none => simp at hh
    | some x2 =>
      simp only [Option.isSome_some, Option.isNone_some, Bool.and_false, Bool.false_eq_true, if_false, if_true] at hh ⊢
      obtain ⟨y2, hy2, hr2⟩ := hhi x2 rfl
      rw [hy2, atomr hh hr2]
      obtain ⟨k2, n2, rfl, hrun2, hle2⟩ := run_bound (P := P) (code := .slice3B) hh (Nat.le_refl _) w
      refine ⟨?_, (hl' .slice3C m).2, hle2, hle, fun h => by cases h⟩
      have := (hl' .slice3C m).1
      simp only [Instr.sliceBounds, Sem.run_bind, Result.andThen_ok, Option.isSome_some, if_true, hrun, hrun2]
      exact this

/-- An optional operand and its value. -/
def ORl (φ : Rz) (x : Option Value) (y : Option Value) : Prop := (∀ a, x = some a → ∃ b, y = some b ∧ VRel φ a b) ∧ (x = none → y = none)

theorem sound_slice (hH : HRel φ A w) {t : TypeId} {x : Operand} {lo hi mx : Option Operand} (ho : o.op = .slice t x lo hi mx) {xv : Value} {lv hv mv : Option Value} (hx : VRel φ xv (ρ x))
    (hl : ORl φ lv (lo.map ρ)) (hh : ORl φ hv (hi.map ρ)) (hm : ORl φ mv (mx.map ρ)) (h : dSlice P A t xv lv hv mv = some v) : Sound φ A w v A ((execOp ρ o).run P w) := by
  unfold dSlice at h
  split at h
  · rename_i s hu
    split at h
    · cases h
    · rename_i hmn
      simp only [Option.bind_eq_some_iff, Option.map_eq_some_iff] at h
      obtain ⟨h1, hh1, l1, hl1, rfl⟩ := h
      have hmv : mv = none := by cases mv <;> simp_all
      have es : ρ x = .string s := atom_eq rfl hx
      have hb := run_bounds (P := P) (φ := φ) (isS := false) (len := s.data.toList.length) (cap := s.data.toList.length) (cap' := s.data.toList.length) (mx := none) (m := s.data.toList.length) (mx' := none)
        hl.1 hl.2 hh.1 hh.2 (fun x h => by cases h) (fun _ => rfl) (Nat.le_refl _) (Nat.le_refl _) rfl (by simpa using hh1) hl1 w
      refine Sound.keep (v' := .string (s.extract l1 h1)) hH ?_ ?_
      · have hmx : (mx.map ρ).isSome = false := by rw [hm.2 hmv]; rfl
        have hb1 : (Instr.sliceBounds false s.size s.size (lo.map ρ) (hi.map ρ) none).run P w = .ok (l1, h1, s.size) w := hb.1
        simp only [execOp, ho, Instr.sliceAt, Sem.run_bind, run_underlying hu, Result.andThen_ok, es, Instr.slice, hmx, Bool.false_eq_true, if_false, Sem.run_pure, hb1]
      · rw [extract_eq]; exact .str _
  · rename_i e a len cap hu
    simp only [Option.bind_eq_some_iff] at h
    obtain ⟨sz, hsz, m1, hm1, h1, hh1, l1, hl1, h⟩ := h
    simp only [szOf, Option.map_eq_some_iff] at hsz
    obtain ⟨ei, hei, rfl⟩ := hsz
    split at h
    · split at h
      · rename_i hlc
        cases h
        have es : ρ x = .slice none len cap := atom_eq rfl hx
        have hb := run_bounds (P := P) (φ := φ) (isS := true) (len := len) (cap := cap) (cap' := cap) hl.1 hl.2 hh.1 hh.2 hm.1 hm.2 (Nat.le_refl _) hlc hm1 hh1 hl1 w
        have hmm : (if mv.isSome then m1 else cap) = m1 := by
          cases hq : mv.isSome with
          | true => rfl
          | false => simp [hb.2.2.2.2 hq]
        refine Sound.keep (v' := .slice none (h1 - l1) (m1 - l1)) hH ?_ (.nilslice _ _)
        simp only [execOp, ho, Instr.sliceAt, Sem.run_bind, run_underlying hu, Result.andThen_ok, es, Instr.slice, hb.1, hmm, run_sizeOf hei]
        simp
      · cases h
    · rename_i i off ver
      split at h
      · rename_i b hb
        split at h
        · rename_i hcond
          obtain ⟨hver, hop⟩ := hcond
          cases h
          obtain ⟨i', off', ver', l, q, c', heq, hq, hl', hle, hnc, hcc, hat⟩ := slice_inv hx
          cases heq
          obtain ⟨_, hor⟩ := hH.obj i _ _ hl' hb rfl
          obtain ⟨⟨e1, e2, e3, e4, e5⟩, _⟩ := hor
          have hcur : ver = l.ver := by omega
          obtain ⟨hat1, hok1, hok2⟩ := hat hcur
          have hb := run_bounds (P := P) (φ := φ) (isS := true) (len := len) (cap := cap) (cap' := c') hl.1 hl.2 hh.1 hh.2 hm.1 hm.2 hcc hnc hm1 hh1 hl1 w
          obtain ⟨hrun, hb1, hb2, hb3, hb4⟩ := hb
          generalize hM : (if mv.isSome then m1 else c') = M at hrun
          have hmM : m1 ≤ M ∧ M ≤ c' := by
            cases hq : mv.isSome with
            | true => simp [hq] at hM; omega
            | false => simp [hq] at hM; have := hb4 hq; omega
          refine Sound.keep (v' := .slice (some (if M = l1 then q else q.add (l1 * ei.size))) (h1 - l1) (M - l1)) hH ?_ ?_
          · simp only [execOp, ho, Instr.sliceAt, Sem.run_bind, run_underlying hu, Result.andThen_ok, hq, Instr.slice, hrun, run_sizeOf hei]
            by_cases hml : M = l1 <;> simp [hml]
          · refine .slice _ _ _ _ _ _ l _ hl' hle (by omega) (by omega) (fun _ => ⟨fun hne => ?_, ?_, ?_⟩)
            · rw [if_neg (by omega), hat1 (by omega), add_eq]
              simp [Nat.add_assoc]
            · intro hex
              cases hq : mv.isSome with
              | true => simp [hq] at hM; omega
              | false =>
                simp [hq] at hM
                have hmc := hb4 hq
                subst hM; subst hmc
                rcases hex with hex | hex
                · rw [hok1 (.inl hex)]
                · rcases hop with hop | hop
                  · rw [hok1 (.inl (by rw [e3]; exact hop))]
                  · have : off + m1 * l.es < l.size := by
                      have e6 : l.es = ei.size := by rw [e2, hop]
                      rw [e6] at hex ⊢
                      have : l1 * ei.size + (m1 - l1) * ei.size = m1 * ei.size := by rw [← Nat.add_mul]; congr 1; omega
                      omega
                    rw [hok1 (.inr this)]
            · intro hopn
              have h3 := hok2 hopn
              rcases hop with hop | hop
              · rw [e3, hop] at hopn; cases hopn
              · have e6 : l.es = ei.size := by rw [e2, hop]
                rw [e6] at h3 ⊢
                have : l1 * ei.size + (M - l1) * ei.size = M * ei.size := by rw [← Nat.add_mul]; congr 1; omega
                have : M * ei.size ≤ c' * ei.size := Nat.mul_le_mul_right _ hmM.2
                omega
        · cases h
      · cases h
    · cases h
  · cases h

end
end Go.Dx
end

section
/- The data layer: addresses, fields, maps, iterators, parts of tuples are sound. -/
namespace Go.Dx

section
variable {P : Program} {φ : Rz} {A : Hp} {w : World} {ρ : Operand → Value} {o : Oper} {v : Value} {u : Upd}

theorem part_sound {t : TypeId} {cs : List Value} {ds : Array Value} {off : Nat} (hr : Rels φ cs ds.toList) (h : dpart P t cs off = some v) (w : World) : ∃ v', (part t ds off).run P w = .ok v' w ∧ VRel φ v v' := by
  unfold dpart at h
  split at h
  · rename_i d ti hd hi
    split at h
    · rename_i hg
      cases h
      refine ⟨.agg (ds.extract off (off + ti.size)), by simp [part, run_isAggD hd, hg, run_sizeOf hi], Rels.to_agg ?_⟩
      have e : (ds.extract off (off + ti.size)).toList = (ds.toList.drop off).take ti.size := by
        rw [Array.toList_extract, List.extract_eq_take_drop]
        simp
      rw [e]
      exact (hr.drop off).take ti.size
    · rename_i hg
      obtain ⟨y, hy, hxy⟩ := hr.get h
      refine ⟨y, ?_, hxy⟩
      simp at hy
      simp [part, run_isAggD hd, hg, hy]
  · cases h

theorem sound_field (hH : HRel φ A w) {t : TypeId} {x : Operand} {f : Nat} (ho : o.op = .field t x f) {cs : Array Value} (hx : VRel φ (.agg cs) (ρ x)) {fields : Array Field} {fd : Field}
    (hu : P.underlying t = some (.struct fields)) (hf : fields.toList[f]? = some fd) (h : dpart P fd.type cs.toList fd.offset = some v) : Sound φ A w v A ((execOp ρ o).run P w) := by
  obtain ⟨ds, hd, hr⟩ := Rels.of_agg hx
  obtain ⟨v', h1, h2⟩ := part_sound (P := P) hr h w
  refine Sound.keep (v' := v') hH ?_ h2
  have hf' : fields[f]? = some fd := by simpa using hf
  simp [execOp, ho, Instr.field, run_underlying hu, hf', hd, asAgg, h1]

theorem sound_fieldAddr (hH : HRel φ A w) {t : TypeId} {x : Operand} {f : Nat} (ho : o.op = .fieldAddr t x f) {i off ver : Nat} (hx : VRel φ (.pointer (some ⟨i, off, some ver⟩)) (ρ x)) {fields : Array Field} {fd : Field} {n : Nat}
    (hu : P.underlying t = some (.struct fields)) (hf : fields.toList[f]? = some fd) (h : szOf P fd.type = some (n + 1)) :
    Sound φ A w (.pointer (some ⟨i, off + fd.offset, some ver⟩)) A ((execOp ρ o).run P w) := by
  obtain ⟨i', off', ver', l, q, heq, hq, hl, hle, hat⟩ := ptr_inv hx
  cases heq
  simp only [szOf, Option.map_eq_some_iff] at h
  obtain ⟨ti, hi, hsz⟩ := h
  refine Sound.keep (v' := .pointer (some (q.add fd.offset))) hH ?_ (.ptr _ _ _ l _ hl hle (fun e => by rw [hat e, add_eq]; simp [Nat.add_assoc]))
  have hf' : fields[f]? = some fd := by simpa using hf
  simp [execOp, ho, Instr.fieldAt, run_underlying hu, hf', hq, Instr.sureAddr, fieldPlace, run_sizeOf hi, hsz]

theorem sound_indexAddr_slice (hH : HRel φ A w) {t : TypeId} {x ix : Operand} (ho : o.op = .indexAddr t x ix) {i off ver len cap : Nat} (hx : VRel φ (.slice (some ⟨i, off, some ver⟩) len cap) (ρ x)) {k : IntKind} {n : Int}
    (hn : VRel φ (.int k n) (ρ ix)) {e : TypeId} {sz : Nat} (hu : P.underlying t = some (.slice e)) (h0 : 0 ≤ n) (h1 : n < (len : Int)) (h : szOf P e = some sz) :
    Sound φ A w (.pointer (some ⟨i, off + n.toNat * sz, some ver⟩)) A ((execOp ρ o).run P w) := by
  obtain ⟨i', off', ver', l, q, c', heq, hq, hl, hle, hnc, hcc, hat⟩ := slice_inv hx
  cases heq
  simp only [szOf, Option.map_eq_some_iff] at h
  obtain ⟨ti, hi, rfl⟩ := h
  refine Sound.keep (v' := .pointer (some (q.add (n.toNat * ti.size)))) hH ?_ (.ptr _ _ _ l _ hl hle (fun e => by rw [(hat e).1 (by omega), add_eq]; simp [Nat.add_assoc]))
  simp [execOp, ho, Instr.indexAt, run_underlying hu, hq, atom_eq rfl hn, asIntOf, h0, h1, run_sizeOf hi]

theorem sound_indexAddr_array (hH : HRel φ A w) {t : TypeId} {x ix : Operand} (ho : o.op = .indexAddr t x ix) {i off ver len : Nat} (hx : VRel φ (.pointer (some ⟨i, off, some ver⟩)) (ρ x)) {k : IntKind} {n : Int}
    (hn : VRel φ (.int k n) (ρ ix)) {e : TypeId} {sz : Nat} (hu : P.underlying t = some (.array len e)) (h0 : 0 ≤ n) (h1 : n < (len : Int)) (h : szOf P e = some sz) :
    Sound φ A w (.pointer (some ⟨i, off + n.toNat * sz, some ver⟩)) A ((execOp ρ o).run P w) := by
  obtain ⟨i', off', ver', l, q, heq, hq, hl, hle, hat⟩ := ptr_inv hx
  cases heq
  simp only [szOf, Option.map_eq_some_iff] at h
  obtain ⟨ti, hi, rfl⟩ := h
  refine Sound.keep (v' := .pointer (some (q.add (n.toNat * ti.size)))) hH ?_ (.ptr _ _ _ l _ hl hle (fun e => by rw [hat e, add_eq]; simp [Nat.add_assoc]))
  simp [execOp, ho, Instr.indexAt, run_underlying hu, hq, atom_eq rfl hn, asIntOf, h0, h1, run_sizeOf hi, Instr.sureAddr]

theorem sound_index_array (hH : HRel φ A w) {t : TypeId} {x ix : Operand} (ho : o.op = .index t x ix) {cs : Array Value} (hx : VRel φ (.agg cs) (ρ x)) {k : IntKind} {n : Int} {len : Nat}
    (hn : VRel φ (.int k n) (ρ ix)) {e : TypeId} {sz : Nat} (hu : P.underlying t = some (.array len e)) (h0 : 0 ≤ n) (h1 : n < (len : Int)) (hsz : szOf P e = some sz)
    (h : dpart P e cs.toList (n.toNat * sz) = some v) : Sound φ A w v A ((execOp ρ o).run P w) := by
  obtain ⟨ds, hd, hr⟩ := Rels.of_agg hx
  simp only [szOf, Option.map_eq_some_iff] at hsz
  obtain ⟨ti, hi, rfl⟩ := hsz
  obtain ⟨v', r1, r2⟩ := part_sound (P := P) hr h w
  refine Sound.keep (v' := v') hH ?_ r2
  simp [execOp, ho, Instr.index, run_underlying hu, hd, atom_eq rfl hn, asIntOf, h0, h1, run_sizeOf hi, r1]

theorem sound_index_string (hH : HRel φ A w) {t : TypeId} {x ix : Operand} (ho : o.op = .index t x ix) {s : ByteArray} (hx : VRel φ (.string s) (ρ x)) {k : IntKind} {n : Int}
    (hn : VRel φ (.int k n) (ρ ix)) (hu : P.underlying t = some .string) (h0 : 0 ≤ n) {c : UInt8} (h : s.data.toList[n.toNat]? = some c) : Sound φ A w (.int .u8 c.toNat) A ((execOp ρ o).run P w) := by
  refine Sound.keep (v' := .int .u8 c.toNat) hH ?_ (.int _ _)
  have hs : s[n.toNat]? = some c := by
    have hlt : n.toNat < s.data.toList.length := (List.getElem?_eq_some_iff.1 h).1
    have hlt' : n.toNat < s.size := hlt
    rw [getElem?_pos s n.toNat hlt']
    congr 1
    have := (List.getElem?_eq_some_iff.1 h).2
    rw [← this]
    rfl
  simp [execOp, ho, Instr.index, run_underlying hu, atom_eq rfl hx, atom_eq rfl hn, asIntOf, h0, hs]

theorem sound_extract (hH : HRel φ A w) {x : Operand} {n : Nat} (ho : o.op = .extract x n) {vs : Array Value} (hx : VRel φ (.tuple vs) (ρ x)) (h : vs.toList[n]? = some v) : Sound φ A w v A ((execOp ρ o).run P w) := by
  obtain ⟨ds, hd, hr⟩ := Rels.of_tuple hx
  obtain ⟨y, hy, hxy⟩ := hr.get h
  refine Sound.keep (v' := y) hH ?_ hxy
  simp at hy
  simp [execOp, ho, Instr.extract, hd, hy]

theorem sound_range (hH : HRel φ A w) {t : TypeId} {x : Operand} (ho : o.op = .range t x) {s : ByteArray} (hx : VRel φ (.string s) (ρ x)) (hu : P.underlying t = some .string) :
    Sound φ A w (.pointer (some ⟨A.length, 0, some 0⟩)) (A ++ [.iter s 0]) ((execOp ρ o).run P w) := by
  have key := hH.new (o := .iter s 0) (l := ⟨w.heap.size, 0, 0, 0, 0, false, 0, false⟩) (w' := w.alloc (.stringIter s 0)) (ob := .stringIter s 0) rfl rfl rfl rfl rfl ⟨rfl, rfl, by show (w.heap.push _)[_]? = _; simp⟩
  exact ⟨.value (.pointer (some ⟨w.heap.size, 0, none⟩)), _, w.alloc (.stringIter s 0), _, by simp [execOp, ho, Instr.range, run_underlying hu, atom_eq rfl hx], .inl rfl,
    .ptr _ _ _ _ _ (upd_same _ _ _) (Nat.le_refl _) (fun _ => rfl), key.1, key.2⟩

theorem sound_next (hH : HRel φ A w) {x : Operand} (ho : o.op = .next x true) {i : Nat} (hx : VRel φ (.pointer (some ⟨i, 0, some 0⟩)) (ρ x)) {s : ByteArray} {pos : Nat} (hi : A[i]? = some (.iter s pos))
    (h : (if pos < s.size then some (Value.tuple #[.bool true, .int .i64 pos, .int .i32 (Utf8.decode s pos).1], Upd.set i (.iter s (pos + (Utf8.decode s pos).2))) else some (.tuple #[.bool false], .keep)) = some (v, u)) :
    Sound φ A w v (u.on A) ((execOp ρ o).run P w) := by
  obtain ⟨i', off', ver', l, q, heq, hq, hl, hle, hat⟩ := ptr_inv hx
  cases heq
  obtain ⟨hlt, hor⟩ := hH.obj i _ _ hl hi rfl
  obtain ⟨hb0, hv0, hh⟩ := hor
  have hq' : q = ⟨l.blk, 0, none⟩ := by rw [hat (by omega), hb0]
  have hget : ∀ W : World, W = w → (getObj l.blk).run P W = .ok (.stringIter s pos) W := by
    intro W hW; subst hW
    simp [getObj, Sem.run, hh]
  split at h
  · rename_i hpos
    cases h
    have key := hH.set (o' := .iter s (pos + (Utf8.decode s pos).2)) (l' := l) (w' := { w with heap := w.heap.setIfInBounds l.blk (.stringIter s (pos + (Utf8.decode s pos).2)) }) hi rfl hl (by simp)
      (fun b hb hne => by simp [show ¬ l.blk = b by omega]) rfl rfl rfl (.inl rfl) (by simpa using hlt) (.inl rfl)
      ⟨hb0, hv0, by simp [hlt]⟩
    refine ⟨_, .tuple #[.bool true, .int .i64 pos, .int .i32 (Utf8.decode s pos).1], _, _, ?_, .inl rfl, flat_rel (by simp [flat, atom]), key.1, key.2⟩
    simp only [execOp, ho, Instr.next, hq, hq', Sem.run_bind, hget _ rfl, Result.andThen_ok, hpos, if_true]
    simp [setObj, Sem.run, hh, goInt]
  · rename_i hpos
    cases h
    refine Sound.keep (v' := .tuple #[.bool false]) hH ?_ (flat_rel (by simp [flat, atom]))
    simp only [execOp, ho, Instr.next, hq, hq', Sem.run_bind, hget _ rfl, Result.andThen_ok, hpos, if_false]
    simp

end

theorem map_inv {φ : Rz} {i : Nat} {x : Value} (h : VRel φ (.map (some i)) x) : ∃ l, x = .map (some l.blk) ∧ φ i = some l ∧ l.mp = true := by
  cases h with
  | map i l h1 h2 => exact ⟨l, rfl, h1, h2⟩

theorem beq_bytes (a b : ByteArray) : (a == b) = (a.data.toList == b.data.toList) := by
  rw [beq_toListBytes, ByteArray.toList_eq, ByteArray.toList_eq]

theorem find_sound {φ : Rz} {key : ByteArray} : ∀ (es : List (Value × Value)) (ms : List MapEntry) (r : Option Value) (i : Nat), es.length = ms.length →
    (∀ (j : Nat) (k x : Value), es[j]? = some (k, x) → ∃ e : MapEntry, ms[j]? = some e ∧ VRel φ k e.key ∧ VRel φ x e.val) → dFind (.string key) es = some r →
    ∃ r', Instr.findNow .string (.string key) ms i = some r' ∧ (r = none → r' = none) ∧ (∀ x, r = some x → ∃ j y, r' = some (j, y) ∧ VRel φ x y)
  | [], ms, r, i, hl, _, h => by
    cases ms with
    | nil => simp only [dFind] at h; cases h; exact ⟨none, rfl, (fun _ => rfl), (fun x hx => by cases hx)⟩
    | cons _ _ => simp at hl
  | (k, x) :: es, ms, r, i, hl, he, h => by
    cases ms with
    | nil => simp at hl
    | cons e ms =>
      obtain ⟨e', h1, h2, h3⟩ := he 0 k x (by simp)
      simp at h1; subst h1
      simp only [dFind, Option.bind_eq_some_iff] at h
      obtain ⟨b, hb, h⟩ := h
      cases k with
      | string s' =>
        simp only [eqAtom] at hb
        cases hb
        have hk : e.key = .string s' := atom_eq rfl h2
        have hs : Instr.sameNow .string (.string key) e.key = some (key.data.toList == s'.data.toList) := by rw [hk]; simp only [Instr.sameNow, beq_bytes]
        split at h
        · rename_i hb
          cases h
          exact ⟨some (i, e.val), by simp [Instr.findNow, hs, hb], (fun h => by cases h), (fun x hx => by cases hx; exact ⟨i, e.val, rfl, h3⟩)⟩
        · rename_i hb
          obtain ⟨r', q1, q2, q3⟩ := find_sound es ms r (i + 1) (by simpa using hl) (fun j k x hj => by have := he (j + 1) k x (by simpa using hj); simpa using this) h
          exact ⟨r', by simp only [Instr.findNow, hs]; simp only [Bool.not_eq_true] at hb; rw [hb]; exact q1, q2, q3⟩
      | _ => simp [eqAtom] at hb

theorem run_checkKey_string {P : Program} {w : World} {t : TypeId} {s : ByteArray} (h : P.underlying t = some .string) (b : Bool) : ∀ d, (Instr.checkKey b (d + 1) t (.string s)).run P w = .ok () w := by
  intro d
  simp [Instr.checkKey, run_underlying h]

theorem run_findKey_string {P : Program} {w : World} {t : TypeId} {key : ByteArray} {ms : List MapEntry} {r : Option (Nat × Value)} (h : P.underlying t = some .string)
    (hr : Instr.findNow .string (.string key) ms 0 = some r) : (Instr.findKey t (.string key) ms).run P w = .ok r w := by
  simp [Instr.findKey, run_underlying h, hr]

section
variable {P : Program} {φ : Rz} {A : Hp} {w : World} {ρ : Operand → Value} {o : Oper} {v : Value} {u : Upd}

theorem sound_lookup (hH : HRel φ A w) {t : TypeId} {x ix : Operand} {ok : Bool} (ho : o.op = .lookup t x ix ok) {i : Nat} (hx : VRel φ (.map (some i)) (ρ x)) {key : ByteArray} (hk : VRel φ (.string key) (ρ ix))
    {kt et : TypeId} (hu : P.underlying t = some (.map kt et)) (hkt : P.underlying kt = some .string) {es : List (Value × Value)} {rr : Bool} (hm : A[i]? = some (.map es rr)) {z : Value} (hz : zeroOf P et = some z) (hf : flat z = true)
    {r : Option Value} (hr : dFind (.string key) es = some r) : Sound φ A w (if ok then .tuple #[r.getD z, .bool r.isSome] else r.getD z) A ((execOp ρ o).run P w) := by
  obtain ⟨l, hq, h1, h2⟩ := map_inv hx
  obtain ⟨hlt, hor⟩ := hH.obj i _ _ h1 hm rfl
  obtain ⟨_, ms, ck, hh, hsz, hrel⟩ := hor
  simp only [zeroOf, Option.bind_eq_some_iff] at hz
  obtain ⟨zi, hzi, hz⟩ := hz
  obtain ⟨r', q1, q2, q3⟩ := find_sound (φ := φ) es ms.toList r 0 (by simpa using hsz.symm) (by intro j k x hj; obtain ⟨e, a, b, c⟩ := hrel j k x hj; exact ⟨e, by simpa using a, b, c⟩) hr
  have hget : (getObj l.blk).run P w = .ok (.map ms ck) w := by simp [getObj, Sem.run, hh]
  have hfin : ∃ y, ((match r' with | some (_, v) => pure (v, true) | none => do pure (← zeroValue et, false) : Sem (Value × Bool))).run P w = .ok (y, r.isSome) w ∧ VRel φ (r.getD z) y := by
    cases r with
    | none => rw [q2 rfl]; exact ⟨z, by simp [run_zero hzi hz], flat_rel hf⟩
    | some x => obtain ⟨j, y, rfl, hxy⟩ := q3 x rfl; exact ⟨y, rfl, hxy⟩
  obtain ⟨y, hy1, hy2⟩ := hfin
  refine Sound.keep (v' := if ok then .tuple #[y, .bool r.isSome] else y) hH ?_ ?_
  · have hck := run_checkKey_string (P := P) (w := w) (s := key) hkt ms.isEmpty 9999
    have hfk := run_findKey_string (P := P) (w := w) hkt q1
    have hkk : ρ ix = .string key := atom_eq rfl hk
    simp only [execOp, ho, Instr.lookup, Sem.run_bind, run_underlying hu, Result.andThen_ok, hq, hget, Sem.run_pure, hkk, hck, hfk]
    cases r with
    | none => rw [q2 rfl] at hy1 ⊢; simp only [Sem.run_bind, run_zero hzi hz, Result.andThen_ok, Sem.run_pure] at hy1 ⊢; cases hy1; cases ok <;> rfl
    | some x => obtain ⟨j, y', rfl, hxy⟩ := q3 x rfl; simp only [Sem.run_pure] at hy1; cases hy1; cases ok <;> rfl
  · cases ok with
    | false => exact hy2
    | true => exact Rels.to_tuple (Rels.cons hy2 (Rels.cons (.bool _) Rels.nil))

end
end Go.Dx
end

section
/- The data layer: map stores and the built-in functions are sound. -/
namespace Go.Dx

theorem put_sound {φ : Rz} {key : ByteArray} {nv : Value} : ∀ (es : List (Value × Value)) (ms : List MapEntry) (es' : List (Value × Value)) (i : Nat), es.length = ms.length →
    (∀ (j : Nat) (k x : Value), es[j]? = some (k, x) → ∃ e : MapEntry, ms[j]? = some e ∧ VRel φ k e.key ∧ VRel φ x e.val) → dPut (.string key) nv es = some es' →
    (∃ j old e, Instr.findNow .string (.string key) ms i = some (some (i + j, old)) ∧ ms[j]? = some e ∧ e.key = .string key ∧ es' = es.set j (.string key, nv) ∧ j < es.length) ∨
    (Instr.findNow .string (.string key) ms i = some none ∧ es' = es ++ [(.string key, nv)])
  | [], ms, es', i, hl, _, h => by
    cases ms with
    | nil => simp only [dPut] at h; cases h; exact .inr ⟨rfl, rfl⟩
    | cons _ _ => simp at hl
  | (k, x) :: es, ms, es', i, hl, he, h => by
    cases ms with
    | nil => simp at hl
    | cons e ms =>
      obtain ⟨e', h1, h2, h3⟩ := he 0 k x (by simp)
      simp at h1; subst h1
      simp only [dPut, Option.bind_eq_some_iff] at h
      obtain ⟨b, hb, h⟩ := h
      cases k with
      | string s' =>
        simp only [eqAtom] at hb
        cases hb
        have hk : e.key = .string s' := atom_eq rfl h2
        have hs : Instr.sameNow .string (.string key) e.key = some (key.data.toList == s'.data.toList) := by rw [hk]; simp only [Instr.sameNow, beq_bytes]
        split at h
        · rename_i hb
          cases h
          have hkey : key = s' := bytes_eq (by simpa using hb)
          exact .inl ⟨0, e.val, e, by simp [Instr.findNow, hs, hb], by simp, by rw [hk, hkey], by simp, by simp⟩
        · rename_i hb
          simp only [Bool.not_eq_true] at hb
          simp only [Option.map_eq_some_iff] at h
          obtain ⟨es2, h, rfl⟩ := h
          have ih := put_sound (φ := φ) es ms es2 (i + 1) (by simpa using hl) (fun j k x hj => by have := he (j + 1) k x (by simpa using hj); simpa using this) h
          rcases ih with ⟨j, old, e2, q1, q2, q3, q4, q5⟩ | ⟨q1, q2⟩
          · exact .inl ⟨j + 1, old, e2, by simp only [Instr.findNow, hs]; rw [hb]; rw [show i + (j + 1) = i + 1 + j by omega]; exact q1, by simpa using q2, q3, by simp [q4], by simpa using q5⟩
          · exact .inr ⟨by simp only [Instr.findNow, hs]; rw [hb]; exact q1, by simp [q2]⟩
      | _ => simp [eqAtom] at hb

section
variable {P : Program} {φ : Rz} {A : Hp} {w : World} {ρ : Operand → Value} {o : Oper} {v : Value} {u : Upd}

theorem sound_mapUpdate (hH : HRel φ A w) {t : TypeId} {m k x : Operand} (ho : o.op = .mapUpdate t m k x) {i : Nat} (hm : VRel φ (.map (some i)) (ρ m)) {key : ByteArray} (hk : VRel φ (.string key) (ρ k)) {xv : Value}
    (hx : VRel φ xv (ρ x)) {kt et : TypeId} (hu : P.underlying t = some (.map kt et)) (hkt : P.underlying kt = some .string) {es es' : List (Value × Value)} (hA : A[i]? = some (.map es false))
    (h : dPut (.string key) xv es = some es') : Sound φ A w (.tuple #[]) (A.set i (.map es' false)) ((execOp ρ o).run P w) := by
  obtain ⟨l, hq, h1, h2⟩ := map_inv hm
  obtain ⟨hlt, hor⟩ := hH.obj i _ _ h1 hA rfl
  obtain ⟨_, ms, ck, hh, hsz, hrel⟩ := hor
  have hget : (getObj l.blk).run P w = .ok (.map ms ck) w := by simp [getObj, Sem.run, hh]
  have hck := run_checkKey_string (P := P) (w := w) (s := key) hkt false 9999
  have hkk : ρ k = .string key := atom_eq rfl hk
  have hset : ∀ ob : Obj, (setObj l.blk ob).run P w = .ok () { w with heap := w.heap.setIfInBounds l.blk ob } := by
    intro ob; simp [setObj, Sem.run, hh]
  have fin : ∀ (ms' : Array MapEntry) (ck' : Nat), (execOp ρ o).run P w = .ok .skip { w with heap := w.heap.setIfInBounds l.blk (.map ms' ck') } → ms'.size = es'.length →
      (∀ (j : Nat) (k x : Value), es'[j]? = some (k, x) → ∃ e : MapEntry, ms'[j]? = some e ∧ VRel φ k e.key ∧ VRel φ x e.val) → Sound φ A w (.tuple #[]) (A.set i (.map es' false)) ((execOp ρ o).run P w) := by
    intro ms' ck' hrun hs' hr'
    have hupd : upd φ i l = φ := by funext j; unfold upd; split <;> simp_all
    have key := hH.set (o' := .map es' false) (l' := l) (w' := { w with heap := w.heap.setIfInBounds l.blk (.map ms' ck') }) hA rfl h1 (by simp)
      (fun b hb hne => by simp [show ¬ l.blk = b by omega]) rfl rfl rfl (.inl rfl) (by simpa using hlt) (.inl rfl) ⟨h2, ms', ck', by simp [hlt], hs', by rw [hupd]; exact hr'⟩
    exact ⟨.skip, undef, _, _, hrun, .inr ⟨rfl, rfl⟩, rel_undef, key.1, key.2⟩
  rcases put_sound (φ := φ) es ms.toList es' 0 (by simpa using hsz.symm) (by intro j k x hj; obtain ⟨e, a, b, c⟩ := hrel j k x hj; exact ⟨e, by simpa using a, b, c⟩) h with ⟨j, old, e, q1, q2, q3, q4, q5⟩ | ⟨q1, q2⟩
  · have hfk := run_findKey_string (P := P) (w := w) hkt q1
    simp only [Nat.zero_add] at hfk
    have q2' : ms[j]? = some e := by simpa using q2
    refine fin (ms.modify j fun e => { e with key := .string key, val := ρ x }) ck ?_ (by simp [q4, hsz]) ?_
    · have hstay : (Instr.keyThatStays (((ms[j]?).map (·.key)).getD (.string key)) (.string key)).run P w = .ok (.string key) w := by
        rw [q2']
        have hbb : (key == key) = true := by rw [beq_bytes]; simp
        simp [Instr.keyThatStays, q3, Instr.sameBits, hbb]
      simp only [execOp, ho, Instr.mapUpdate, Sem.run_bind, run_underlying hu, Result.andThen_ok, hq, hget, hkk, hck, hfk]
      simp only [hstay, Result.andThen_ok, hset]
      rfl
    · intro j2 k2 x2 hj2
      rw [q4] at hj2
      by_cases hjj : j = j2
      · subst hjj
        simp [q5] at hj2
        obtain ⟨rfl, rfl⟩ := hj2
        exact ⟨{ e with key := .string key, val := ρ x }, by simp [Array.getElem?_modify, q2'], .str _, hx⟩
      · rw [List.getElem?_set] at hj2
        simp [hjj] at hj2
        obtain ⟨e2, a, b, c⟩ := hrel j2 k2 x2 hj2
        exact ⟨e2, by simp [Array.getElem?_modify, hjj, a], b, c⟩
  · have hfk := run_findKey_string (P := P) (w := w) hkt q1
    refine fin (ms.push { key := .string key, val := ρ x, born := ck }) (ck + 1) ?_ (by simp [q2, hsz]) ?_
    · simp only [execOp, ho, Instr.mapUpdate, Sem.run_bind, run_underlying hu, Result.andThen_ok, hq, hget, hkk, hck, hfk]
      simp only [hset, Result.andThen_ok]
      rfl
    · intro j2 k2 x2 hj2
      rw [q2] at hj2
      rcases Nat.lt_trichotomy j2 es.length with hlt2 | hlt2 | hlt2
      · rw [List.getElem?_append_left hlt2] at hj2
        obtain ⟨e2, a, b, c⟩ := hrel j2 k2 x2 hj2
        exact ⟨e2, by rw [Array.getElem?_push, if_neg (by omega)]; exact a, b, c⟩
      · subst hlt2
        simp at hj2
        obtain ⟨rfl, rfl⟩ := hj2
        exact ⟨{ key := .string key, val := ρ x, born := ck }, by rw [Array.getElem?_push, if_pos (by omega)], .str _, hx⟩
      · rw [List.getElem?_eq_none (by simp; omega)] at hj2; cases hj2

/-! The built-in functions. -/

/-- A built-in's run inside the operation. -/
theorem exec_builtin {b : Builtin} {args : Array Operand} {ts : Array TypeId} (ho : o.op = .call { callee := .builtin b, args := args, argTypes := ts }) :
    ∃ cs, execOp ρ o = builtin b ts o.type cs (args.map ρ) := by
  refine ⟨args.map fun | .const _ => true | _ => false, ?_⟩
  simp [execOp, ho, resolve, invoke]
  rfl

theorem sound_of_builtin (hH : HRel φ A w) {b : Builtin} {args : Array Operand} {ts : Array TypeId} (ho : o.op = .call { callee := .builtin b, args := args, argTypes := ts })
    {A' : Hp} (h : ∀ cs, Sound φ A w v A' ((builtin b ts o.type cs (args.map ρ)).run P w)) : Sound φ A w v A' ((execOp ρ o).run P w) := by
  have := hH.dom
  obtain ⟨cs, hcs⟩ := exec_builtin (ρ := ρ) ho
  rw [hcs]; exact h cs

theorem minmax_sound {isMax : Bool} : ∀ (r : List Value) (x v : Value) (r' : List Value) (x' : Value), VRel φ x x' → Rels φ r r' →
    dMinMax (fun a b => if isMax then decide (a > b) else decide (a < b)) x r = some v → ∃ v', (r'.foldlM (if isMax then Builtin.max2 else Builtin.min2) x').run P w = .ok v' w ∧ VRel φ v v'
  | [], x, v, r', x', hx, hr, h => by
    cases r' with
    | nil => simp only [dMinMax] at h; cases h; exact ⟨x', rfl, hx⟩
    | cons _ _ => simp [Rels] at hr
  | y :: r, x, v, r', x', hx, hr, h => by
    obtain ⟨y', ys, rfl, hy, hs⟩ := hr.uncons
    unfold dMinMax at h
    split at h
    · rename_i heq; cases heq
    · rename_i k a k' b r2 heq
      cases heq
      split at h
      · rename_i hk
        subst hk
        rw [atom_eq rfl hx, atom_eq rfl hy]
        have ih := minmax_sound (isMax := isMax) r _ v ys _ (.int k (if (if isMax then decide (b > a) else decide (b < a)) then b else a)) hs h
        obtain ⟨v', h1, h2⟩ := ih
        refine ⟨v', ?_, h2⟩
        rw [List.foldlM_cons, Sem.run_bind]
        cases isMax
        · simp only [Bool.false_eq_true, if_false, Builtin.min2, Sem.run_pure, Result.andThen_ok, decide_eq_true_eq] at h1 ⊢
          exact h1
        · simp only [if_true, Builtin.max2, Sem.run_pure, Result.andThen_ok, decide_eq_true_eq] at h1 ⊢
          exact h1
      · cases h
    · cases h

end
end Go.Dx
end

section
/- The data layer: append, copy, clear, len, cap are sound. -/
namespace Go.Dx

theorem cell_heap {w W : World} (h : W.heap = w.heap) (a : Addr) : W.cell? a = w.cell? a := by simp [World.cell?, h]

section
variable {P : Program} {φ : Rz} {A : Hp} {w : World} {ρ : Operand → Value} {o : Oper} {v : Value} {u : Upd}

/-- The cells of a slice's first elements, in every world of the same heap. -/
theorem first_sound (hH : HRel φ A w) {sz n : Nat} {xa : Option Addr} {xl xc : Nat} {x' : Value} {vs : List Value} (hx : VRel φ (.slice xa xl xc) x') (hn : n ≤ xl) (h : rdFirst A sz n (.slice xa xl xc) = some vs) :
    ∃ ws : List Value, Rels φ vs ws ∧ vs.length = n * sz ∧ vs.all isCell = true ∧ ∀ W : World, W.heap = w.heap → (Builtin.firstCells sz n x').run P W = .ok ws.toArray W := by
  cases xa with
  | none =>
    have : x' = .slice none xl xc := atom_eq rfl hx
    subst this
    simp only [rdFirst] at h
    split at h
    · rename_i h0; cases h; subst h0
      exact ⟨[], Rels.nil, by simp, rfl, fun W _ => by simp [Builtin.firstCells]⟩
    · cases h
  | some a =>
    obtain ⟨i, off, ver, l, q, c', rfl, rfl, hl, hle, hnc, hcc, hat⟩ := slice_inv hx
    simp only [rdFirst] at h
    split at h
    · rename_i h0; cases h; subst h0
      exact ⟨[], Rels.nil, by simp, rfl, fun W _ => by simp [Builtin.firstCells, loadCells, loadCellsFrom]⟩
    · rename_i h0
      obtain ⟨ys, hlen, hrel, hc, _, hcell⟩ := rd_sound (P := P) hH h hl (fun e => (hat e).1 (by omega))
      refine ⟨ys, hrel, hlen, hc, fun W hW => ?_⟩
      have := run_loadCells_list (P := P) W q ys (fun j y hy => by rw [cell_heap hW]; exact hcell j y hy)
      rw [← hrel.1, hlen] at this
      simpa [Builtin.firstCells] using this

/-- append beyond the capacity: a new row. -/
theorem run_append_out {t t' ty e e' : TypeId} {ie : TypeInfo} {z : Value} (hu : P.underlying t = some (.slice e)) (hu' : P.underlying t' = some (.slice e')) (hi : P.info? e = some ie) (hz : ie.zero = some z)
    (hzl : z.cells.size = ie.size) {base : Option Addr} {len cap : Nat} {x : Value} {n : Nat} (hx : (Builtin.lenOf x).run P w = .ok n w) (hneed : cap < len + n) (hb : (len + n) * ie.bytes ≤ 1000000000) (hl : len + n ≤ 1000000000)
    {olds news : List Value} (ho : ∀ W : World, W.heap = w.heap → (Builtin.firstCells ie.size len (.slice base len cap)).run P W = .ok olds.toArray W)
    (hn : ∀ W : World, W.heap = w.heap → (Builtin.firstCells ie.size n x).run P W = .ok news.toArray W) (hol : olds.length = len * ie.size) (hnl : news.length = n * ie.size) :
    ∃ newCap ws w', (Builtin.append_ #[t, t'] ty #[.slice base len cap, x]).run P w = .ok (.slice (some ⟨w.heap.size, 0, none⟩) (len + n) newCap) w' ∧
      w'.heap = w.heap.push (.cells ws e) ∧ w'.tape = w.tape ∧ w'.os = w.os ∧ w'.output = w.output ∧ len + n ≤ newCap ∧ newCap * ie.size ≤ ws.size ∧ ∀ (j : Nat) (y : Value), (olds ++ news)[j]? = some y → ws[j]? = some y := by
  have hn' : ¬ (len + n ≤ cap) := by omega
  have h63 : ¬ (9223372036854775807 < ((len : Int) + (n : Int))) := by omega
  have hfit := growslice_fits (need := len + n) (old := cap) (bytes := ie.bytes) hneed (by omega)
  have h48 : ¬ (281474976710656 < Builtin.nextslicecap (len + n) cap * ie.bytes) := by omega
  refine ⟨grownCap w (len + n) cap e, olds.toArray ++ news.toArray ++ Builtin.zeroCells z.cells (grownCap w (len + n) cap e - (len + n)),
    w.drew.alloc (.cells (olds.toArray ++ news.toArray ++ Builtin.zeroCells z.cells (grownCap w (len + n) cap e - (len + n))) e), ?_, rfl, rfl, rfl, rfl, ?_, ?_, ?_⟩
  · have ho' := ho w.drew rfl
    have hn'' := hn w.drew rfl
    simp [Builtin.append_, run_underlying hu, run_underlying hu', sizeOf, typeInfo, zeroValue, hi, hz, hx, hn', h63, h48, Question.forced, ho', hn'', newRow, grownCap]
    congr 2
    apply Array.ext'
    simp
  · simp only [grownCap, Question.cut]; omega
  · have hle : len + n ≤ grownCap w (len + n) cap e := by simp only [grownCap, Question.cut]; omega
    simp only [Array.size_append, List.size_toArray, hol, hnl, Builtin.zeroCells, Array.size_map, Array.size_range, hzl]
    rw [← Nat.add_mul, ← Nat.add_mul]
    exact Nat.mul_le_mul_right _ (by omega)
  · intro j y hy
    have hj : j < (olds ++ news).length := (List.getElem?_eq_some_iff.1 hy).1
    rw [Array.getElem?_append, if_pos (by simpa using hj), ← Array.getElem?_toList]
    simpa using hy

/-- append within the capacity. -/
theorem run_append_in {t t' ty e e' : TypeId} {ie : TypeInfo} (hu : P.underlying t = some (.slice e)) (hu' : P.underlying t' = some (.slice e')) (hi : P.info? e = some ie)
    {base : Option Addr} {len cap : Nat} {x : Value} {n : Nat} (hx : (Builtin.lenOf x).run P w = .ok n w) (hneed : len + n ≤ cap)
    {news : List Value} (hn : (Builtin.firstCells ie.size n x).run P w = .ok news.toArray w) {w' : World}
    (hs : (match base with | some a => storeCells (a.add (len * ie.size)) news | none => pure () : Sem Unit).run P w = .ok () w') :
    (Builtin.append_ #[t, t'] ty #[.slice base len cap, x]).run P w = .ok (.slice base (len + n) cap) w' := by
  cases base with
  | none =>
    simp only [Sem.run_pure] at hs
    cases hs
    simp [Builtin.append_, run_underlying hu, run_underlying hu', sizeOf, typeInfo, hi, hx, hneed, hn]
  | some a =>
    simp only at hs
    simp [Builtin.append_, run_underlying hu, run_underlying hu', sizeOf, typeInfo, hi, hx, hneed, hn, hs]

theorem lenOf_slice (a : Option Addr) (n c : Nat) : (Builtin.lenOf (.slice a n c)).run P w = .ok n w := rfl

theorem append_sound (hH : HRel φ A w) {t t' ty e e' : TypeId} {ie : TypeInfo} {z : Value} (hu : P.underlying t = some (.slice e)) (hu' : P.underlying t' = some (.slice e')) (hi : P.info? e = some ie) (hz : ie.zero = some z)
    (hzl : z.cells.toList.length = ie.size) {s x s' x' : Value} (hs : VRel φ s s') {xa : Option Addr} {xl xc : Nat} (hxe : x = .slice xa xl xc) (hx : VRel φ x x') {vs : List Value}
    (hv : rdFirst A ie.size xl x = some vs) (h : dAppend A ie.size ie.bytes s vs xl = some (v, u)) :
    ∃ v' w' φ', (Builtin.append_ #[t, t'] ty #[s', x']).run P w = .ok v' w' ∧ VRel φ' v v' ∧ HRel φ' (u.on A) w' ∧ Fr φ A w φ' (u.on A) w' := by
  subst hxe
  have hzs : z.cells.size = ie.size := by simpa using hzl
  obtain ⟨news, hrel, hlen, hcell, hnews⟩ := first_sound (P := P) hH hx (Nat.le_refl _) hv
  have hnl : news.length = xl * ie.size := by rw [← hrel.1, hlen]
  have hx'l : (Builtin.lenOf x').run P w = .ok xl w := by
    cases hx with
    | nilslice => rfl
    | slice => rfl
  have nogrow : ∀ {i off ver len cap : Nat}, s = .slice (some ⟨i, off, some ver⟩) len cap → True := fun _ => trivial
  unfold dAppend at h
  split at h
  · rename_i len cap
    split at h
    · rename_i h0
      obtain ⟨h0a, h0b⟩ := h0
      subst h0a; subst h0b
      have hs' : s' = .slice none 0 0 := atom_eq rfl hs
      subst hs'
      split at h
      · rename_i hx0
        cases h
        subst hx0
        refine ⟨.slice none 0 0, w, φ, ?_, .nilslice _ _, hH, Fr.refl _ _ _⟩
        exact run_append_in (n := 0) hu hu' hi hx'l (by omega) (hnews w rfl) (by simp)
      · rename_i hx0
        split at h
        · rename_i hc
          cases h
          obtain ⟨hc1, hc2, hc3⟩ := hc
          obtain ⟨newCap, ws, w', r1, r2, r3, r4, r5, r6, r7, r8⟩ := run_append_out (P := P) (w := w) (ty := ty) (base := none) (len := 0) (cap := 0) (olds := []) (news := news) hu hu' hi hz hzs hx'l (by omega) (by simpa using hc1) (by omega)
            (fun W _ => by simp [Builtin.firstCells]) hnews (by simp) hnl
          have key := new_cells hH (cs := vs) (ws := ws) (el := e) (opn := true) (es := ie.size) (fun j x hx => by
            obtain ⟨y, hy, hxy⟩ := hrel.get hx
            exact ⟨y, r8 j y (by simpa using hy), hxy⟩) (by
              rw [hlen]
              have : xl * ie.size ≤ newCap * ie.size := Nat.mul_le_mul_right _ (by omega)
              omega) hc3 r2 r3 r4 r5
          refine ⟨_, w', _, by simpa using r1, ?_, key.1, key.2⟩
          refine .slice _ _ _ _ _ _ _ _ (upd_same _ _ _) (Nat.le_refl _) (Nat.le_refl _) (by omega) (fun _ => ⟨fun _ => by simp, ?_, fun _ => by simpa using r7⟩)
          intro hh
          simp only [hlen] at hh
          rcases hh with hh | hh
          · cases hh
          · omega
        · cases h
    · cases h
  · rename_i i off ver len cap
    obtain ⟨i', off', ver', l, q, c', heq, rfl, hl, hle, hnc, hcc, hat⟩ := slice_inv hs
    cases heq
    split at h
    · rename_i hfit
      split at h
      · rename_i h0
        cases h
        subst h0
        refine ⟨.slice (some q) len c', w, φ, ?_, hs, hH, Fr.refl _ _ _⟩
        have hnil : news = [] := by
          apply List.eq_nil_of_length_eq_zero
          rw [hnl]; omega
        exact run_append_in (n := 0) hu hu' hi hx'l (by omega) (hnews w rfl) (by rw [hnil]; rfl)
      · rename_i h0
        simp only [Option.map_eq_some_iff] at h
        obtain ⟨u', hw, he⟩ := h
        cases he
        have hq : ver = l.ver → q.add (len * ie.size) = ⟨l.blk, l.base + (off + len * ie.size), none⟩ := fun e => by
          rw [(hat e).1 (by omega), add_eq]; simp [Nat.add_assoc]
        obtain ⟨w', φ', r1, r2, r3⟩ := wrt_sound (P := P) hH hw hl hq hrel
        refine ⟨.slice (some q) (len + xl) c', w', φ', run_append_in hu hu' hi hx'l (by omega) (hnews w rfl) r1, ?_, r2, r3⟩
        obtain ⟨l1, hl1, hc1⟩ := r3.ext i l hl
        refine .slice _ _ _ _ _ _ l1 _ hl1 ?_ hfit hcc ?_
        · rcases hc1 with rfl | ⟨hc1, _⟩ <;> omega
        · intro e
          rcases hc1 with rfl | ⟨hc1, _⟩
          · exact hat e
          · omega
    · rename_i hfit
      split at h
      · rename_i b hb
        obtain ⟨hblt, hor⟩ := hH.obj i _ _ hl hb rfl
        have hor' := hor
        obtain ⟨⟨e1, e2, e3, e4, e5⟩, arr, el, fr, hh, hsz, hfz, hbd, hcs⟩ := hor
        split at h
        · rename_i hc
          obtain ⟨hv1, hv2, hv3, hv4, hv5⟩ := hc
          have hcur : ver = l.ver := by omega
          obtain ⟨hat1, hok1, hok2⟩ := hat hcur
          -- the old cells
          have hold : rdFirst A ie.size len (.slice (some ⟨i, off, some ver⟩) len cap) = some ((b.cs.drop off).take (len * ie.size)) := by
            simp only [rdFirst]
            split
            · rename_i h0; simp [h0]
            · simp [rd, hb, hv1, hv2]
          obtain ⟨olds, orel, olen, ocell, hor2⟩ := first_sound (P := P) hH hs (Nat.le_refl _) hold
          have hol : olds.length = len * ie.size := by rw [← orel.1, olen]
          have hallc : ((b.cs.drop off).take (len * ie.size) ++ vs).all isCell = true := by rw [List.all_append, ocell, hv5]; rfl
          have hallrel : Rels φ ((b.cs.drop off).take (len * ie.size) ++ vs) (olds ++ news) := orel.append hrel
          have hall : ((b.cs.drop off).take (len * ie.size) ++ vs).length = (len + xl) * ie.size := by rw [List.length_append, olen, hlen, Nat.add_mul]
          split at h
          · rename_i hex
            cases h
            have hcc' : c' = cap := hok1 (by rcases hex with hex | hex
                                             · exact .inl (by rw [e3]; exact hex)
                                             · exact .inr (by rw [e1, e2]; exact hex))
            subst hcc'
            obtain ⟨newCap, ws, w', r1, r2, r3, r4, r5, r6, r7, r8⟩ := run_append_out (P := P) (w := w) (ty := ty) (base := some q) (len := len) (cap := c') (olds := olds) (news := news) hu hu' hi hz hzs hx'l (by omega) hv3 hv4
              hor2 hnews hol hnl
            have key := new_cells hH (cs := (b.cs.drop off).take (len * ie.size) ++ vs) (ws := ws) (el := e) (opn := true) (es := ie.size) (fun j x hx => by
              obtain ⟨y, hy, hxy⟩ := hallrel.get hx
              exact ⟨y, r8 j y hy, hxy⟩) (by
                rw [hall]
                have : (len + xl) * ie.size ≤ newCap * ie.size := Nat.mul_le_mul_right _ r6
                omega) hallc r2 r3 r4 r5
            refine ⟨_, w', _, r1, ?_, key.1, key.2⟩
            refine .slice _ _ _ _ _ _ _ _ (upd_same _ _ _) (Nat.le_refl _) (Nat.le_refl _) r6 (fun _ => ⟨fun _ => by simp, ?_, fun _ => by simpa using r7⟩)
            intro hh
            simp only [hall] at hh
            rcases hh with hh | hh
            · cases hh
            · omega
          · rename_i hnex
            simp only [not_or] at hnex
            split at h
            · rename_i hro
              obtain ⟨hro, hes⟩ := hro
              cases h
              have hopn : l.opn = true := by rw [e3]; simpa using hnex.1
              have hroom := hok2 hopn
              rw [e2, hes] at hroom
              by_cases hin : len + xl ≤ c'
              · -- there was room
                have hq : q = ⟨l.blk, l.base + off, none⟩ := hat1 (by omega)
                have hcapm : (len + xl) * ie.size ≤ c' * ie.size := Nat.mul_le_mul_right _ hin
                have hnews' : news.all isCell = true := by
                  simp only [List.all_eq_true] at hv5 ⊢
                  intro y hy
                  obtain ⟨j, hj⟩ := List.mem_iff_getElem?.1 hy
                  have hj' : j < vs.length := by rw [hrel.1]; exact (List.getElem?_eq_some_iff.1 hj).1
                  have := hrel.2 j vs[j] y (by simp [hj']) hj
                  rw [this.isCell]
                  exact hv5 _ (List.getElem_mem _)
                rw [Nat.add_mul] at hcapm
                obtain ⟨w', arr', g1, g2, g3, g4, g5, g6, g7, g8⟩ := run_storeRow (P := P) (hfz hro) news (l.base + off + len * ie.size) 0 w arr hh (by rw [hnl]; omega) hnews'
                simp only [Nat.add_zero] at g3
                have hsz' : arr'.size = arr.size := by
                  rw [← Array.length_toList, g3, splice_length (by rw [hnl]; simp; omega)]; simp
                have key := hH.set (w' := w') (o' := .cells { cs := (b.cs.drop off).take (len * ie.size) ++ vs, ro := false, opn := true, es := ie.size, ver := b.ver + 1 })
                  (l' := ⟨l.blk, l.base + off, l.csize, (len + xl) * ie.size, ie.size, true, b.ver + 1, false⟩) hb (by simp [AObj.wr, hro]) hl (by omega) (fun k _ hk => g5 k hk) g6 g7 g8 (.inl rfl) (by simp; omega)
                  (.inr ⟨by simp; omega, e5, rfl⟩) (by
                    refine ⟨⟨by simp [hall], rfl, rfl, rfl, rfl⟩, arr', el, fr, g2, by simp; omega, fun _ => hfz hro, by simp only [hall]; rw [Nat.add_mul]; omega, ?_⟩
                    intro j x hx
                    refine ⟨by simp only [List.all_eq_true] at hallc; exact hallc x (List.mem_of_getElem? hx), ?_⟩
                    have hj : j < (len + xl) * ie.size := by rw [← hall]; exact (List.getElem?_eq_some_iff.1 hx).1
                    rw [Nat.add_mul] at hj
                    have hext : Ext φ (upd φ i ⟨l.blk, l.base + off, l.csize, (len + xl) * ie.size, ie.size, true, b.ver + 1, false⟩) := by
                      intro k m hk
                      by_cases hki : k = i
                      · subst hki; rw [hl] at hk; cases hk; exact ⟨_, upd_same _ _ _, .inr ⟨by simp; omega, e5, rfl⟩⟩
                      · exact ⟨m, by rw [upd_ne hki]; exact hk, .inl rfl⟩
                    rw [List.getElem?_append] at hx
                    simp only [← Array.getElem?_toList, g3]
                    rw [splice_get (by rw [hnl]; simp; omega)]
                    split at hx
                    · rename_i hj2
                      rw [olen] at hj2
                      rw [List.getElem?_take, if_pos hj2, List.getElem?_drop] at hx
                      obtain ⟨_, y, hy, hxy⟩ := hcs _ x hx
                      refine ⟨y, ?_, hxy.mono hext⟩
                      rw [if_pos (by omega)]
                      rw [show l.base + off + j = l.base + (off + j) by omega]
                      simpa using hy
                    · rename_i hj2
                      rw [olen] at hj2 hx
                      obtain ⟨y, hy, hxy⟩ := hrel.get hx
                      refine ⟨y, ?_, hxy.mono hext⟩
                      rw [if_neg (by omega), if_pos (by rw [hnl]; omega)]
                      rw [show l.base + off + j - (l.base + off + len * ie.size) = j - len * ie.size by omega]
                      exact hy)
                refine ⟨.slice (some q) (len + xl) c', w', _, run_append_in hu hu' hi hx'l hin (hnews w rfl) (by rw [hq]; simp only [add_eq]; exact g1), ?_, key.1, key.2⟩
                refine .slice _ _ _ _ _ _ _ _ (upd_same _ _ _) (Nat.le_refl _) (Nat.le_refl _) hin (fun _ => ⟨fun _ => by simp [hq], ?_, fun _ => by simp only; omega⟩)
                intro hh
                rcases hh with hh | hh
                · cases hh
                · simp at hh
              · -- there was none
                obtain ⟨newCap, ws, w', r1, r2, r3, r4, r5, r6, r7, r8⟩ := run_append_out (P := P) (w := w) (ty := ty) (base := some q) (len := len) (cap := c') (olds := olds) (news := news) hu hu' hi hz hzs hx'l (by omega) hv3 hv4
                  (by
                    intro W hW
                    have := hor2 W hW
                    exact this) hnews hol hnl
                have hws : (len + xl) * ie.size ≤ ws.size := by
                  have : (len + xl) * ie.size ≤ newCap * ie.size := Nat.mul_le_mul_right _ r6
                  omega
                have hext : Ext φ (upd φ i ⟨w.heap.size, 0, ws.size, (len + xl) * ie.size, ie.size, true, b.ver + 1, false⟩) := by
                  intro k m hk
                  by_cases hki : k = i
                  · subst hki; rw [hl] at hk; cases hk; exact ⟨_, upd_same _ _ _, .inr ⟨by simp; omega, e5, rfl⟩⟩
                  · exact ⟨m, by rw [upd_ne hki]; exact hk, .inl rfl⟩
                have key := hH.set (w' := w') (o' := .cells { cs := (b.cs.drop off).take (len * ie.size) ++ vs, ro := false, opn := true, es := ie.size, ver := b.ver + 1 })
                  (l' := ⟨w.heap.size, 0, ws.size, (len + xl) * ie.size, ie.size, true, b.ver + 1, false⟩) hb (by simp [AObj.wr, hro]) hl (by rw [r2]; simp)
                  (fun k hk _ => by rw [r2, Array.getElem?_push, if_neg (by omega)]) r3 r4 r5 (.inr (Nat.le_refl _)) (by rw [r2]; simp)
                  (.inr ⟨by simp; omega, e5, rfl⟩) (by
                    refine ⟨⟨by simp [hall], rfl, rfl, rfl, rfl⟩, ws, e, (0, 0), by simp [r2], rfl, fun _ => Nat.le_refl _, by simpa [hall] using hws, ?_⟩
                    intro j x hx
                    refine ⟨by simp only [List.all_eq_true] at hallc; exact hallc x (List.mem_of_getElem? hx), ?_⟩
                    obtain ⟨y, hy, hxy⟩ := hallrel.get hx
                    exact ⟨y, by simpa using r8 j y hy, hxy.mono hext⟩)
                refine ⟨_, w', _, r1, ?_, key.1, key.2⟩
                refine .slice _ _ _ _ _ _ _ _ (upd_same _ _ _) (Nat.le_refl _) (Nat.le_refl _) r6 (fun _ => ⟨fun _ => by simp, ?_, fun _ => by simpa using r7⟩)
                intro hh
                rcases hh with hh | hh
                · cases hh
                · simp at hh
            · cases h
        · cases h
      · cases h
  · cases h

end
end Go.Dx
end

