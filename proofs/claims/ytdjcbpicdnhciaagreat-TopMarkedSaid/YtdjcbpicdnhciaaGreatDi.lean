/- The data layer: reading and writing rows of cells is sound. -/
import Derived.Test.YtdjcbpicdnhciaaGreatDe
import Derived.Laws.Cells
import Derived.Laws.StructEq
import Derived.Laws.Concat
set_option linter.unusedVariables false
set_option linter.unusedSimpArgs false

section
namespace Go.Dx

theorem splice_length {cs vs : List Value} {off : Nat} (h : off + vs.length ≤ cs.length) : (splice cs off vs).length = cs.length := by
  simp [splice]; omega

theorem splice_nil (cs : List Value) (off : Nat) : splice cs off [] = cs := by simp [splice]

theorem splice_get {cs vs : List Value} {off : Nat} (h : off + vs.length ≤ cs.length) (i : Nat) :
    (splice cs off vs)[i]? = if i < off then cs[i]? else if i < off + vs.length then vs[i - off]? else cs[i]? := by
  have e2 : min off cs.length = off := by omega
  simp only [splice, List.append_assoc, List.getElem?_append, List.length_take, List.getElem?_take, List.getElem?_drop, e2]
  by_cases h1 : i < off
  · simp [h1]
  · simp only [h1, if_false]
    by_cases h2 : i < off + vs.length
    · rw [if_pos (by omega), if_pos h2]
    · rw [if_neg (by omega), if_neg h2]
      congr 1
      omega

theorem splice_cons {cs vs : List Value} {off : Nat} {v : Value} (h : off + (vs.length + 1) ≤ cs.length) :
    splice (cs.set off v) (off + 1) vs = splice cs off (v :: vs) := by
  apply List.ext_getElem?
  intro i
  rw [splice_get (by simp; omega), splice_get (by simpa using h)]
  simp only [List.length_cons, List.getElem?_set]
  rcases Nat.lt_trichotomy i off with h1 | h1 | h1
  · simp [show i < off + 1 by omega, h1, show ¬ off = i by omega]
  · subst h1
    simp [show i < cs.length by omega]
  · rw [if_neg (by omega), if_neg (show ¬ i < off by omega), if_neg (show ¬ off = i by omega)]
    by_cases h2 : i < off + 1 + vs.length
    · rw [if_pos h2, if_pos (by omega), show i - off = (i - (off + 1)) + 1 by omega]
      simp
    · rw [if_neg h2, if_neg (by omega)]

theorem splice_rels {φ : Rz} {cs ds vs ws : List Value} {off : Nat} (h : Rels φ cs ds) (h' : Rels φ vs ws) : Rels φ (splice cs off vs) (splice ds off ws) := by
  unfold splice
  rw [h'.1]
  exact ((h.take off).append h').append (h.drop _)

theorem cell_at {w : World} {b : Nat} {arr : Array Value} {el : TypeId} {fr : Nat × Nat} (h : w.heap[b]? = some (.cells arr el fr)) (o : Nat) : w.cell? ⟨b, o, none⟩ = arr[o]? := by
  simp [World.cell?, h]

theorem frozen_at {w : World} {b : Nat} {arr : Array Value} {el : TypeId} {fr : Nat × Nat} (h : w.heap[b]? = some (.cells arr el fr)) (hf : fr.2 ≤ fr.1) (o : Nat) : w.frozen? ⟨b, o, none⟩ = false := by
  obtain ⟨lo, hi⟩ := fr
  simp [World.frozen?, h]
  simp at hf
  omega

theorem add_eq (b o n : Nat) : (⟨b, o, none⟩ : Addr).add n = ⟨b, o + n, none⟩ := by
  unfold Addr.add
  split
  · subst_vars; simp
  · rfl

/-- A row of cells is stored. -/
theorem run_storeRow {P : Program} {b : Nat} {el : TypeId} {fr : Nat × Nat} (hf : fr.2 ≤ fr.1) : ∀ (vs : List Value) (o i : Nat) (w : World) (arr : Array Value),
    w.heap[b]? = some (.cells arr el fr) → o + i + vs.length ≤ arr.size → vs.all isCell = true →
    ∃ w' arr', (storeCells ⟨b, o, none⟩ vs i).run P w = .ok () w' ∧ w'.heap[b]? = some (.cells arr' el fr) ∧ arr'.toList = splice arr.toList (o + i) vs ∧ w'.heap.size = w.heap.size ∧
      (∀ k, k ≠ b → w'.heap[k]? = w.heap[k]?) ∧ w'.tape = w.tape ∧ w'.os = w.os ∧ w'.output = w.output
  | [], o, i, w, arr, h, _, _ => ⟨w, arr, rfl, h, by simp [splice], rfl, fun _ _ => rfl, rfl, rfl, rfl⟩
  | v :: vs, o, i, w, arr, h, hs, hc => by
    simp only [List.length_cons] at hs
    simp only [List.all_cons, Bool.and_eq_true] at hc
    have hb : b < w.heap.size := (Array.getElem?_eq_some_iff.1 h).1
    have h1 : v.oneCell' = true := by cases v <;> simp_all [Value.oneCell', isCell]
    have hcell : w.cell? ⟨b, o + i, none⟩ = some arr[o + i] := by rw [cell_at h]; simp [show o + i < arr.size by omega]
    have hfz := frozen_at h hf (o + i)
    have hset : (w.setCell ⟨b, o + i, none⟩ v).heap[b]? = some (.cells (arr.set (o + i) v (by omega)) el fr) := by
      simp [World.setCell, Array.getElem?_modify, h, Array.setIfInBounds, show o + i < arr.size by omega]
    obtain ⟨w', arr', hr, hh, ha, hz, ho, ht, hos, hout⟩ := run_storeRow (P := P) hf vs o (i + 1) (w.setCell ⟨b, o + i, none⟩ v) _ hset (by simp; omega) hc.2
    refine ⟨w', arr', ?_, hh, ?_, ?_, ?_, ht, hos, hout⟩
    · simp only [storeCells, Sem.run_bind, add_eq]
      rw [run_store P w _ v _ h1, hcell]
      simp only [hfz, Bool.false_eq_true, if_false, Result.andThen_ok]
      exact hr
    · rw [ha]
      simp only [Array.toList_set]
      exact splice_cons (by simp; omega)
    · rw [hz]; simp [World.setCell]
    · intro k hk
      rw [ho k hk]
      simp [World.setCell, Array.getElem?_modify, show ¬ b = k by omega]

/-- What is read from data is what is read from memory. -/
theorem rd_sound {P : Program} {φ : Rz} {A : Hp} {w : World} (hH : HRel φ A w) {i off v n : Nat} {cs : List Value} {l : Loc} {q : Addr} (h : rd A ⟨i, off, some v⟩ n = some cs)
    (hl : φ i = some l) (hq : v = l.ver → q = ⟨l.blk, l.base + off, none⟩) :
    ∃ ys : List Value, cs.length = n ∧ Rels φ cs ys ∧ cs.all isCell = true ∧ (loadCells q n).run P w = .ok ys.toArray w ∧ (∀ j y, ys[j]? = some y → w.cell? (q.add j) = some y) := by
  unfold rd at h
  cases ho : A[i]? with
  | none => simp [ho] at h
  | some o =>
    cases o with
    | cells b =>
      simp only [ho] at h
      split at h
      · rename_i hc
        obtain ⟨hv, hn⟩ := hc
        cases h
        obtain ⟨_, hr⟩ := hH.obj i _ _ hl ho rfl
        obtain ⟨⟨_, _, _, hver, _⟩, arr, el, fr, hh, hsz, _, hbd, hcs⟩ := hr
        have hq' := hq (by omega)
        subst hq'
        have hcell : ∀ (j : Nat) (y : Value), ((arr.toList.drop (l.base + off)).take n)[j]? = some y → w.cell? ((⟨l.blk, l.base + off, none⟩ : Addr).add j) = some y := by
          intro j y hy
          rw [List.getElem?_take] at hy
          split at hy
          · rw [add_eq, cell_at hh]
            simpa [List.getElem?_drop] using hy
          · cases hy
        refine ⟨(arr.toList.drop (l.base + off)).take n, by simp; omega, ?_, ?_, ?_, hcell⟩
        · refine ⟨by simp; omega, fun j x y hx hy => ?_⟩
          rw [List.getElem?_take] at hx hy
          split at hx
          · rename_i hj
            simp only [hj, if_true, List.getElem?_drop] at hx hy
            obtain ⟨_, y', h1, h2⟩ := hcs _ x hx
            rw [show l.base + off + j = l.base + (off + j) by omega] at hy
            simp only [Array.getElem?_toList] at hy
            rw [h1] at hy; cases hy
            exact h2
          · cases hx
        · simp only [List.all_eq_true]
          intro x hx
          obtain ⟨j, hj⟩ := List.mem_iff_getElem?.1 (List.mem_of_mem_drop (List.mem_of_mem_take hx))
          exact (hcs j x hj).1
        · have hln : ((arr.toList.drop (l.base + off)).take n).length = n := by simp; omega
          have := run_loadCells_list (P := P) w ⟨l.blk, l.base + off, none⟩ _ hcell
          rwa [hln] at this
      · cases h
    | dead => simp [ho] at h
    | map es ro => simp [ho] at h
    | iter s pos => simp [ho] at h

/-- What is written to data is what is written to memory. -/
theorem wrt_sound {P : Program} {φ : Rz} {A : Hp} {w : World} (hH : HRel φ A w) {i off v : Nat} {vs ws : List Value} {u : Upd} {l : Loc} {q : Addr} (h : wrt A ⟨i, off, some v⟩ vs = some u)
    (hl : φ i = some l) (hq : v = l.ver → q = ⟨l.blk, l.base + off, none⟩) (hr : Rels φ vs ws) :
    ∃ w' φ', (storeCells q ws).run P w = .ok () w' ∧ HRel φ' (u.on A) w' ∧ Fr φ A w φ' (u.on A) w' := by
  unfold wrt at h
  cases ho : A[i]? with
  | none => simp [ho] at h
  | some o =>
    cases o with
    | cells b =>
      simp only [ho] at h
      split at h
      · rename_i hc
        obtain ⟨hro, hv, hn, hcl⟩ := hc
        cases h
        obtain ⟨hlt, hor⟩ := hH.obj i _ _ hl ho rfl
        obtain ⟨⟨e1, e2, e3, hver, e5⟩, arr, el, fr, hh, hsz, hfz, hbd, hcs⟩ := hor
        have hq' := hq (by omega)
        subst hq'
        have hws : ws.all isCell = true := by
          simp only [List.all_eq_true] at hcl ⊢
          intro y hy
          obtain ⟨j, hj⟩ := List.mem_iff_getElem?.1 hy
          have hj' : j < vs.length := by rw [hr.1]; exact (List.getElem?_eq_some_iff.1 hj).1
          have := hr.2 j vs[j] y (by simp [hj']) hj
          rw [this.isCell]
          exact hcl _ (List.getElem_mem _)
        obtain ⟨w', arr', hrun, hh', ha', hz', ho', ht, hos, hout⟩ := run_storeRow (P := P) (hfz hro) ws (l.base + off) 0 w arr hh (by rw [← hr.1]; omega) hws
        simp only [Nat.add_zero] at ha'
        have hsize : arr'.size = arr.size := by
          rw [← Array.length_toList, ha', splice_length (by rw [← hr.1]; simp; omega)]
          simp
        have key := hH.set (w' := w') (o' := .cells { b with cs := splice b.cs off vs }) (l' := l) ho (by simp [AObj.wr, hro]) hl (by omega) (fun k _ hk => ho' k hk) ht hos hout (.inl rfl) (by omega) (.inl rfl)
          (by
            have hupd : upd φ i l = φ := by funext j; unfold upd; split <;> simp_all
            rw [hupd]
            refine ⟨⟨by rw [e1]; simp [splice_length hn], e2, e3, hver, e5⟩, arr', el, fr, hh', by omega, hfz, by rw [splice_length hn]; omega, ?_⟩
            intro j x hx
            have hrel : Rels φ b.cs ((arr.toList.drop l.base).take b.cs.length) := by
              refine ⟨by simp; omega, fun j x y hx hy => ?_⟩
              have hj : j < b.cs.length := (List.getElem?_eq_some_iff.1 hx).1
              obtain ⟨_, y', h1, h2⟩ := hcs j x hx
              simp [hj, List.getElem?_drop] at hy
              rw [h1] at hy; cases hy
              exact h2
            have hrel2 := splice_rels (off := off) hrel hr
            obtain ⟨y, hy, hxy⟩ := hrel2.get hx
            refine ⟨?_, y, ?_, hxy⟩
            · have hx' := List.mem_of_getElem? hx
              unfold splice at hx'
              simp only [List.mem_append] at hx'
              rcases hx' with (hx' | hx') | hx'
              · obtain ⟨k, hk⟩ := List.mem_iff_getElem?.1 (List.mem_of_mem_take hx'); exact (hcs k x hk).1
              · simp only [List.all_eq_true] at hcl; exact hcl x hx'
              · obtain ⟨k, hk⟩ := List.mem_iff_getElem?.1 (List.mem_of_mem_drop hx'); exact (hcs k x hk).1
            · rw [← Array.getElem?_toList, ha']
              have hj : j < b.cs.length := by have := (List.getElem?_eq_some_iff.1 hx).1; rwa [splice_length hn] at this
              have hlw : ws.length = vs.length := hr.1.symm
              rw [splice_get (by simp; omega)] at hy ⊢
              simp only [hlw] at hy ⊢
              by_cases c1 : j < off
              · simp only [c1, show l.base + j < l.base + off by omega, if_true] at hy ⊢
                simpa [hj, List.getElem?_drop] using hy
              · by_cases c2 : j < off + vs.length
                · simp only [c1, c2, show ¬ l.base + j < l.base + off by omega, show l.base + j < l.base + off + vs.length by omega, if_true, if_false] at hy ⊢
                  rw [show l.base + j - (l.base + off) = j - off by omega]
                  exact hy
                · simp only [c1, c2, show ¬ l.base + j < l.base + off by omega, show ¬ l.base + j < l.base + off + vs.length by omega, if_false] at hy ⊢
                  simpa [hj, List.getElem?_drop] using hy)
        exact ⟨w', _, hrun, key.1, key.2⟩
      · cases h
    | dead => simp [ho] at h
    | map es ro => simp [ho] at h
    | iter s pos => simp [ho] at h

end Go.Dx
end

section
/- The data layer: single operations are sound, first half. -/
namespace Go.Dx

/-- The run gives what the data say. -/
def Sound (φ : Rz) (A : Hp) (w : World) (v : Value) (A' : Hp) (r : Result Next) : Prop :=
  ∃ nx v' w' φ', r = .ok nx w' ∧ (nx = .value v' ∨ (nx = .skip ∧ v' = undef)) ∧ VRel φ' v v' ∧ HRel φ' A' w' ∧ Fr φ A w φ' A' w'

theorem Sound.keep {φ : Rz} {A : Hp} {w : World} {v v' : Value} {r : Result Next} (hH : HRel φ A w) (h : r = .ok (.value v') w) (hv : VRel φ v v') : Sound φ A w v A r :=
  ⟨_, v', w, φ, h, .inl rfl, hv, hH, Fr.refl φ A w⟩

theorem run_sizeOf {P : Program} {t : TypeId} {i : TypeInfo} (h : P.info? t = some i) (w : World) : (sizeOf t).run P w = .ok i.size w := by
  simp [sizeOf, typeInfo, h]

theorem run_zero {P : Program} {t : TypeId} {i : TypeInfo} {z : Value} (h : P.info? t = some i) (hz : i.zero = some z) (w : World) : (zeroValue t).run P w = .ok z w := by
  simp [zeroValue, typeInfo, h, hz]

theorem run_isAggD {P : Program} {t : TypeId} {d : TypeDesc} (h : P.underlying t = some d) (w : World) : (isAgg t).run P w = .ok (isAggD d) w := by
  cases d <;> simp [isAgg, run_underlying h, isAggD]

theorem ptr_inv {φ : Rz} {p : Addr} {x : Value} (h : VRel φ (.pointer (some p)) x) :
    ∃ i off v l q, p = ⟨i, off, some v⟩ ∧ x = .pointer (some q) ∧ φ i = some l ∧ v ≤ l.ver ∧ (v = l.ver → q = ⟨l.blk, l.base + off, none⟩) := by
  cases h with
  | ptr i off v l a' h1 h2 h3 => exact ⟨i, off, v, l, a', rfl, rfl, h1, h2, h3⟩

theorem slice_inv {φ : Rz} {p : Addr} {n c : Nat} {x : Value} (h : VRel φ (.slice (some p) n c) x) :
    ∃ i off v l q c', p = ⟨i, off, some v⟩ ∧ x = .slice (some q) n c' ∧ φ i = some l ∧ v ≤ l.ver ∧ n ≤ c ∧ c ≤ c' ∧ (v = l.ver → (c' ≠ 0 → q = ⟨l.blk, l.base + off, none⟩) ∧ l.okCap off c c') := by
  cases h with
  | slice i off v n c c' l a' h1 h2 h3 h4 h5 => exact ⟨i, off, v, l, a', c', rfl, rfl, h1, h2, h3, h4, h5⟩

section
variable {P : Program} {φ : Rz} {A : Hp} {w : World} {ρ : Operand → Value} {o : Oper} {v : Value} {u : Upd}

theorem sound_load (hH : HRel φ A w) {t : TypeId} {a : Operand} (ho : o.op = .load t a) {p : Addr} (ha : VRel φ (.pointer (some p)) (ρ a)) {d : TypeDesc} {ti : TypeInfo}
    (hd : P.underlying t = some d) (hi : P.info? t = some ti)
    (h : (if isAggD d then (rd A p ti.size).map fun cs => (Value.agg ⟨cs⟩, Upd.keep) else (rd A p 1).bind fun cs => cs[0]?.map fun v => (v, Upd.keep)) = some (v, u)) :
    Sound φ A w v (u.on A) ((execOp ρ o).run P w) := by
  obtain ⟨i, off, ver, l, q, rfl, hq, hl, _, hat⟩ := ptr_inv ha
  by_cases hg : isAggD d = true
  · simp only [hg, if_true, Option.map_eq_some_iff] at h
    obtain ⟨cs, hrd, he⟩ := h
    cases he
    obtain ⟨ys, hn, hrel, _, hrun, _⟩ := rd_sound (P := P) hH hrd hl hat
    refine Sound.keep (v' := .agg ys.toArray) hH ?_ (Rels.to_agg (by simpa using hrel))
    simp [execOp, ho, Instr.loadAt, hq, Instr.sureAddr, loadVar, run_isAggD hd, hg, run_sizeOf hi, hrun]
  · simp only [hg, if_false, Option.bind_eq_some_iff, Option.map_eq_some_iff, Bool.false_eq_true] at h
    obtain ⟨cs, hrd, x, hx, he⟩ := h
    cases he
    obtain ⟨ys, hn, hrel, _, _, hcell⟩ := rd_sound (P := P) hH hrd hl hat
    obtain ⟨y, hy, hxy⟩ := hrel.get hx
    refine Sound.keep (v' := y) hH ?_ hxy
    have := hcell 0 y hy
    simp only [Addr.add, if_true] at this
    simp [execOp, ho, Instr.loadAt, hq, Instr.sureAddr, loadVar, run_isAggD hd, hg, this]

theorem sound_store (hH : HRel φ A w) {t : TypeId} {a x : Operand} (ho : o.op = .store t a x) {p : Addr} (ha : VRel φ (.pointer (some p)) (ρ a)) {xv : Value} (hx : VRel φ xv (ρ x)) {ti : TypeInfo}
    (hi : P.info? t = some ti) (hsz : xv.cells.toList.length = ti.size) (h : wrt A p xv.cells.toList = some u) :
    Sound φ A w (.tuple #[]) (u.on A) ((execOp ρ o).run P w) := by
  obtain ⟨i, off, ver, l, q, rfl, hq, hl, _, hat⟩ := ptr_inv ha
  have hcells := hx.cells
  obtain ⟨w', φ', hrun, h1, h2⟩ := wrt_sound (P := P) hH h hl hat hcells
  have hsz' : (ρ x).cells.size = ti.size := by rw [← hsz, hcells.1]; simp
  refine ⟨.skip, undef, w', φ', ?_, .inr ⟨rfl, rfl⟩, rel_undef, h1, h2⟩
  simp [execOp, ho, Instr.storeAt, hq, Instr.sureAddr, storeVar, run_sizeOf hi, hsz', hrun]

theorem new_cells (hH : HRel φ A w) {cs : List Value} {ws : Array Value} {el : TypeId} {opn : Bool} {es : Nat} (hr : ∀ (j : Nat) (x : Value), cs[j]? = some x → ∃ y, ws[j]? = some y ∧ VRel φ x y)
    (hle : cs.length ≤ ws.size) (hc : cs.all isCell = true) {w' : World} (hh : w'.heap = w.heap.push (.cells ws el)) (ht : w'.tape = w.tape) (hos : w'.os = w.os) (hout : w'.output = w.output) :
    HRel (upd φ A.length ⟨w.heap.size, 0, ws.size, cs.length, es, opn, 0, false⟩) (A ++ [.cells { cs := cs, ro := false, opn := opn, es := es, ver := 0 }]) w' ∧
    Fr φ A w (upd φ A.length ⟨w.heap.size, 0, ws.size, cs.length, es, opn, 0, false⟩) (A ++ [.cells { cs := cs, ro := false, opn := opn, es := es, ver := 0 }]) w' := by
  refine hH.new hh ht hos hout rfl ?_
  refine ⟨⟨rfl, rfl, rfl, rfl, rfl⟩, ws, el, (0, 0), by simp [hh], rfl, fun _ => Nat.le_refl _, by simpa using hle, ?_⟩
  intro j x hx
  obtain ⟨y, hy, hxy⟩ := hr j x hx
  simp only [List.all_eq_true] at hc
  exact ⟨hc x (List.mem_of_getElem? hx), y, by simpa using hy, hxy.mono (ext_upd_none (hH.dom _ (Nat.le_refl _)))⟩

theorem sound_alloc (hH : HRel φ A w) {t : TypeId} (ho : o.op = .alloc t) {z : Value} (hz : zeroOf P t = some z) (hf : flat z = true) (hc : z.cells.toList.all isCell = true) :
    Sound φ A w (.pointer (some ⟨A.length, 0, some 0⟩)) (A ++ [.cells { cs := z.cells.toList, ro := false, opn := false, es := 1, ver := 0 }]) ((execOp ρ o).run P w) := by
  simp only [zeroOf, Option.bind_eq_some_iff] at hz
  obtain ⟨ti, hi, hz⟩ := hz
  have hrel := (flat_rel (φ := φ) hf).cells
  have key := new_cells hH (cs := z.cells.toList) (ws := z.cells) (el := t) (opn := false) (es := 1) (fun j x hx => by simpa using hrel.get hx) (by simp) hc (w' := w.alloc (.cells z.cells t)) rfl rfl rfl rfl
  refine ⟨.value (.pointer (some ⟨w.heap.size, 0, none⟩)), _, w.alloc (.cells z.cells t), _, ?_, .inl rfl, ?_, key.1, key.2⟩
  · simp [execOp, ho, Instr.alloc, run_zero hi hz, newVar, newRow]
  · exact .ptr _ _ _ _ _ (by simp; rfl) (Nat.le_refl _) (fun _ => by simp)

theorem sound_box (hH : HRel φ A w) {t : TypeId} {x : Operand} (ho : o.op = .box t x) {xv : Value} (hx : VRel φ xv (ρ x)) (hc : xv.cells.toList.all isCell = true) :
    Sound φ A w (.pointer (some ⟨A.length, 0, some 0⟩)) (A ++ [.cells { cs := xv.cells.toList, ro := false, opn := false, es := 1, ver := 0 }]) ((execOp ρ o).run P w) := by
  have hrel := hx.cells
  have key := new_cells hH (cs := xv.cells.toList) (ws := (ρ x).cells) (el := t) (opn := false) (es := 1) (fun j x hx => by simpa using hrel.get hx) (by have := hrel.1; simp at this ⊢; omega) hc
    (w' := w.alloc (.cells (ρ x).cells t)) rfl rfl rfl rfl
  refine ⟨.value (.pointer (some ⟨w.heap.size, 0, none⟩)), _, w.alloc (.cells (ρ x).cells t), _, ?_, .inl rfl, ?_, key.1, key.2⟩
  · simp [execOp, ho, Instr.box, newVar, newRow]
  · exact .ptr _ _ _ _ _ (by simp; rfl) (Nat.le_refl _) (fun _ => by simp)

end

/-- Filling a row with parts. -/
theorem foldl_set (off : Nat) : ∀ (l : List Value) (j : Nat) (cells : Array Value), off + j + l.length ≤ cells.size →
    ((l.zipIdx j).foldl (fun cs (x : Value × Nat) => cs.setIfInBounds (off + x.2) x.1) cells).toList = splice cells.toList (off + j) l
  | [], j, cells, _ => by simp [splice]
  | v :: l, j, cells, h => by
    simp only [List.length_cons] at h
    simp only [List.zipIdx_cons, List.foldl_cons]
    have hs : (cells.setIfInBounds (off + j) v).size = cells.size := by simp
    rw [foldl_set off l (j + 1) _ (by omega)]
    rw [Array.toList_setIfInBounds, show off + (j + 1) = off + j + 1 by omega]
    exact splice_cons (by simp; omega)

theorem fill_sound {φ : Rz} (place : Nat → Option (Nat × Nat)) : ∀ (ps : List (Nat × Value)) (qs : List (Nat × Value)) (cells : List Value) (dells : Array Value) (out : List Value),
    ps.length = qs.length → (∀ (j : Nat) (x y : Nat × Value), ps[j]? = some x → qs[j]? = some y → x.1 = y.1 ∧ VRel φ x.2 y.2) → Rels φ cells dells.toList →
    dfill place cells ps = some out → ∃ out', Instr.fill place dells qs = some out' ∧ Rels φ out out'.toList
  | [], qs, cells, dells, out, hl, _, hc, h => by
    cases qs with
    | nil => simp only [dfill] at h; cases h; exact ⟨dells, rfl, hc⟩
    | cons _ _ => simp at hl
  | (i, v) :: ps, qs, cells, dells, out, hl, hp, hc, h => by
    cases qs with
    | nil => simp at hl
    | cons y qs =>
      obtain ⟨i', v'⟩ := y
      have h0 := hp 0 (i, v) (i', v') (by simp) (by simp)
      obtain ⟨e, hv⟩ := h0
      simp only at e hv
      subst e
      simp only [dfill] at h
      cases hpl : place i with
      | none => simp [hpl] at h
      | some pl =>
        obtain ⟨off, size⟩ := pl
        simp only [hpl] at h
        split at h
        · rename_i hcond
          have hvc := hv.cells
          have hlen : v'.cells.size = v.cells.toList.length := by rw [hvc.1]; simp
          have hdl : dells.size = cells.length := by rw [hc.1]; simp
          have hf := foldl_set off v'.cells.toList 0 dells (by simp; omega)
          simp only [Nat.add_zero] at hf
          have harr : (v'.cells.zipIdx.foldl (fun cs (x : Value × Nat) => cs.setIfInBounds (off + x.2) x.1) dells).toList = splice dells.toList off v'.cells.toList := by
            rw [← hf, ← Array.foldl_toList]
            simp [Array.toList_zipIdx]
          have hrel : Rels φ (splice cells off v.cells.toList) (v'.cells.zipIdx.foldl (fun cs (x : Value × Nat) => cs.setIfInBounds (off + x.2) x.1) dells).toList := by
            rw [harr]; exact splice_rels hc hvc
          obtain ⟨out', h1, h2⟩ := fill_sound place ps qs _ _ out (by simpa using hl) (fun j x y a b => hp (j + 1) x y (by simpa using a) (by simpa using b)) hrel h
          refine ⟨out', ?_, h2⟩
          simp only [Instr.fill, hpl]
          rw [if_neg (by simp; omega)]
          exact h1
        · cases h

section
variable {P : Program} {φ : Rz} {A : Hp} {w : World} {ρ : Operand → Value} {o : Oper} {v : Value} {u : Upd}

theorem sound_build (hH : HRel φ A w) {t : TypeId} {parts : Array (Nat × Operand)} (ho : o.op = .build t parts) {ps : List (Nat × Value)} (hlen : ps.length = parts.size)
    (hps : ∀ (j : Nat) (x : Nat × Value) (y : Nat × Operand), ps[j]? = some x → parts[j]? = some y → x.1 = y.1 ∧ VRel φ x.2 (ρ y.2)) {cs : List Value} (h : dbuilt P t ps = some cs) :
    Sound φ A w (.agg ⟨cs⟩) A ((execOp ρ o).run P w) := by
  have hqs : ∀ (j : Nat) (x y : Nat × Value), ps[j]? = some x → (parts.map fun (i, x) => (i, ρ x)).toList[j]? = some y → x.1 = y.1 ∧ VRel φ x.2 y.2 := by
    intro j x y hx hy
    simp only [Array.toList_map, List.getElem?_map, Option.map_eq_some_iff, Array.getElem?_toList] at hy
    obtain ⟨z, hz, rfl⟩ := hy
    exact hps j x z hx hz
  have hll : ps.length = (parts.map fun (i, x) => (i, ρ x)).toList.length := by simp [hlen]
  have fin : ∀ out' : Array Value, P.built t (parts.map fun (i, x) => (i, ρ x)).toList = some out' → Rels φ cs out'.toList → Sound φ A w (.agg ⟨cs⟩) A ((execOp ρ o).run P w) := by
    intro out' hb hr
    refine Sound.keep (v' := .agg out') hH ?_ (Rels.to_agg (by simpa using hr))
    have := run_build (P := P) w t (parts.map fun (i, x) => (i, ρ x)) out' hb
    simp [execOp, ho, this]
  unfold dbuilt at h
  split at h
  · rename_i it n e hi hu
    split at h
    · rename_i z ie hz hie
      split at h
      · rename_i hf
        obtain ⟨out', h1, h2⟩ := fill_sound (φ := φ) _ ps _ _ z.cells cs hll hqs (flat_rel hf).cells h
        refine fin out' ?_ h2
        simp only [Program.built, hi, hu, hz, hie]
        exact h1
      · cases h
    · cases h
  · rename_i it fields hi hu
    split at h
    · rename_i z places hz hpl
      split at h
      · rename_i hf
        obtain ⟨out', h1, h2⟩ := fill_sound (φ := φ) _ ps _ _ z.cells cs hll hqs (flat_rel hf).cells h
        refine fin out' ?_ h2
        simp only [Program.built, hi, hu, hz, hpl]
        simpa using h1
      · cases h
    · cases h
  · cases h

end
end Go.Dx
end

section
/- The data layer: single operations are sound, second half. -/
namespace Go.Dx

theorem rep_zero (z : List Value) : rep 0 z = [] := rfl
theorem rep_succ (n : Nat) (z : List Value) : rep (n + 1) z = z ++ rep n z := by simp [rep, List.replicate_succ]

theorem rep_length (n : Nat) (z : List Value) : (rep n z).length = n * z.length := by
  induction n with
  | zero => simp [rep_zero]
  | succ n ih => rw [rep_succ, List.length_append, ih, Nat.add_mul]; omega

theorem rep_range (z : Array Value) : ∀ n, ((Array.range (n * z.size)).map fun i => z[i % z.size]!).toList = rep n z.toList
  | 0 => by simp [rep_zero]
  | n + 1 => by
    rw [rep_succ, ← rep_range z n]
    simp only [Array.toList_map, Array.toList_range]
    rw [show (n + 1) * z.size = z.size + n * z.size by rw [Nat.add_mul]; omega, List.range_add, List.map_append, List.map_map]
    congr 1
    · apply List.ext_getElem?
      intro i
      simp only [List.getElem?_map, Array.getElem?_toList]
      by_cases h : i < z.size
      · simp [h, Nat.mod_eq_of_lt h]
      · simp [h]
    · apply List.map_congr_left
      intro i _
      simp

theorem rep_rels {φ : Rz} {a b : List Value} (h : Rels φ a b) : ∀ n, Rels φ (rep n a) (rep n b)
  | 0 => Rels.nil
  | n + 1 => by rw [rep_succ, rep_succ]; exact h.append (rep_rels h n)

theorem dwrap_eq (k : IntKind) (n : Int) : dwrap k n = k.wrap n := by
  cases k <;> simp only [dwrap]
  · split
    · rename_i h
      simp only [IntKind.wrap, IntKind.signed, IntKind.bits]
      simp
      split <;> omega
    · rfl
  · split
    · rename_i h
      simp only [IntKind.wrap, IntKind.signed, IntKind.bits]
      simp
      omega
    · rfl

section
variable {P : Program} {φ : Rz} {A : Hp} {w : World} {ρ : Operand → Value} {o : Oper} {v : Value} {u : Upd}

theorem sound_buildSlice (hH : HRel φ A w) {t : TypeId} {n : Nat} {parts : Array (Nat × Operand)} (ho : o.op = .buildSlice t n parts) {ps : List (Nat × Value)} (hlen : ps.length = parts.size)
    (hps : ∀ (j : Nat) (x : Nat × Value) (y : Nat × Operand), ps[j]? = some x → parts[j]? = some y → x.1 = y.1 ∧ VRel φ x.2 (ρ y.2)) {e : TypeId} {ie : TypeInfo} {z : Value}
    (hu : P.underlying t = some (.slice e)) (hi : P.info? e = some ie) (hz : ie.zero = some z) (hf : flat z = true) (hzl : z.cells.toList.length = ie.size) (hn : n * ie.size ≤ 16777216)
    {cs : List Value} (h : dfill (fun i => some (i * ie.size, ie.size)) (rep n z.cells.toList) ps = some cs) (hc : cs.all isCell = true) :
    Sound φ A w (.slice (some ⟨A.length, 0, some 0⟩) n n) (A ++ [.cells { cs := cs, ro := false, opn := false, es := ie.size, ver := 0 }]) ((execOp ρ o).run P w) := by
  have hqs : ∀ (j : Nat) (x y : Nat × Value), ps[j]? = some x → (parts.map fun (i, x) => (i, ρ x)).toList[j]? = some y → x.1 = y.1 ∧ VRel φ x.2 y.2 := by
    intro j x y hx hy
    simp only [Array.toList_map, List.getElem?_map, Option.map_eq_some_iff, Array.getElem?_toList] at hy
    obtain ⟨z, hz, rfl⟩ := hy
    exact hps j x z hx hz
  have hll : ps.length = (parts.map fun (i, x) => (i, ρ x)).toList.length := by simp [hlen]
  have hzs : z.cells.size = ie.size := by simpa using hzl
  have hdd : (((Array.range (n * ie.size)).map fun i => z.cells[i % z.cells.size]!)).toList = rep n z.cells.toList := by rw [← hzs]; exact rep_range z.cells n
  obtain ⟨out', h1, h2⟩ := fill_sound (φ := φ) _ ps _ (rep n z.cells.toList) ((Array.range (n * ie.size)).map fun i => z.cells[i % z.cells.size]!) cs hll hqs
    (by rw [hdd]; exact rep_rels (flat_rel hf).cells n) h
  have key := new_cells hH (cs := cs) (ws := out') (el := e) (opn := false) (es := ie.size) (fun j x hx => by simpa using h2.get hx) (by have := h2.1; simp at this; omega) hc
    (w' := w.alloc (.cells out' e)) rfl rfl rfl rfl
  refine ⟨.value (.slice (some ⟨w.heap.size, 0, none⟩) n n), _, w.alloc (.cells out' e), _, ?_, .inl rfl, ?_, key.1, key.2⟩
  · have hn' : ¬ (16777216 < n * ie.size) := by omega
    by_cases h0 : n * ie.size = 0
    · have hem : ((Array.range (n * ie.size)).map fun i => z.cells[i % z.cells.size]!) = #[] := by rw [h0]; simp
      rw [hem] at h1
      simp at h1
      simp [execOp, ho, Instr.buildSlice, run_underlying hu, run_sizeOf hi, h0, newRow, show Array.range 0 = #[] from rfl, h1]
    · simp at h1
      simp [execOp, ho, Instr.buildSlice, run_underlying hu, run_sizeOf hi, hn', h0, run_zero hi hz, newRow, h1]
  · exact .slice _ _ _ _ _ _ _ _ (by simp; rfl) (Nat.le_refl _) (Nat.le_refl _) (Nat.le_refl _) (fun _ => ⟨fun _ => by simp, fun _ => rfl, fun h => by simp at h⟩)

theorem sound_nilCheck (hH : HRel φ A w) {x : Operand} (ho : o.op = .nilCheck x) {xv : Value} (hx : VRel φ xv (ρ x)) (h : dNil xv = some (v, u)) : Sound φ A w v (u.on A) ((execOp ρ o).run P w) := by
  unfold dNil at h
  split at h
  · rename_i a
    cases h
    obtain ⟨i, off, ver, l, q, rfl, hq, h1, h2, h3⟩ := ptr_inv hx
    refine Sound.keep (v' := ρ x) hH ?_ hx
    simp [execOp, ho, hq]
  · rename_i f xs cs
    cases h
    refine Sound.keep (v' := ρ x) hH ?_ hx
    generalize hq : ρ x = y at hx
    cases hx with
    | func f xs ys cs ds h1 h2 h3 h4 => simp [execOp, ho, hq]
  · cases h

theorem sound_move (hH : HRel φ A w) {x : Operand} (ho : o.op = .move x ∨ o.op = .assign x) (hx : VRel φ v (ρ x)) : Sound φ A w v A ((execOp ρ o).run P w) := by
  refine Sound.keep (v' := ρ x) hH ?_ hx
  rcases ho with ho | ho <;> simp [execOp, ho]

theorem sound_pick (hH : HRel φ A w) {c x y : Operand} (ho : o.op = .pick c x y) {b : Bool} (hc : VRel φ (.bool b) (ρ c)) (hx : b = true → VRel φ v (ρ x)) (hy : b = false → VRel φ v (ρ y)) :
    Sound φ A w v A ((execOp ρ o).run P w) := by
  have hcb : ρ c = .bool b := atom_eq rfl hc
  cases b with
  | true => exact Sound.keep (v' := ρ x) hH (by simp [execOp, ho, hcb, asBool]) (hx rfl)
  | false => exact Sound.keep (v' := ρ y) hH (by simp [execOp, ho, hcb, asBool]) (hy rfl)

theorem sound_unOp (hH : HRel φ A w) {op : UnOp} {t : TypeId} {x : Operand} (ho : o.op = .unOp op t x) {xv : Value} (hx : VRel φ xv (ρ x)) (h : dUn op xv = some v) :
    Sound φ A w v A ((execOp ρ o).run P w) := by
  unfold dUn at h
  split at h
  · rename_i b
    cases h
    have e : ρ x = .bool b := atom_eq rfl hx
    exact Sound.keep hH (by simp [execOp, ho, Op.unary, e]) (.bool _)
  · rename_i k n
    cases h
    have e : ρ x = .int k n := atom_eq rfl hx
    exact Sound.keep hH (by simp [execOp, ho, Op.unary, e, Op.intArith, dwrap_eq]) (.int _ _)
  · cases h

theorem sound_convert (hH : HRel φ A w) {s d : TypeId} {x : Operand} (ho : o.op = .convert s d x) {xv : Value} (hx : VRel φ xv (ρ x)) (h : dConv P s d xv = some v) :
    Sound φ A w v A ((execOp ρ o).run P w) := by
  unfold dConv at h
  split at h
  · rename_i k n hs hd
    cases h
    have e : ρ x = .int _ n := atom_eq rfl hx
    exact Sound.keep hH (by simp [execOp, ho, convert, run_underlying hs, run_underlying hd, e, Conv.intToInt, dwrap_eq]) (.int _ _)
  · rename_i b hs hd
    cases h
    have e : ρ x = .string b := atom_eq rfl hx
    exact Sound.keep hH (by simp [execOp, ho, convert, run_underlying hs, run_underlying hd, e]) (.str _)
  · cases h

theorem sound_makeFunc (hH : HRel φ A w) {f : FuncId} {xs cs : Array Operand} (ho : o.op = .makeFunc (.func f) xs cs) {a b : List Value} (ha : Rels φ a (xs.toList.map ρ)) (hb : Rels φ b (cs.toList.map ρ)) :
    Sound φ A w (.func (.func f) ⟨a⟩ ⟨b⟩) A ((execOp ρ o).run P w) := by
  refine Sound.keep (v' := .func (.func f) (xs.map ρ) (cs.map ρ)) hH (by simp [execOp, ho, Instr.makeFunc]) ?_
  refine .func f _ _ _ _ (by have := ha.1; simpa using this) (by have := hb.1; simpa using this) (fun i x y hx hy => ha.2 i x y (by simpa using hx) ?_) (fun i x y hx hy => hb.2 i x y (by simpa using hx) ?_)
  · simpa using hy
  · simpa using hy

theorem sound_makeInterface (hH : HRel φ A w) {t : TypeId} {x : Operand} (ho : o.op = .makeInterface t x) {xv : Value} (hx : VRel φ xv (ρ x)) {d : TypeDesc} (hd : P.underlying t = some d)
    (hn : ∀ ms, d ≠ .interface ms) : Sound φ A w (.iface t xv) A ((execOp ρ o).run P w) := by
  refine Sound.keep (v' := .iface t (ρ x)) hH ?_ (.iface t _ _ hx)
  cases d <;> first | (exact absurd rfl (hn _)) | simp [execOp, ho, Instr.makeInterface, run_underlying hd]

theorem sound_makeMap (hH : HRel φ A w) {t : TypeId} (ho : o.op = .makeMap t none) : Sound φ A w (.map (some A.length)) (A ++ [.map [] false]) ((execOp ρ o).run P w) := by
  have key := hH.new (o := .map [] false) (l := ⟨w.heap.size, 0, 0, 0, 0, false, 0, true⟩) (w' := w.alloc (.map #[] 0)) (ob := .map #[] 0) rfl rfl rfl rfl rfl ⟨rfl, #[], 0, by show (w.heap.push _)[_]? = _; simp, rfl, fun j k x h => by simp at h⟩
  exact ⟨.value (.map (some w.heap.size)), _, w.alloc (.map #[] 0), _, by simp [execOp, ho, Instr.makeMap], .inl rfl, .map _ _ (upd_same _ _ _) rfl, key.1, key.2⟩

theorem sound_makeSlice (hH : HRel φ A w) {t : TypeId} {lo co : Operand} (ho : o.op = .makeSlice t lo co) {kl kc : IntKind} {l c : Int} (hl : VRel φ (.int kl l) (ρ lo)) (hc : VRel φ (.int kc c) (ρ co))
    {e : TypeId} {ie : TypeInfo} {z : Value} (hu : P.underlying t = some (.slice e)) (hi : P.info? e = some ie) (hz : ie.zero = some z) (hf : flat z = true) (hzl : z.cells.toList.length = ie.size)
    (hzc : z.cells.toList.all isCell = true) (h0 : 0 ≤ l) (h1 : l ≤ c) (h2 : c ≤ 1000000000) (h3 : c.toNat * ie.bytes ≤ 1000000000) :
    Sound φ A w (.slice (some ⟨A.length, 0, some 0⟩) l.toNat c.toNat) (A ++ [.cells { cs := rep c.toNat z.cells.toList, ro := false, opn := false, es := ie.size, ver := 0 }]) ((execOp ρ o).run P w) := by
  have hzs : z.cells.size = ie.size := by simpa using hzl
  have hdd : (((Array.range (c.toNat * ie.size)).map fun i => z.cells[i % z.cells.size]!)).toList = rep c.toNat z.cells.toList := by rw [← hzs]; exact rep_range z.cells _
  have hall : (rep c.toNat z.cells.toList).all isCell = true := by
    simp only [List.all_eq_true] at hzc ⊢
    intro x hx
    simp only [rep, List.mem_flatten, List.mem_replicate] at hx
    obtain ⟨l', ⟨_, rfl⟩, hx⟩ := hx
    exact hzc x hx
  have hrel : Rels φ (rep c.toNat z.cells.toList) (rep c.toNat z.cells.toList) := rep_rels (flat_rel hf).cells _
  have key := new_cells hH (cs := rep c.toNat z.cells.toList) (ws := (Array.range (c.toNat * ie.size)).map fun i => z.cells[i % z.cells.size]!) (el := e) (opn := false) (es := ie.size)
    (fun j x hx => by rw [← Array.getElem?_toList, hdd]; exact hrel.get hx) (by rw [← Array.length_toList, hdd]; exact Nat.le_refl _) hall
    (w' := w.alloc (.cells ((Array.range (c.toNat * ie.size)).map fun i => z.cells[i % z.cells.size]!) e)) rfl rfl rfl rfl
  refine ⟨.value (.slice (some ⟨w.heap.size, 0, none⟩) l.toNat c.toNat), _, _, _, ?_, .inl rfl, ?_, key.1, key.2⟩
  · have w1 : IntKind.i64.wrap l = l := by rw [← dwrap_eq]; simp only [dwrap]; rw [if_pos (by omega)]
    have w2 : IntKind.i64.wrap c = c := by rw [← dwrap_eq]; simp only [dwrap]; rw [if_pos (by omega)]
    have c1 : ¬ (c < 0) := by omega
    have c2 : ¬ (l < 0) := by omega
    have c3 : ¬ (c < l) := by omega
    have c4 : ¬ ((281474976710656 : Int) < (ie.bytes : Int) * c) := by
      have : (ie.bytes : Int) * c = ((c.toNat * ie.bytes : Nat) : Int) := by
        rw [Int.natCast_mul, Int.toNat_of_nonneg (by omega), Int.mul_comm]
      rw [this]; omega
    by_cases h0 : c.toNat * ie.size = 0
    · have hem : ((Array.range (c.toNat * ie.size)).map fun i => z.cells[i % z.cells.size]!) = #[] := by rw [h0]; simp
      simp [execOp, ho, Instr.makeSlice, run_underlying hu, atom_eq rfl hl, atom_eq rfl hc, asInt, asIntOf, typeInfo, hi, w1, w2, c1, c2, c3, c4, run_sizeOf hi, h0, newRow, show Array.range 0 = #[] from rfl]
    · simp [execOp, ho, Instr.makeSlice, run_underlying hu, atom_eq rfl hl, atom_eq rfl hc, asInt, asIntOf, typeInfo, hi, w1, w2, c1, c2, c3, c4, run_sizeOf hi, h0, newRow, zeroValue, hz]
  · exact .slice _ _ _ _ _ _ _ _ (by simp; rfl) (Nat.le_refl _) (by omega) (Nat.le_refl _) (fun _ => ⟨fun _ => by simp, fun _ => rfl, fun h => by simp at h⟩)

end
end Go.Dx
end

section
/- The data layer: comparing, reckoning, slicing, addresses are sound. -/
namespace Go.Dx

structure EqOK (P : Program) (t : TypeId) : Prop where
  guard : P.eqGuardType P.depth t = false
  held : P.stoodInHeld t = false

theorem eqFields_sound {P : Program} {φ : Rz} {w : World} (d : Nat) (XS YS : Array Value) : ∀ (fs : List Field) (i : Nat) (xs ys : List Value) (c : Bool),
    (∀ j, xs[j]? = XS[i + j]?) → (∀ j, ys[j]? = YS[i + j]?) → eqFs P i fs xs ys = some c → (Op.eqFields (d + 1) XS YS fs).run P w = .ok c w
  | [], i, xs, ys, c, hx, hy, h => by
    cases xs <;> cases ys <;> simp [eqFs] at h
    subst h
    simp [Op.eqFields]
  | f :: fs, i, xs, ys, c, hx, hy, h => by
    cases xs with
    | nil => simp [eqFs] at h
    | cons x xs =>
      cases ys with
      | nil => simp [eqFs] at h
      | cons y ys =>
        have hx0 : XS[i]? = some x := by have := hx 0; simpa using this.symm
        have hy0 : YS[i]? = some y := by have := hy 0; simpa using this.symm
        have hx' : ∀ j, xs[j]? = XS[(i + 1) + j]? := fun j => by have := hx (j + 1); simpa [show i + (j + 1) = i + 1 + j by omega] using this
        have hy' : ∀ j, ys[j]? = YS[(i + 1) + j]? := fun j => by have := hy (j + 1); simpa [show i + (j + 1) = i + 1 + j by omega] using this
        simp only [eqFs] at h
        split at h
        · cases h
        · rename_i hno
          simp only [not_or, ne_eq, Decidable.not_not] at hno
          obtain ⟨hname, hoff⟩ := hno
          have step : ∀ (dsc : TypeDesc) (b cc : Bool), P.underlying f.type = some dsc → isAggD dsc = false → (Op.equalIn (d + 1) f.type x y).run P w = .ok b w →
              eqFs P (i + 1) fs xs ys = some cc → (Op.eqFields (d + 1) XS YS (f :: fs)).run P w = .ok (b && cc) w := by
            intro dsc b cc hd hag he hcc
            have ih := eqFields_sound (φ := φ) (w := w) d XS YS fs (i + 1) xs ys cc hx' hy' hcc
            have px : (part f.type XS f.offset).run P w = .ok x w := by simp [part, run_isAggD hd, hag, hoff, hx0]
            have py : (part f.type YS f.offset).run P w = .ok y w := by simp [part, run_isAggD hd, hag, hoff, hy0]
            simp only [Op.eqFields, Sem.run_ite, ne_eq, hname, not_false_eq_true, if_true, Sem.run_bind, px, Result.andThen_ok, py, he]
            cases b <;> simp [ih]
          split at h
          · rename_i hd
            split at h
            · rename_i hk
              subst hk
              simp only [Option.map_eq_some_iff] at h
              obtain ⟨cc, hcc, rfl⟩ := h
              exact step _ _ cc hd rfl (run_equalIn_int w d f.type _ _ _ _ hd) hcc
            · cases h
          · rename_i hd
            simp only [Option.map_eq_some_iff] at h
            obtain ⟨cc, hcc, rfl⟩ := h
            refine step _ _ cc hd rfl ?_ hcc
            rw [run_equalIn_string w d f.type _ _ hd, ByteArray.toList_eq, ByteArray.toList_eq]
          · rename_i hd
            simp only [Option.map_eq_some_iff] at h
            obtain ⟨cc, hcc, rfl⟩ := h
            exact step _ _ cc hd rfl (run_equalIn_bool' w d f.type _ _ hd) hcc
          · cases h

theorem eqFs_atoms {P : Program} : ∀ (fs : List Field) (i : Nat) (xs ys : List Value) (c : Bool), eqFs P i fs xs ys = some c → xs.all atom = true ∧ ys.all atom = true
  | [], i, xs, ys, c, h => by cases xs <;> cases ys <;> simp [eqFs] at h <;> simp
  | f :: fs, i, xs, ys, c, h => by
    cases xs with
    | nil => simp [eqFs] at h
    | cons x xs =>
      cases ys with
      | nil => simp [eqFs] at h
      | cons y ys =>
        simp only [eqFs] at h
        split at h
        · cases h
        · split at h
          · split at h
            · simp only [Option.map_eq_some_iff] at h
              obtain ⟨cc, hcc, rfl⟩ := h
              have := eqFs_atoms fs _ xs ys cc hcc
              simp [atom, this]
            · cases h
          · simp only [Option.map_eq_some_iff] at h
            obtain ⟨cc, hcc, rfl⟩ := h
            have := eqFs_atoms fs _ xs ys cc hcc
            simp [atom, this]
          · simp only [Option.map_eq_some_iff] at h
            obtain ⟨cc, hcc, rfl⟩ := h
            have := eqFs_atoms fs _ xs ys cc hcc
            simp [atom, this]
          · cases h

theorem run_equalIn_slice {P : Program} (w : World) (d : Nat) (t e : TypeId) (a b : Option Addr) (n c n' c' : Nat) (h : P.underlying t = some (.slice e)) (hab : a = none ∨ b = none) :
    (Op.equalIn (d + 1) t (.slice a n c) (.slice b n' c')).run P w = .ok (a.isNone && b.isNone) w := by
  rcases hab with rfl | rfl
  · simp [Op.equalIn, run_underlying h]
  · cases a <;> simp [Op.equalIn, run_underlying h]

theorem run_equalIn_ptr {P : Program} (w : World) (d : Nat) (t e : TypeId) (a b : Option Addr) (h : P.underlying t = some (.pointer e)) (hab : a = none ∨ b = none) :
    (Op.equalIn (d + 1) t (.pointer a) (.pointer b)).run P w = .ok (a.isNone && b.isNone) w := by
  rcases hab with rfl | rfl
  · simp [Op.equalIn, run_underlying h]
  · cases a <;> simp [Op.equalIn, run_underlying h]

theorem run_eq_of {P : Program} {w : World} {t : TypeId} {x y : Value} {b : Bool} {op : BinOp} (hop : op = .eql ∨ op = .neq)
    (hs : (∃ a n c b' n' c', x = .slice a n c ∧ y = .slice b' n' c') ∨ (∃ p q, x = .pointer p ∧ y = .pointer q) ∨ (∃ p q, x = .bool p ∧ y = .bool q))
    (h : (Op.equalIn (9999 + 1) t x y).run P w = .ok b w) : (binOp op t x y).run P w = .ok (.bool (if op = .eql then b else !b)) w := by
  have e : Op.equal t x y = Op.equalIn (9999 + 1) t x y := rfl
  rcases hop with rfl | rfl
  · have : binOp .eql t x y = (do pure (.bool (← Op.equal t x y)) : Sem Value) := by
      rcases hs with ⟨a, n, c, b', n', c', rfl, rfl⟩ | ⟨p, q, rfl, rfl⟩ | ⟨p, q, rfl, rfl⟩ <;> rfl
    rw [this, Sem.run_bind, e, h]; rfl
  · have : binOp .neq t x y = (do pure (.bool (!(← Op.equal t x y))) : Sem Value) := by
      rcases hs with ⟨a, n, c, b', n', c', rfl, rfl⟩ | ⟨p, q, rfl, rfl⟩ | ⟨p, q, rfl, rfl⟩ <;> rfl
    rw [this, Sem.run_bind, e, h]; rfl

theorem run_eqGuard_plain {P : Program} {w : World} (op : BinOp) (t : TypeId) (x y : Operand) (a b : Value) (h : ∀ xs, a ≠ .agg xs) (hn : a ≠ .nilIface) : (eqGuard op t x y a b).run P w = .ok () w := by
  unfold eqGuard
  cases op <;> cases a <;> simp_all

section
variable {P : Program} {φ : Rz} {A : Hp} {w : World} {ρ : Operand → Value} {o : Oper} {v : Value} {u : Upd} {E : List TypeId}

theorem dEq_run (hE : ∀ t ∈ E, EqOK P t) {t : TypeId} {x y x' y' : Value} (hx : VRel φ x x') (hy : VRel φ y y') {b : Bool} (h : dEq E P t x y = some b) (X Y : Operand) (op : BinOp) (hop : op = .eql ∨ op = .neq) :
    ((do eqGuard op t X Y x' y'; binOp op t x' y' : Sem Value)).run P w = .ok (.bool (if op = .eql then b else !b)) w := by
  unfold dEq at h
  split at h
  · rename_i hu
    cases h
    rw [atom_eq rfl hx, atom_eq rfl hy]
    simp only [Sem.run_bind, run_eqGuard_plain op t X Y (.bool _) (.bool _) (by simp) (by simp), Result.andThen_ok]
    exact run_eq_of hop (.inr (.inr ⟨_, _, rfl, rfl⟩)) (run_equalIn_bool' w 9999 t _ _ hu)
  · rename_i n c s n' c' hu
    cases h
    rw [atom_eq rfl hx]
    simp only [Sem.run_bind, run_eqGuard_plain op t X Y (.slice _ _ _) y' (by simp) (by simp), Result.andThen_ok]
    cases hy with
    | nilslice => exact run_eq_of hop (.inl ⟨_, _, _, _, _, _, rfl, rfl⟩) (run_equalIn_slice w 9999 t _ _ _ _ _ _ _ hu (.inl rfl))
    | slice => exact run_eq_of hop (.inl ⟨_, _, _, _, _, _, rfl, rfl⟩) (run_equalIn_slice w 9999 t _ _ _ _ _ _ _ hu (.inl rfl))
  · rename_i p n c n' c' hu
    cases h
    rw [atom_eq rfl hy]
    obtain ⟨i, off, ver, l, q, c', rfl, rfl, _⟩ := slice_inv hx
    simp only [Sem.run_bind, run_eqGuard_plain op t X Y (.slice _ _ _) _ (by simp) (by simp), Result.andThen_ok]
    exact run_eq_of hop (.inl ⟨_, _, _, _, _, _, rfl, rfl⟩) (run_equalIn_slice w 9999 t _ _ _ _ _ _ _ hu (.inr rfl))
  · rename_i p hu
    cases h
    rw [atom_eq rfl hx]
    simp only [Sem.run_bind, run_eqGuard_plain op t X Y (.pointer _) y' (by simp) (by simp), Result.andThen_ok]
    cases hy with
    | nilptr => exact run_eq_of hop (.inr (.inl ⟨_, _, rfl, rfl⟩)) (run_equalIn_ptr w 9999 t _ _ _ hu (.inl rfl))
    | ptr => exact run_eq_of hop (.inr (.inl ⟨_, _, rfl, rfl⟩)) (run_equalIn_ptr w 9999 t _ _ _ hu (.inl rfl))
  · rename_i p hu
    cases h
    rw [atom_eq rfl hy]
    obtain ⟨i, off, ver, l, q, rfl, rfl, _⟩ := ptr_inv hx
    simp only [Sem.run_bind, run_eqGuard_plain op t X Y (.pointer _) _ (by simp) (by simp), Result.andThen_ok]
    exact run_eq_of hop (.inr (.inl ⟨_, _, rfl, rfl⟩)) (run_equalIn_ptr w 9999 t _ _ _ hu (.inr rfl))
  · rename_i fs xs ys hu
    split at h
    · rename_i hmem
      obtain ⟨hg, hh⟩ := hE t hmem
      obtain ⟨ha, hb⟩ := eqFs_atoms _ _ _ _ _ h
      have e1 := flat_eq (v := .agg xs) (by simpa [flat] using ha) hx
      have e2 := flat_eq (v := .agg ys) (by simpa [flat] using hb) hy
      subst e1; subst e2
      have hfo : P.fieldsOf t = fs := by simp [Program.fieldsOf, hu]
      have key := eqFields_sound (P := P) (φ := φ) (w := w) 9998 xs ys fs.toList 0 xs.toList ys.toList b (by simp) (by simp) h
      have he : (Op.equalIn 10000 t (.agg xs) (.agg ys)).run P w = .ok b w := by
        rw [run_equalIn_struct w 9999 t xs ys (by rw [hfo]; exact hu) hh, hfo]
        exact key
      simp only [Sem.run_bind, run_eqGuard_agg w op t X Y xs ys hg, Result.andThen_ok]
      rcases hop with rfl | rfl
      · rw [run_eql_struct]; simp [he]
      · rw [run_neq_struct]; simp [he]
    · cases h
  · cases h

theorem sound_binOp (hE : ∀ t ∈ E, EqOK P t) (hH : HRel φ A w) {op : BinOp} {t t' : TypeId} {x y : Operand} (ho : o.op = .binOp op t x y t') {xv yv : Value} (hx : VRel φ xv (ρ x)) (hy : VRel φ yv (ρ y))
    (h : dBin E P op t xv yv = some v) : Sound φ A w v A ((execOp ρ o).run P w) := by
  have hexec : (execOp ρ o).run P w = ((do eqGuard op t x y (ρ x) (ρ y); binOp op t (ρ x) (ρ y) : Sem Value).run P w).andThen fun a w' => .ok (.value a) w' := by
    simp only [execOp, ho, Sem.run_bind]
    generalize Sem.run P (eqGuard op t x y (ρ x) (ρ y)) w = r
    cases r <;> rfl
  rw [hexec]
  unfold dBin at h
  split at h
  · rename_i k a k' b
    have e1 := atom_eq (v := .int k a) rfl hx
    have e2 := atom_eq (v := .int k' b) rfl hy
    rw [e1, e2]
    simp only [Sem.run_bind, run_eqGuard_plain op t x y (.int k a) (.int k' b) (by simp) (by simp), Result.andThen_ok]
    have sh : dShift op k a b = some v → (op = .shl ∨ op = .shr) → Sound φ A w v A ((Sem.run P (Op.shift op k a k' b) w).andThen fun a w' => .ok (.value a) w') := by
      intro h hop
      unfold dShift at h
      split at h
      · cases h
      · rename_i hb
        have hb' : ¬ b < 0 := hb
        split at h <;> first | (cases h; done) | skip
        · cases h; exact Sound.keep hH (by simp [Op.shift, hb']) (.int _ _)
        · cases h; exact Sound.keep hH (by simp [Op.shift, hb']) (.int _ _)
    split at h
    · have := sh h (.inl rfl); simpa [binOp] using this
    · have := sh h (.inr rfl); simpa [binOp] using this
    · rename_i hne1 hne2
      split at h
      · rename_i hk
        subst hk
        unfold dInt at h
        split at h <;> first
          | (cases h; done)
          | (cases h; exact Sound.keep hH (by simp only [binOp]; rw [if_neg (by simp)]; rfl) (.int _ _))
          | (cases h; exact Sound.keep hH (by simp [binOp, Op.intArith, dwrap_eq]) (.int _ _))
          | (cases h; exact Sound.keep hH (by simp [binOp, Op.intCmp]) (.bool _))
          | (split at h
             · cases h
             · rename_i hb; cases h; exact Sound.keep hH (by simp [binOp, Op.intDiv, hb, dwrap_eq]) (.int _ _))
      · cases h
  · rename_i a b
    have e1 := atom_eq (v := .string a) rfl hx
    have e2 := atom_eq (v := .string b) rfl hy
    rw [e1, e2]
    simp only [Sem.run_bind, run_eqGuard_plain op t x y (.string a) (.string b) (by simp) (by simp), Result.andThen_ok]
    unfold dStr at h
    split at h <;> first
      | (cases h; done)
      | (cases h; exact Sound.keep hH (by simp only [binOp, Op.stringOp, ByteArray.toList_eq]; rfl) (.bool _))
      | (split at h
         · rename_i hl
           cases h
           have hsz : ∀ c : ByteArray, c.size = c.data.toList.length := fun c => rfl
           have hm : IntKind.i64.max = 9223372036854775807 := by decide
           have hlt : ¬ (((a.size + b.size : Nat) : Int) > IntKind.i64.max) := by rw [hsz, hsz, hm]; omega
           refine Sound.keep (v' := .string (a ++ b)) hH (by simp only [binOp, Op.stringOp]; rw [if_neg hlt]; rfl) ?_
           have : (⟨⟨a.data.toList ++ b.data.toList⟩⟩ : ByteArray) = a ++ b := by
             apply congrArg (f := id)
             obtain ⟨⟨x⟩⟩ := a; obtain ⟨⟨y⟩⟩ := b
             simpa using (ByteArray.mk_append_mk x y).symm
           rw [this]
           exact .str _
         · cases h)
  · split at h
    · simp only [Option.map_eq_some_iff] at h
      obtain ⟨b, hb, rfl⟩ := h
      rw [dEq_run hE hx hy hb x y .eql (.inl rfl)]
      exact Sound.keep hH (by simp) (.bool _)
    · simp only [Option.map_eq_some_iff] at h
      obtain ⟨b, hb, rfl⟩ := h
      rw [dEq_run hE hx hy hb x y .neq (.inr rfl)]
      exact Sound.keep hH (by simp) (.bool _)
    · cases h

end
end Go.Dx
end

