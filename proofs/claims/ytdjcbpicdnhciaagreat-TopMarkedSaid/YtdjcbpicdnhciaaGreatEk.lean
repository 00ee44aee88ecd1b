/- The data layer: what a law is handed, as data. -/
import Derived.Test.YtdjcbpicdnhciaaGreatEj
import Derived.WalkKit
import Derived.ProofKit
import Derived.OpenShut
import Derived.HandedShaped
set_option linter.unusedVariables false
set_option linter.unusedSimpArgs false
open Go.RowKit
namespace Go.Dx

theorem map_choose {α β : Type} {f : β → α} {ok : β → Prop} : ∀ {rows : List α}, (∀ r ∈ rows, ∃ t, r = f t ∧ ok t) → ∃ ts : List β, rows = ts.map f ∧ ∀ t ∈ ts, ok t
  | [], _ => ⟨[], rfl, by simp⟩
  | r :: rows, h => by
    obtain ⟨t, rfl, ht⟩ := h r (by simp)
    obtain ⟨ts, rfl, hts⟩ := map_choose (rows := rows) (f := f) (ok := ok) (fun r hr => h r (List.mem_cons_of_mem _ hr))
    exact ⟨t :: ts, rfl, by
      intro u hu
      rcases List.mem_cons.1 hu with rfl | hu
      · exact ht
      · exact hts u hu⟩

section
variable {H : Type} {enc : TypeId × Value → H} {P : Program} {W : World}

theorem cells_get {a : Addr} {n : Nat} {row : List Value} (h : W.cells? 0 a n = some row) : row.length = n ∧ ∀ j (hj : j < row.length), W.cell? (a.add j) = some row[j] := by
  unfold World.cells? at h
  rw [if_pos (Nat.zero_le _)] at h
  have hl := mapM_some_length h
  simp at hl
  refine ⟨hl, fun j hj => ?_⟩
  have := mapM_some_get h j j (by rw [List.getElem?_range]; omega)
  rw [this]; exact List.getElem?_eq_getElem hj

theorem wcell_at {b off : Nat} {v : Value} (h : W.cell? ⟨b, off, none⟩ = some v) : ∃ arr el fr, W.heap[b]? = some (.cells arr el fr) ∧ arr[off]? = some v := by
  unfold World.cell? at h
  split at h
  · rename_i arr el fr hb
    exact ⟨arr, el, fr, hb, by simpa using h⟩
  · cases h

theorem cell_spot {a : Addr} {v : Value} (h : W.cell? a = some v) : a = ⟨a.block, a.off, none⟩ := by
  obtain ⟨b, off, sp⟩ := a
  cases sp with
  | none => rfl
  | some s =>
    unfold World.cell? at h
    split at h
    · simp at h
    · cases h

theorem add_none (b off n : Nat) : Addr.add ⟨b, off, none⟩ n = ⟨b, off + n, none⟩ := by
  unfold Addr.add
  split
  · rename_i h; subst h; rfl
  · rfl

/-- A slice that came in. -/
theorem open_sl {t e : TypeId} {sz : Nat} (hu : P.underlying t = some (.slice e)) (hc : P.cellsOf e = sz) (hs0 : 0 < sz) {v : Value} {d : DataW H} {ps : List MemPlace} (hv : ∃ a len cap, v = .slice a len cap)
    (h : DataW.Trod enc P W 0 (fun _ => true) true t v d ps) (hg : ∃ arr el fr, W.heap[0]? = some (.cells arr el fr)) :
    v = .slice none 0 0 ∨ ∃ (a : Addr) (len cap : Nat) (rows : List (List Value)) (l : Loc), v = .slice (some a) len cap ∧ len ≤ cap ∧ rows.length = len ∧
      (∀ r ∈ rows, r.length = sz ∧ ∃ fuel x, DataW.trod enc P W 0 (fun _ => true) true fuel e r = some x) ∧
      l.size = len * sz ∧ l.es = sz ∧ l.opn = false ∧ l.ver = 0 ∧ l.mp = false ∧ (cap ≠ 0 → a = ⟨l.blk, l.base, none⟩) ∧ l.blk < W.heap.size ∧
      ∃ arr el fr, W.heap[l.blk]? = some (.cells arr el fr) ∧ arr.size = l.csize ∧ l.base + len * sz ≤ arr.size ∧ ∀ (k : Nat) (x : Value), rows.flatten[k]? = some x → arr[l.base + k]? = some x := by
  obtain ⟨a0, len, cap, rfl⟩ := hv
  obtain ⟨fuel, hf⟩ := h
  have hcs : (Value.slice a0 len cap).cells.toList = [.slice a0 len cap] := rfl
  rw [hcs] at hf
  rcases DataW.trod_slice hu hf with ⟨h0, _⟩ | ⟨a, len', cap', elems, rest, n, _, h1, _, _, hl, _, hel, hget, hsp, _⟩
  · left; simpa using h0
  · right
    simp only [List.cons.injEq, Value.slice.injEq, and_true] at h1
    obtain ⟨rfl, rfl, rfl⟩ := h1
    obtain ⟨hrl, hrest⟩ := hsp rfl
    have hrow : ∀ i, i < len → ∃ row, W.cells? 0 (a.add (i * sz)) sz = some row ∧ ∃ x, DataW.trod enc P W 0 (fun _ => true) true n e row = some x := by
      intro i hi
      have := hget i hi
      rw [hc, List.getElem?_eq_getElem (by omega)] at this
      obtain ⟨row, h2, h3⟩ := Option.bind_eq_some_iff.1 this
      exact ⟨row, h2, _, h3⟩
    by_cases hcap : cap = 0
    · -- no room
      obtain ⟨arr, el, fr, hg⟩ := hg
      have hl0 : len = 0 := by omega
      subst hl0; subst hcap
      refine ⟨a, 0, 0, [], ⟨0, 0, arr.size, 0, sz, false, 0, false⟩, rfl, Nat.le_refl _, rfl, by simp, by simp, rfl, rfl, rfl, rfl, fun h => absurd rfl h, (Array.getElem?_eq_some_iff.1 hg).1, arr, el, fr, hg, rfl, by simp, fun k x h => by simp at h⟩
    · -- the first cell
      have hfirst : ∃ v, W.cell? a = some v := by
        by_cases hl0 : 0 < len
        · obtain ⟨row, h2, _⟩ := hrow 0 hl0
          obtain ⟨h3, h4⟩ := cells_get h2
          have := h4 0 (by omega)
          rw [Nat.zero_mul] at this
          exact ⟨_, this⟩
        · have := hrest 0 (by omega)
          rw [hc, List.getElem?_eq_getElem (by omega)] at this
          obtain ⟨row, h2, h3⟩ := Option.bind_eq_some_iff.1 this
          obtain ⟨h4, h5⟩ := cells_get h2
          have := h5 0 (by omega)
          rw [show len + 0 = 0 by omega, Nat.zero_mul] at this
          exact ⟨_, this⟩
      obtain ⟨v0, hv0⟩ := hfirst
      have ha := cell_spot hv0
      obtain ⟨b, off, sp⟩ := a
      simp only [Addr.mk.injEq, true_and] at ha
      subst ha
      obtain ⟨arr, el, fr, hb, harr⟩ := wcell_at hv0
      have hsz : off < arr.size := by simpa using (Array.getElem?_eq_some_iff.1 harr).1
      have hcell : ∀ i, i < len → ∀ row, W.cells? 0 (Addr.add ⟨b, off, none⟩ (i * sz)) sz = some row → ∀ j (hj : j < row.length), arr[off + i * sz + j]? = some row[j] := by
        intro i hi row h2 j hj
        have := (cells_get h2).2 j hj
        rw [add_none, add_none] at this
        obtain ⟨arr2, el2, fr2, hb2, harr2⟩ := wcell_at this
        rw [hb] at hb2
        cases hb2
        exact harr2
      let rows : List (List Value) := (List.range len).map fun i => (W.cells? 0 (Addr.add ⟨b, off, none⟩ (i * sz)) sz).getD []
      have hrl2 : rows.length = len := by simp [rows]
      have hrg : ∀ i (hi : i < len), W.cells? 0 (Addr.add ⟨b, off, none⟩ (i * sz)) sz = some (rows[i]'(by omega)) := by
        intro i hi
        obtain ⟨row, h2, _⟩ := hrow i hi
        simp [rows, h2]
      have hlen : ∀ r ∈ rows, r.length = sz := by
        intro r hr
        obtain ⟨i, hi, rfl⟩ := List.mem_iff_getElem.1 hr
        exact (cells_get (hrg i (by omega))).1
      have hflat : ∀ (k : Nat) (x : Value), rows.flatten[k]? = some x → arr[off + k]? = some x := by
        intro k x hk
        have hkl : k < rows.length * sz := by
          have := (List.getElem?_eq_some_iff.1 hk).1
          rw [flatten_len hlen] at this; exact this
        have hi : k / sz < len := by rw [← hrl2]; exact Nat.div_lt_of_lt_mul (by rw [Nat.mul_comm]; exact hkl)
        have hj : k % sz < sz := Nat.mod_lt _ hs0
        have hri : rows[k / sz]? = some (rows[k / sz]'(by omega)) := by simp [hrl2, hi]
        have hrow2 := flatten_row hlen hri
        have hx2 : (rows[k / sz]'(by omega))[k % sz]? = some x := by
          rw [← hrow2, List.getElem?_take, if_pos hj, List.getElem?_drop, ← hk]
          congr 1
          have := Nat.div_add_mod k sz
          rw [Nat.mul_comm] at this; exact this
        obtain ⟨hj2, hx3⟩ := List.getElem?_eq_some_iff.1 hx2
        have := hcell (k / sz) hi _ (hrg _ hi) (k % sz) hj2
        rw [hx3] at this
        rw [← this]
        congr 1
        have := Nat.div_add_mod k sz
        rw [Nat.mul_comm] at this; omega
      have hroom : off + len * sz ≤ arr.size := by
        rcases Nat.eq_zero_or_pos len with h0 | h0
        · subst h0; omega
        · have hpos : 0 < len * sz := Nat.mul_pos h0 hs0
          have : (rows.flatten)[len * sz - 1]? = some ((rows.flatten)[len * sz - 1]'(by rw [flatten_len hlen, hrl2]; omega)) := List.getElem?_eq_getElem _
          have := (Array.getElem?_eq_some_iff.1 (hflat _ _ this)).1
          omega
      refine ⟨⟨b, off, none⟩, len, cap, rows, ⟨b, off, arr.size, len * sz, sz, false, 0, false⟩, rfl, hl, hrl2, ?_, rfl, rfl, rfl, rfl, rfl, fun _ => rfl, (Array.getElem?_eq_some_iff.1 hb).1, arr, el, fr, hb, rfl, hroom, hflat⟩
      intro r hr
      refine ⟨hlen r hr, ?_⟩
      obtain ⟨i, hi, rfl⟩ := List.mem_iff_getElem.1 hr
      obtain ⟨row, h2, x, h3⟩ := hrow i (by omega)
      have := hrg i (by omega)
      rw [h2] at this
      cases this
      exact ⟨n, x, h3⟩

/-- What a flat slice that came in is, as data: the value, its object, and where it lies. -/
structure ArgS (P : Program) (W : World) (v : Value) (sz i : Nat) (rows : List (List Value)) (a : Option Addr) (cap : Nat) (o : AObj) (lo : Option Loc) : Prop where
  le : rows.length ≤ cap
  ro : o.wr = false
  val : ∀ φ : Rz, φ i = lo → VRel φ (.slice a rows.length cap) v
  obj : ∀ (φ : Rz) (l : Loc), lo = some l → o.alive = true → l.blk < W.heap.size ∧ ORel φ W l o
  sl : ∀ A : Hp, A[i]? = some o → Sl A a sz rows ∧ ∀ p, a = some p → ∃ i off ver b, p = ⟨i, off, some ver⟩ ∧ A[i]? = some (.cells b) ∧ b.ver = ver ∧ b.es = sz

theorem arg_sl {t e : TypeId} {sz : Nat} (i : Nat) (hu : P.underlying t = some (.slice e)) (hc : P.cellsOf e = sz) (hs0 : 0 < sz) {v : Value} {d : DataW H} {ps : List MemPlace} (hv : ∃ a len cap, v = .slice a len cap)
    (h : DataW.Trod enc P W 0 (fun _ => true) true t v d ps) (hg : ∃ arr el fr, W.heap[0]? = some (.cells arr el fr))
    (hflat : ∀ r, r.length = sz → (∃ fuel x, DataW.trod enc P W 0 (fun _ => true) true fuel e r = some x) → ∀ x ∈ r, flat x = true ∧ isCell x = true) :
    ∃ rows a cap o lo, ArgS P W v sz i rows a cap o lo ∧ ∀ r ∈ rows, r.length = sz ∧ ∃ fuel x, DataW.trod enc P W 0 (fun _ => true) true fuel e r = some x := by
  rcases open_sl hu hc hs0 hv h hg with rfl | ⟨a, len, cap, rows, l, rfl, hlc, hrl, hrows, e1, e2, e3, e4, e5, ha, hb, arr, el, fr, hh, hcs, hroom, hcell⟩
  · exact ⟨[], none, 0, .dead, none, ⟨Nat.le_refl _, rfl, fun φ _ => .nilslice 0 0, fun φ l h => (by cases h), fun A hA => ⟨.inl rfl, fun p hp => (by cases hp)⟩⟩, by simp⟩
  · subst hrl
    have hfl := flatten_len (fun r hr => (hrows r hr).1)
    refine ⟨rows, some ⟨i, 0, some 0⟩, cap, .cells ⟨rows.flatten, true, false, sz, 0⟩, some l, ⟨hlc, rfl, ?_, ?_, ?_⟩, hrows⟩
    · intro φ hφ
      refine .slice i 0 0 _ _ _ l a hφ (by omega) hlc (Nat.le_refl _) (fun _ => ⟨fun hc => by rw [ha hc]; rfl, fun _ => rfl, fun ho => by rw [e3] at ho; cases ho⟩)
    · intro φ l' hl' _
      cases hl'
      refine ⟨hb, ⟨by rw [e1, hfl], e2, e3, e4, e5⟩, arr, el, fr, hh, hcs, fun h => (by cases h), by show l.base + rows.flatten.length ≤ arr.size; rw [hfl]; exact hroom, ?_⟩
      intro j x hx
      have hmem := List.mem_of_getElem? hx
      obtain ⟨r, hr, hxr⟩ := List.mem_flatten.1 hmem
      obtain ⟨g1, g2⟩ := hflat r (hrows r hr).1 (hrows r hr).2 x hxr
      exact ⟨g2, x, hcell j x hx, flat_rel g1⟩
    · intro A hA
      exact ⟨sl_of_at hA rfl (fun r hr => (hrows r hr).1) rfl, fun p hp => by cases hp; exact ⟨i, 0, 0, _, rfl, hA, rfl, rfl⟩⟩

end

/-- Behind a call that leaves all data as they are, all that was there is as it was. -/
theorem below_of {φ φ' : Rz} {A A' : Hp} {W W' : World} (h : Fr φ A W φ' A' W') (hA : ∀ (i : Nat) (o : AObj), A[i]? = some o → o.wr = false) : Below W.heap.size W W' :=
  ⟨h.os, h.tape, h.output, h.size, fun k hk => h.keep k hk fun i o _ ho hw => by rw [hA i o ho] at hw; cases hw⟩

end Go.Dx
