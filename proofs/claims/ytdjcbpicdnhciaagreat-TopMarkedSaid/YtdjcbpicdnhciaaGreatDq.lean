/- The data layer: every single operation is sound. -/
import Derived.Test.YtdjcbpicdnhciaaGreatDm
import Derived.Test.YtdjcbpicdnhciaaGreatDe
import Derived.Orders
set_option linter.unusedVariables false
set_option linter.unusedSimpArgs false

section
namespace Go.Dx

section
variable {P : Program} {φ : Rz} {A : Hp} {w : World} {ρ : Operand → Value} {o : Oper} {v : Value} {u : Upd}

theorem Sound.of {A' : Hp} {s : Sem Value} (h : ∃ v' w' φ', s.run P w = .ok v' w' ∧ VRel φ' v v' ∧ HRel φ' A' w' ∧ Fr φ A w φ' A' w') :
    Sound φ A w v A' ((do pure (.value (← s)) : Sem Next).run P w) := by
  obtain ⟨v', w', φ', h1, h2, h3, h4⟩ := h
  exact ⟨.value v', v', w', φ', by simp [h1], .inl rfl, h2, h3, h4⟩

theorem Sound.of_keep (hH : HRel φ A w) {s : Sem Value} {v' : Value} (h : s.run P w = .ok v' w) (hv : VRel φ v v') : Sound φ A w v A ((do pure (.value (← s)) : Sem Next).run P w) :=
  Sound.of ⟨v', w, φ, h, hv, hH, Fr.refl _ _ _⟩

theorem rels_two {a b : Value} {l : List Value} (h : Rels φ [a, b] l) : ∃ x y, l = [x, y] ∧ VRel φ a x ∧ VRel φ b y := by
  obtain ⟨x, l1, rfl, h1, h2⟩ := h.uncons
  obtain ⟨y, l2, rfl, h3, h4⟩ := h2.uncons
  cases l2 with
  | nil => exact ⟨x, y, rfl, h1, h3⟩
  | cons _ _ => simp [Rels] at h4

theorem rels_one {a : Value} {l : List Value} (h : Rels φ [a] l) : ∃ x, l = [x] ∧ VRel φ a x := by
  obtain ⟨x, l1, rfl, h1, h2⟩ := h.uncons
  cases l1 with
  | nil => exact ⟨x, rfl, h1⟩
  | cons _ _ => simp [Rels] at h2

theorem arr_of {l : List Value} {a : Array Value} (h : a.toList = l) : a = ⟨l⟩ := Array.ext' h

theorem copy_sound (hH : HRel φ A w) {t t' ty e e' : TypeId} {ie : TypeInfo} (hu : P.underlying t = some (.slice e)) (hi : P.info? e = some ie)
    {da : Option Addr} {dl dc : Nat} {d' x' : Value} (hd : VRel φ (.slice da dl dc) d') {xa : Option Addr} {xl xc : Nat} (hx : VRel φ (.slice xa xl xc) x')
    (h : dCopy A ie.size da dl xa xl xc = some (v, u)) :
    ∃ v' w' φ', (Builtin.copy_ #[t, t'] ty #[d', x']).run P w = .ok v' w' ∧ VRel φ' v v' ∧ HRel φ' (u.on A) w' ∧ Fr φ A w φ' (u.on A) w' := by
  have hx'l : (Builtin.lenOf x').run P w = .ok xl w := by
    cases hx with
    | nilslice => rfl
    | slice => rfl
  unfold dCopy at h
  split at h
  · rename_i h0
    cases h
    have hmin : Nat.min xl dl = 0 := h0
    refine ⟨.int .i64 0, w, φ, ?_, .int _ _, hH, Fr.refl _ _ _⟩
    have h0' : rdFirst A ie.size 0 (.slice xa xl xc) = some [] := by cases xa <;> simp [rdFirst]
    obtain ⟨ws, hr, hl, _, hrun⟩ := first_sound (P := P) hH hx (Nat.zero_le _) h0'
    have hws : ws = [] := by apply List.eq_nil_of_length_eq_zero; rw [← hr.1]; rfl
    subst hws
    have hrun' := hrun w rfl
    cases hd with
    | nilslice => simp [Builtin.copy_, run_underlying hu, hx'l, hmin, run_sizeOf hi, hrun', goInt]
    | slice => simp [Builtin.copy_, run_underlying hu, hx'l, hmin, run_sizeOf hi, hrun', goInt, storeCells]
  · rename_i h0
    split at h
    · rename_i a
      simp only [Option.bind_eq_some_iff, Option.map_eq_some_iff] at h
      obtain ⟨vs, hv, u', hw, he⟩ := h
      cases he
      obtain ⟨i, off, ver, l, q, c', rfl, rfl, hl, hle, hnc, hcc, hat⟩ := slice_inv hd
      obtain ⟨ws, hr, hlen, _, hrun⟩ := first_sound (P := P) hH hx (Nat.min_le_left _ _) hv
      obtain ⟨w', φ', r1, r2, r3⟩ := wrt_sound (P := P) hH hw hl (fun e => (hat e).1 (by omega)) hr
      refine ⟨.int .i64 (min xl dl : Nat), w', φ', ?_, .int _ _, r2, r3⟩
      have hrun' := hrun w rfl
      have hmm : Nat.min xl dl = min xl dl := rfl
      simp [Builtin.copy_, run_underlying hu, hx'l, hmm, run_sizeOf hi, hrun', goInt, r1]
    · cases h

theorem builtin_sound (hH : HRel φ A w) {b : Builtin} {ts : Array TypeId} {ty : TypeId} {cs : Array Bool} {args : List Value} {args' : Array Value} (ha : Rels φ args args'.toList) (h : dBuiltin P b ts.toList args A = some (v, u)) :
    Sound φ A w v (u.on A) ((builtin b ts ty cs args').run P w) := by
  unfold dBuiltin at h
  split at h
  · -- len
    rename_i t tl x hts
    obtain ⟨x', hx', hx⟩ := rels_one ha
    have ea := arr_of hx'
    subst ea
    have ht : ts[0]? = some t := by rw [← Array.getElem?_toList, hts]; rfl
    split at h
    · rename_i s hu
      cases h
      have e : x' = .string s := atom_eq rfl hx
      subst e
      exact Sound.of_keep hH (by simp [Builtin.len_, ht, run_underlying hu, goInt]) (.int _ _)
    · rename_i a n c hu
      cases h
      refine Sound.of_keep hH (v' := .int .i64 n) ?_ (.int _ _)
      cases hx with
      | nilslice => simp [Builtin.len_, ht, run_underlying hu, goInt]
      | slice => simp [Builtin.len_, ht, run_underlying hu, goInt]
    · rename_i n hu
      cases h
      refine Sound.of_keep hH (v' := .int .i64 _) ?_ (.int _ _)
      simp [Builtin.len_, ht, run_underlying hu, goInt]
    · cases h
  · -- cap
    rename_i t tl x hts
    obtain ⟨x', hx', hx⟩ := rels_one ha
    have ea := arr_of hx'
    subst ea
    have ht : ts[0]? = some t := by rw [← Array.getElem?_toList, hts]; rfl
    split at h
    · rename_i n c hu
      cases h
      have e : x' = .slice none _ _ := atom_eq rfl hx
      subst e
      exact Sound.of_keep hH (by simp [Builtin.cap_, ht, run_underlying hu, goInt]) (.int _ _)
    · rename_i i off ver n c hu
      split at h
      · rename_i bb hbb
        split at h
        · rename_i hc
          cases h
          obtain ⟨i', off', ver', l, q, c', heq, rfl, hl, hle, hnc, hcc, hat⟩ := slice_inv hx
          cases heq
          obtain ⟨_, hor⟩ := hH.obj i _ _ hl hbb rfl
          obtain ⟨⟨e1, e2, e3, e4, e5⟩, _⟩ := hor
          have hcc' : c' = c := (hat (by omega)).2.1 (by
            rcases hc.2 with hc | hc
            · exact .inl (by rw [e3]; exact hc)
            · exact .inr (by rw [e1, e2]; exact hc))
          subst hcc'
          exact Sound.of_keep hH (by simp [Builtin.cap_, ht, run_underlying hu, goInt]) (.int _ _)
        · cases h
      · cases h
    · cases h
  · -- append
    rename_i t t' s x hts
    obtain ⟨s', x', hx', hs, hx⟩ := rels_two ha
    have ea := arr_of hx'
    subst ea
    have ets : ts = #[t, t'] := Array.ext' hts
    subst ets
    split at h
    · rename_i e e' hu hu'
      split at h
      · rename_i hee
        split at h
        · rename_i ie xa xl xc hi
          split at h
          · rename_i z hz
            split at h
            · rename_i hzl
              simp only [Option.bind_eq_some_iff] at h
              obtain ⟨vs, hv, h⟩ := h
              exact Sound.of (append_sound hH hu hu' hi hz hzl hs rfl hx hv h)
            · cases h
          · cases h
        · cases h
      · cases h
    · cases h
  · -- copy
    rename_i t t' d x hts
    obtain ⟨d', x', hx', hd, hx⟩ := rels_two ha
    have ea := arr_of hx'
    subst ea
    have ets : ts = #[t, t'] := Array.ext' hts
    subst ets
    split at h
    · rename_i e e' hu hu'
      split at h
      · rename_i ie da dl dc xa xl xc hi
        split at h
        · exact Sound.of (copy_sound (e' := e') hH hu hi hd hx h)
        · cases h
      · cases h
    · cases h
  · -- clear
    rename_i t x hts
    obtain ⟨x', hx', hx⟩ := rels_one ha
    have ea := arr_of hx'
    subst ea
    have ets : ts = #[t] := Array.ext' hts
    subst ets
    split at h
    · rename_i e a c hu
      cases h
      refine Sound.of_keep hH (v' := .tuple #[]) ?_ rel_undef
      cases hx with
      | nilslice => simp [Builtin.clear_, run_underlying hu]
      | slice => simp [Builtin.clear_, run_underlying hu]
    · rename_i e a n c hn0 hu
      simp only [Option.bind_eq_some_iff] at h
      obtain ⟨z, hz, h⟩ := h
      split at h
      · rename_i hf
        simp only [Option.map_eq_some_iff] at h
        obtain ⟨u', hw, he⟩ := h
        cases he
        simp only [zeroOf, Option.bind_eq_some_iff] at hz
        obtain ⟨zi, hzi, hz⟩ := hz
        obtain ⟨i, off, ver, l, q, c', rfl, rfl, hl, hle, hnc, hcc, hat⟩ := slice_inv hx
        have hn : n ≠ 0 := by
          intro h0; subst h0
          exact hn0 rfl
        have hrz : (Builtin.zeroCells z.cells n).toList = rep n z.cells.toList := rep_range z.cells n
        obtain ⟨w', φ', r1, r2, r3⟩ := wrt_sound (P := P) hH hw hl (fun e => (hat e).1 (by omega)) (ws := (Builtin.zeroCells z.cells n).toList) (by rw [hrz]; exact rep_rels (flat_rel hf).cells n)
        refine Sound.of ⟨.tuple #[], w', φ', ?_, rel_undef, r2, r3⟩
        obtain ⟨n', rfl⟩ : ∃ n', n = n' + 1 := ⟨n - 1, by omega⟩
        simp [Builtin.clear_, run_underlying hu, run_zero hzi hz, r1]
      · cases h
    · cases h
  · -- min
    rename_i x r
    simp only [Option.map_eq_some_iff] at h
    obtain ⟨y, hy, he⟩ := h
    cases he
    obtain ⟨x', r', hx', hx, hr⟩ := ha.uncons
    have ea := arr_of hx'
    subst ea
    obtain ⟨v', h1, h2⟩ := minmax_sound (P := P) (w := w) (isMax := false) r x _ r' x' hx hr (by simpa using hy)
    exact Sound.of_keep hH (by simpa [Builtin.min_] using h1) h2
  · -- max
    rename_i x r
    simp only [Option.map_eq_some_iff] at h
    obtain ⟨y, hy, he⟩ := h
    cases he
    obtain ⟨x', r', hx', hx, hr⟩ := ha.uncons
    have ea := arr_of hx'
    subst ea
    obtain ⟨v', h1, h2⟩ := minmax_sound (P := P) (w := w) (isMax := true) r x _ r' x' hx hr (by simpa using hy)
    exact Sound.of_keep hH (by simpa [Builtin.max_] using h1) h2
  · cases h

theorem evs_rel {ev : Operand → Option Value} (hev : ∀ x a, ev x = some a → VRel φ a (ρ x)) : ∀ (xs : List Operand) (vs : List Value), evs ev xs = some vs → Rels φ vs (xs.map ρ)
  | [], vs, h => by simp only [evs] at h; cases h; exact Rels.nil
  | x :: xs, vs, h => by
    simp only [evs, Option.bind_eq_some_iff, Option.map_eq_some_iff] at h
    obtain ⟨a, ha, r, hr, rfl⟩ := h
    exact Rels.cons (hev x a ha) (evs_rel hev xs r hr)

theorem evp_rel {ev : Operand → Option Value} (hev : ∀ x a, ev x = some a → VRel φ a (ρ x)) : ∀ (xs : List (Nat × Operand)) (vs : List (Nat × Value)), evp ev xs = some vs →
    vs.length = xs.length ∧ ∀ (j : Nat) (x : Nat × Value) (y : Nat × Operand), vs[j]? = some x → xs[j]? = some y → x.1 = y.1 ∧ VRel φ x.2 (ρ y.2)
  | [], vs, h => by simp only [evp] at h; cases h; exact ⟨rfl, fun j x y hx => by simp at hx⟩
  | (i, x) :: xs, vs, h => by
    simp only [evp, Option.bind_eq_some_iff, Option.map_eq_some_iff] at h
    obtain ⟨a, ha, r, hr, rfl⟩ := h
    obtain ⟨h1, h2⟩ := evp_rel hev xs r hr
    refine ⟨by simp [h1], fun j p q hp hq => ?_⟩
    cases j with
    | zero => simp at hp hq; subst hp; subst hq; exact ⟨rfl, hev x a ha⟩
    | succ j => simp at hp hq; exact h2 j p q hp hq

theorem evo_rel {ev : Operand → Option Value} (hev : ∀ x a, ev x = some a → VRel φ a (ρ x)) {x : Option Operand} {y : Option Value} (h : evo ev x = some y) : ORl φ y (x.map ρ) := by
  cases x with
  | none => simp only [evo] at h; cases h; exact ⟨(fun a h => by cases h), (fun _ => rfl)⟩
  | some x =>
    simp only [evo, Option.map_eq_some_iff] at h
    obtain ⟨a, ha, rfl⟩ := h
    exact ⟨(fun b hb => by cases hb; exact ⟨_, rfl, hev x a ha⟩), (fun h => by cases h)⟩

end

section
variable {P : Program} {φ : Rz} {A : Hp} {w : World} {ρ : Operand → Value} {v : Value} {u : Upd} {E : List TypeId} {ev : Operand → Option Value}

/-- EVERY OPERATION IS SOUND. -/
theorem dOp_sound (hE : ∀ t ∈ E, EqOK P t) (hH : HRel φ A w) (hev : ∀ x a, ev x = some a → VRel φ a (ρ x)) (o : Oper) (h : dOp E P ev A o.op = some (v, u)) :
    Sound φ A w v (u.on A) ((execOp ρ o).run P w) := by
  generalize ho : o.op = op at h
  unfold dOp at h
  split at h
  · rename_i x
    simp only [Option.map_eq_some_iff] at h
    obtain ⟨a, ha, he⟩ := h; cases he
    exact sound_move hH (.inl ho) (hev _ _ ha)
  · rename_i x
    simp only [Option.map_eq_some_iff] at h
    obtain ⟨a, ha, he⟩ := h; cases he
    exact sound_move hH (.inr ho) (hev _ _ ha)
  · rename_i c a b
    simp only [Option.bind_eq_some_iff] at h
    obtain ⟨cv, hc, h⟩ := h
    split at h
    · simp only [Option.map_eq_some_iff] at h
      obtain ⟨x, hx, he⟩ := h; cases he
      exact sound_pick hH ho (hev _ _ hc) (fun _ => hev _ _ hx) (fun h => by cases h)
    · simp only [Option.map_eq_some_iff] at h
      obtain ⟨x, hx, he⟩ := h; cases he
      exact sound_pick hH ho (hev _ _ hc) (fun h => by cases h) (fun _ => hev _ _ hx)
    · cases h
  · rename_i t
    simp only [Option.bind_eq_some_iff] at h
    obtain ⟨z, hz, h⟩ := h
    split at h
    · rename_i hc
      simp only [Bool.and_eq_true] at hc
      cases h
      exact sound_alloc hH ho hz hc.1 hc.2
    · cases h
  · rename_i t x
    simp only [Option.bind_eq_some_iff] at h
    obtain ⟨a, ha, h⟩ := h
    split at h
    · rename_i hc
      cases h
      exact sound_box hH ho (hev _ _ ha) hc
    · cases h
  · rename_i t parts
    simp only [Option.bind_eq_some_iff, Option.map_eq_some_iff] at h
    obtain ⟨ps, hp, cs, hcs, he⟩ := h; cases he
    obtain ⟨h1, h2⟩ := evp_rel hev _ _ hp
    exact sound_build hH ho (by simpa using h1) (fun j x y hx hy => h2 j x y hx (by simpa using hy)) hcs
  · rename_i t n parts
    simp only [Option.bind_eq_some_iff] at h
    obtain ⟨ps, hp, h⟩ := h
    obtain ⟨h1, h2⟩ := evp_rel hev _ _ hp
    split at h
    · rename_i e hu
      split at h
      · rename_i ie hi
        split at h
        · rename_i z hz
          split at h
          · rename_i hc
            simp only [Bool.and_eq_true, decide_eq_true_eq] at hc
            simp only [Option.bind_eq_some_iff] at h
            obtain ⟨cs, hcs, h⟩ := h
            split at h
            · rename_i hall
              cases h
              exact sound_buildSlice hH ho (by simpa using h1) (fun j x y hx hy => h2 j x y hx (by simpa using hy)) hu hi hz hc.1.1 hc.1.2 hc.2 hcs hall
            · cases h
          · cases h
        · cases h
      · cases h
    · cases h
  · rename_i t a
    simp only [Option.bind_eq_some_iff] at h
    obtain ⟨av, ha, h⟩ := h
    split at h
    · rename_i p
      split at h
      · rename_i d i hd hi
        exact sound_load hH ho (hev _ _ ha) hd hi h
      · cases h
    · cases h
  · rename_i t a x
    simp only [Option.bind_eq_some_iff] at h
    obtain ⟨av, ha, xv, hx, h⟩ := h
    split at h
    · rename_i p
      split at h
      · rename_i i hi
        split at h
        · rename_i hsz
          simp only [Option.map_eq_some_iff] at h
          obtain ⟨u', hw, he⟩ := h; cases he
          exact sound_store hH ho (hev _ _ ha) (hev _ _ hx) hi hsz hw
        · cases h
      · cases h
    · cases h
  · rename_i x
    simp only [Option.bind_eq_some_iff] at h
    obtain ⟨xv, hx, h⟩ := h
    exact sound_nilCheck hH ho (hev _ _ hx) h
  · rename_i op t x y t'
    simp only [Option.bind_eq_some_iff, Option.map_eq_some_iff] at h
    obtain ⟨xv, hx, yv, hy, r, hr, he⟩ := h; cases he
    exact sound_binOp hE hH ho (hev _ _ hx) (hev _ _ hy) hr
  · rename_i op t x
    simp only [Option.bind_eq_some_iff, Option.map_eq_some_iff] at h
    obtain ⟨xv, hx, r, hr, he⟩ := h; cases he
    exact sound_unOp hH ho (hev _ _ hx) hr
  · rename_i s d x
    simp only [Option.bind_eq_some_iff, Option.map_eq_some_iff] at h
    obtain ⟨xv, hx, r, hr, he⟩ := h; cases he
    exact sound_convert hH ho (hev _ _ hx) hr
  · rename_i f xs cs
    simp only [Option.bind_eq_some_iff, Option.map_eq_some_iff] at h
    obtain ⟨a, ha, b, hb, he⟩ := h; cases he
    exact sound_makeFunc hH ho (evs_rel hev _ _ ha) (evs_rel hev _ _ hb)
  · rename_i t x
    simp only [Option.bind_eq_some_iff] at h
    obtain ⟨xv, hx, h⟩ := h
    split at h
    · cases h
    · cases h
    · rename_i dd hni hno
      cases h
      cases hd : P.underlying t with
      | none => exact absurd hd hno
      | some d => exact sound_makeInterface hH ho (hev _ _ hx) hd (fun ms e => hni ms (by rw [hd, e]))
  · rename_i t
    cases h
    exact sound_makeMap hH ho
  · rename_i t l c
    simp only [Option.bind_eq_some_iff] at h
    obtain ⟨lv, hl, cv, hc, h⟩ := h
    split at h
    · rename_i e kl l kc c hu
      split at h
      · rename_i ie hi
        split at h
        · rename_i z hz
          split at h
          · rename_i hcond
            simp only [Bool.and_eq_true, decide_eq_true_eq] at hcond
            cases h
            exact sound_makeSlice hH ho (hev _ _ hl) (hev _ _ hc) hu hi hz hcond.1.1.1 hcond.1.1.2 hcond.2 hcond.1.2.1 hcond.1.2.2.1 hcond.1.2.2.2.1 hcond.1.2.2.2.2
          · cases h
        · cases h
      · cases h
    · cases h
  · rename_i t x lo hi mx
    simp only [Option.bind_eq_some_iff, Option.map_eq_some_iff] at h
    obtain ⟨xv, hx, lv, hl, hv, hh, mv, hm, r, hr, he⟩ := h; cases he
    exact sound_slice hH ho (hev _ _ hx) (evo_rel hev hl) (evo_rel hev hh) (evo_rel hev hm) hr
  · rename_i s x f
    simp only [Option.bind_eq_some_iff] at h
    obtain ⟨xv, hx, h⟩ := h
    split at h
    · rename_i fields i off ver hu
      split at h
      · rename_i fd hf
        split at h
        · rename_i n hsz
          cases h
          exact sound_fieldAddr hH ho (hev _ _ hx) hu hf hsz
        · cases h
      · cases h
    · cases h
  · rename_i t x f
    simp only [Option.bind_eq_some_iff] at h
    obtain ⟨xv, hx, h⟩ := h
    split at h
    · rename_i fields cs hu
      split at h
      · rename_i fd hf
        simp only [Option.map_eq_some_iff] at h
        obtain ⟨r, hr, he⟩ := h; cases he
        exact sound_field hH ho (hev _ _ hx) hu hf hr
      · cases h
    · cases h
  · rename_i t x ix
    simp only [Option.bind_eq_some_iff] at h
    obtain ⟨xv, hx, iv, hi, h⟩ := h
    split at h
    · rename_i e i off ver len c k n hu
      split at h
      · rename_i hc
        simp only [Option.map_eq_some_iff] at h
        obtain ⟨sz, hsz, he⟩ := h; cases he
        exact sound_indexAddr_slice hH ho (hev _ _ hx) (hev _ _ hi) hu hc.1 hc.2 hsz
      · cases h
    · rename_i len e i off ver k n hu
      split at h
      · rename_i hc
        simp only [Option.map_eq_some_iff] at h
        obtain ⟨sz, hsz, he⟩ := h; cases he
        exact sound_indexAddr_array hH ho (hev _ _ hx) (hev _ _ hi) hu hc.1 hc.2 hsz
      · cases h
    · cases h
  · rename_i t x ix
    simp only [Option.bind_eq_some_iff] at h
    obtain ⟨xv, hx, iv, hi, h⟩ := h
    split at h
    · rename_i len e cs k n hu
      split at h
      · rename_i hc
        simp only [Option.bind_eq_some_iff, Option.map_eq_some_iff] at h
        obtain ⟨sz, hsz, r, hr, he⟩ := h; cases he
        exact sound_index_array hH ho (hev _ _ hx) (hev _ _ hi) hu hc.1 hc.2 hsz hr
      · cases h
    · rename_i s k n hu
      split at h
      · rename_i hc
        simp only [Option.map_eq_some_iff] at h
        obtain ⟨c, hr, he⟩ := h; cases he
        exact sound_index_string hH ho (hev _ _ hx) (hev _ _ hi) hu hc hr
      · cases h
    · cases h
  · rename_i t x ix ok
    simp only [Option.bind_eq_some_iff] at h
    obtain ⟨xv, hx, kv, hk, h⟩ := h
    split at h
    · rename_i kt et i hu
      split at h
      · rename_i es rr hm hkt
        split at h
        · rename_i key
          simp only [Option.bind_eq_some_iff] at h
          obtain ⟨z, hz, h⟩ := h
          split at h
          · rename_i hf
            simp only [Option.map_eq_some_iff] at h
            obtain ⟨r, hr, he⟩ := h; cases he
            exact sound_lookup hH ho (hev _ _ hx) (hev _ _ hk) hu hkt hm hz hf hr
          · cases h
        · cases h
      · cases h
    · cases h
  · rename_i t m k x
    simp only [Option.bind_eq_some_iff] at h
    obtain ⟨mv, hm, kv, hk, xv, hx, h⟩ := h
    split at h
    · rename_i kt et i hu
      split at h
      · rename_i es hA hkt
        split at h
        · rename_i key
          simp only [Option.map_eq_some_iff] at h
          obtain ⟨es', hes, he⟩ := h; cases he
          exact sound_mapUpdate hH ho (hev _ _ hm) (hev _ _ hk) (hev _ _ hx) hu hkt hA hes
        · cases h
      · cases h
    · cases h
  · rename_i t x
    simp only [Option.bind_eq_some_iff] at h
    obtain ⟨xv, hx, h⟩ := h
    split at h
    · rename_i s hu
      cases h
      exact sound_range hH ho (hev _ _ hx) hu
    · cases h
  · rename_i it
    simp only [Option.bind_eq_some_iff] at h
    obtain ⟨iv, hi, h⟩ := h
    split at h
    · rename_i i
      split at h
      · rename_i s pos hA
        exact sound_next hH ho (hev _ _ hi) hA h
      · cases h
    · cases h
  · rename_i t ix
    simp only [Option.bind_eq_some_iff] at h
    obtain ⟨tv, ht, h⟩ := h
    split at h
    · simp only [Option.map_eq_some_iff] at h
      obtain ⟨r, hr, he⟩ := h; cases he
      exact sound_extract hH ho (hev _ _ ht) hr
    · cases h
  · rename_i b args ts
    simp only [Option.bind_eq_some_iff] at h
    obtain ⟨vs, hv, h⟩ := h
    exact sound_of_builtin hH ho (fun cs => builtin_sound hH (by simpa using evs_rel hev _ _ hv) h)
  · cases h

end
end Go.Dx
end

section
/- The data layer: calls, statements, and the rules for them (regions whose order is fixed). -/
namespace Go.Dx

/-- The frame and the world stand for the data. -/
structure Rel (φ : Rz) (s : St) (a : Act) (w : World) : Prop where
  tmps : Rels φ s.t a.tmps.toList
  defers : a.defers = []
  heap : HRel φ s.A w

/-- A call with data: it returns, and the results are so. -/
def DCalls (P : Program) (f : FuncId) (args : List Value) (A : Hp) (R : Value → Hp → Prop) : Prop :=
  ∀ (φ : Rz) (args' : List Value) (w : World), HRel φ A w → Rels φ args args' →
    Calls P f ⟨args'⟩ w fun e w' => ∃ v v' A' φ', e = .returned v' ∧ R v A' ∧ VRel φ' v v' ∧ HRel φ' A' w' ∧ Fr φ A w φ' A' w'

/-- A statement with data. -/
def DSem (P : Program) (c : Code) (Q : Exit → St → Prop) (s : St) : Prop :=
  ∀ (φ : Rz) (a : Act) (w : World), Rel φ s a w → c.wp P (fun e a' w' => ∃ s' φ', Q e s' ∧ Rel φ' s' a' w' ∧ Fr φ s.A w φ' s'.A w') a w

theorem DCalls.mono {P : Program} {f : FuncId} {args : List Value} {A : Hp} {R R' : Value → Hp → Prop} (h : DCalls P f args A R) (hr : ∀ v A', R v A' → R' v A') : DCalls P f args A R' :=
  fun φ args' w h1 h2 => (h φ args' w h1 h2).mono fun _ _ ⟨v, v', A', φ', e1, e2, e3⟩ => ⟨v, v', A', φ', e1, hr _ _ e2, e3⟩

theorem DSem.mono {P : Program} {c : Code} {Q Q' : Exit → St → Prop} {s : St} (h : DSem P c Q s) (hq : ∀ e s', Q e s' → Q' e s') : DSem P c Q' s :=
  fun φ a w hr => wp_mono (h φ a w hr) fun _ _ _ ⟨s', φ', e1, e2⟩ => ⟨s', φ', hq _ _ e1, e2⟩

section
variable {P : Program} {Q : Exit → St → Prop} {s : St}

theorem dsem_skip (h : Q .normal s) : DSem P .skip Q s := fun φ _ _ hr => wp_skip ⟨s, φ, h, hr, Fr.refl _ _ _⟩
theorem dsem_label {l : Nat} (h : Q .normal s) : DSem P (.label l) Q s := fun φ _ _ hr => wp_label ⟨s, φ, h, hr, Fr.refl _ _ _⟩
theorem dsem_ret (h : Q .ret s) : DSem P .ret Q s := fun φ _ _ hr => wp_ret ⟨s, φ, h, hr, Fr.refl _ _ _⟩
theorem dsem_exit {id : Nat} (h : Q (.exit id) s) : DSem P (.exit id) Q s := fun φ _ _ hr => wp_exit ⟨s, φ, h, hr, Fr.refl _ _ _⟩

/-- What stands behind a statement. -/
def thn (K : St → Prop) (Q : Exit → St → Prop) : Exit → St → Prop
  | .normal, s => K s
  | e, s => Q e s

def inB (id : Nat) (Q : Exit → St → Prop) : Exit → St → Prop
  | .exit id', s => if id' = id then Q .normal s else Q (.exit id') s
  | e, s => Q e s

theorem dsem_seq {x y : Code} (h : DSem P x (thn (DSem P y Q) Q) s) : DSem P (.seq x y) Q s := by
  intro φ a w hr
  refine wp_seq (wp_mono (h φ a w hr) fun e a' w' ⟨s', φ', h1, h2, h3⟩ => ?_)
  cases e with
  | normal => exact wp_mono (h1 φ' a' w' h2) fun e a2 w2 ⟨s2, φ2, g1, g2, g3⟩ => ⟨s2, φ2, g1, g2, h3.trans g3⟩
  | exit id => exact ⟨s', φ', h1, h2, h3⟩
  | goto l => exact ⟨s', φ', h1, h2, h3⟩
  | ret => exact ⟨s', φ', h1, h2, h3⟩
  | panic c => exact ⟨s', φ', h1, h2, h3⟩
  | outgrown => exact ⟨s', φ', h1, h2, h3⟩

theorem evOp_rel {φ : Rz} {t : List Value} {a : Act} (h : Rels φ t a.tmps.toList) {x : Operand} {v : Value} (hv : evOp t x = some v) : VRel φ v (a.eval x) := by
  cases x with
  | tmp i =>
    simp only [evOp] at hv
    obtain ⟨y, hy, hr⟩ := h.get hv
    simp only [Array.getElem?_toList] at hy
    simp only [Act.eval, Array.getD_eq_getD_getElem?, hy, Option.getD_some]
    exact hr
  | const c =>
    simp only [evOp] at hv
    split at hv
    · rename_i hf; cases hv; exact flat_rel hf
    · cases hv
  | global g => simp [evOp] at hv
  | func f =>
    simp only [evOp] at hv
    cases hv
    exact .func f _ _ _ _ rfl rfl (fun i x y hx => by simp at hx) (fun i x y hx => by simp at hx)

theorem dsem_cond {c : Operand} {x y : Code} {b : Bool} (hc : evOp s.t c = some (.bool b)) (h : DSem P (if b then x else y) Q s) : DSem P (.cond c x y) Q s := by
  intro φ a w hr
  exact wp_cond (atom_eq rfl (evOp_rel hr.tmps hc)) (h φ a w hr)

theorem dsem_block {id : Nat} {c : Code} (h : DSem P c (inB id Q) s) : DSem P (.block id c) Q s := by
  intro φ a w hr
  refine wp_block (wp_mono (h φ a w hr) fun e a' w' ⟨s', φ', h1, h2, h3⟩ => ?_)
  cases e with
  | exit id' =>
    simp only [inB] at h1
    simp only [Exit.inBlock]
    split
    · rename_i he; rw [if_pos he] at h1; exact ⟨s', φ', h1, h2, h3⟩
    · rename_i he; rw [if_neg he] at h1; exact ⟨s', φ', h1, h2, h3⟩
  | normal => exact ⟨s', φ', h1, h2, h3⟩
  | goto l => exact ⟨s', φ', h1, h2, h3⟩
  | ret => exact ⟨s', φ', h1, h2, h3⟩
  | panic c => exact ⟨s', φ', h1, h2, h3⟩
  | outgrown => exact ⟨s', φ', h1, h2, h3⟩

/-- A loop: what holds at the head of each round, and what each round lowers. -/
theorem dsem_loop {c : Code} (I : St → Prop) (μ : St → Nat) (h0 : I s) (hr : ∀ s, I s → DSem P c (thn (fun s' => I s' ∧ μ s' < μ s) Q) s) : DSem P (.loop c) Q s := by
  intro φ a w hrel
  -- the relation of the model's loop: some data that are so far on the way
  have key : ∀ (n : Nat) (s1 : St) (φ1 : Rz) (a1 : Act) (w1 : World), μ s1 = n → I s1 → Rel φ1 s1 a1 w1 → Fr φ s.A w φ1 s1.A w1 → ∀ (b : Frame) (k : List Item) (cs : List Frame),
      ∃ e a' w', (∃ s' φ', Q e s' ∧ Rel φ' s' a' w' ∧ Fr φ s.A w φ' s'.A w') ∧ Arrives P (lone (b.at a1 (.code c :: .inLoop c :: k)) cs w1) b k cs e a' w' := by
    intro n
    induction n using Nat.strongRecOn with
    | _ n ih =>
      intro s1 φ1 a1 w1 hn hI h1 hf b k cs
      obtain ⟨e, a2, w2, ⟨s2, φ2, hq, h2, hf2⟩, harr⟩ := hr s1 hI φ1 a1 w1 h1 b (.inLoop c :: k) cs
      cases e with
      | normal =>
        obtain ⟨hI2, hlt⟩ := hq
        obtain ⟨e3, a3, w3, hq3, harr3⟩ := ih (μ s2) (hn ▸ hlt) s2 φ2 a2 w2 rfl hI2 h2 (hf.trans hf2) b k cs
        exact ⟨e3, a3, w3, hq3, .of_steps (Steps.trans harr (.one step_inLoop)) harr3⟩
      | exit id => exact ⟨_, a2, w2, ⟨s2, φ2, hq, h2, hf.trans hf2⟩, .pass (x := .inLoop c) rfl (fun _ _ => .inl (by simp)) harr⟩
      | goto l => exact ⟨_, a2, w2, ⟨s2, φ2, hq, h2, hf.trans hf2⟩, .pass (x := .inLoop c) rfl (fun _ _ => .inl (by simp)) harr⟩
      | ret => exact ⟨_, a2, w2, ⟨s2, φ2, hq, h2, hf.trans hf2⟩, .pass (x := .inLoop c) rfl (fun _ _ => .inl (by simp)) harr⟩
      | panic ch => exact ⟨_, a2, w2, ⟨s2, φ2, hq, h2, hf.trans hf2⟩, .pass (x := .inLoop c) rfl (fun _ _ => .inl (by simp)) harr⟩
      | outgrown => exact ⟨_, a2, w2, ⟨s2, φ2, hq, h2, hf.trans hf2⟩, .pass (x := .inLoop c) rfl (fun _ _ => .inl (by simp)) harr⟩
  intro b k cs
  obtain ⟨e, a', w', hq, harr⟩ := key _ s φ a w rfl h0 hrel (Fr.refl _ _ _) b k cs
  exact ⟨e, a', w', hq, .of_steps (.one step_loop) harr⟩

end

/-! One operation. -/

def hasBody (P : Program) (f : FuncId) : Bool :=
  match P.funcs[f]? with
  | some fn => fn.body.isSome
  | none => false

structure Env (P : Program) (E : List TypeId) : Prop where
  eq : ∀ t ∈ E, EqOK P t
  names : ∀ (g : Nat) (fn : Func), P.funcs[g]? = some fn → (fn.name == "runtime.NumGoroutine") = false
  mixed : P.follows .mixedOrders = true

section
variable {P : Program} {E : List TypeId} {φ : Rz} {s : St} {a : Act} {w : World}

theorem put_rel {t : List Value} (h : Rels φ t a.tmps.toList) (d : Option Tmp) {v v' : Value} (hv : VRel φ v v') : Rels φ (put t d v) (a.put d v').tmps.toList := by
  cases d with
  | none => exact h
  | some d =>
    simp only [put, Act.put, Array.toList_setIfInBounds]
    exact h.set hv d

theorem put_defers (a : Act) (d : Option Tmp) (v : Value) : (a.put d v).defers = a.defers := by cases d <;> rfl

theorem yielded_eq {ops : Array Oper} {t : List Value} (h : Rels φ t a.tmps.toList) (o : Oper) : Region.wanted o (yielded ops a.tmps) = wantedD ops.toList t o := by
  unfold Region.wanted wantedD
  cases o.guard with
  | none => rfl
  | some g =>
    obtain ⟨j, b⟩ := g
    simp only [yielded, Array.getElem?_toList]
    cases hj : ops[j]? with
    | none => simp
    | some oj =>
      cases hd : oj.dst with
      | none => simp [hd]
      | some d =>
        simp only [Option.bind_some, hd]
        cases ht : t[d]? with
        | none =>
          have : a.tmps[d]? = none := by
            have := List.getElem?_eq_none_iff.1 ht
            rw [h.1] at this
            simpa using this
          simp [this]
        | some v =>
          obtain ⟨v', hv', hr⟩ := h.get ht
          simp only [Array.getElem?_toList] at hv'
          simp only [hv']
          cases hr <;> simp

/-- A call of a function of the program, as the model runs it. -/
theorem callee_run (hEnv : Env P E) {o : Oper} {ev : Operand → Option Value} {ρ : Operand → Value} (hev : ∀ x b, ev x = some b → VRel φ b (ρ x)) {f : FuncId} {args : List Value} (h : callee ev o.op = some (f, args))
    (hb : hasBody P f = true) (w : World) : ∃ args', (execOp ρ o).run P w = .ok (.enter f ⟨args'⟩) w ∧ Rels φ args args' := by
  generalize ho : o.op = op at h
  unfold callee at h
  split at h
  · rename_i g as ts
    simp only [Option.bind_eq_some_iff] at h
    obtain ⟨fv, hf, vs, hv, h⟩ := h
    split at h
    · rename_i f' xs cs
      cases h
      have hfr := hev _ _ hf
      have hvr := evs_rel hev _ _ hv
      generalize hq : ρ g = y at hfr
      cases hfr with
      | func _ _ ys _ ds hx hc h1 h2 =>
        refine ⟨ys.toList ++ as.toList.map ρ ++ ds.toList, ?_, ?_⟩
        · unfold hasBody at hb
          cases hfn : P.funcs[f]? with
          | none => simp [hfn] at hb
          | some fn =>
            simp only [hfn] at hb
            have hname := hEnv.names f fn hfn
            have hbn : fn.body.isNone = false := by cases hbb : fn.body <;> simp_all
            simp only [execOp, ho, resolve, hq, Deferred.ofValue, Sem.run_bind, Sem.run_pure, Result.andThen_ok, invoke, callFunc, run_program, hfn, hname, Bool.false_eq_true, if_false, hbn]
            congr 2
            apply Array.ext'
            simp
        · exact ((Rels.append ⟨by simpa using hx, fun i x y a b => h1 i x y (by simpa using a) (by simpa using b)⟩ hvr).append ⟨by simpa using hc, fun i x y a b => h2 i x y (by simpa using a) (by simpa using b)⟩)
    · cases h
  · cases h

/-- One operation that is no call. -/
theorem step_op (hEnv : Env P E) (hr : Rel φ s a w) {o : Oper} {v : Value} {u : Upd} (h : dOp E P (evOp s.t) s.A o.op = some (v, u)) {next : Act → World → Prop} {Q : Exit → Act → World → Prop}
    (hn : ∀ φ' v' w', VRel φ' v v' → HRel φ' (u.on s.A) w' → Fr φ s.A w φ' (u.on s.A) w' → next (a.put o.dst v') w') : o.wp P a w next Q := by
  obtain ⟨nx, v', w', φ', h1, h2, h3, h4, h5⟩ := dOp_sound hEnv.eq hr.heap (ρ := a.eval) (fun x b hb => evOp_rel hr.tmps hb) o h
  unfold Oper.wp
  rw [h1]
  rcases h2 with rfl | ⟨rfl, rfl⟩
  · exact hn φ' v' w' h3 h4 h5
  · exact hn φ' undef w' h3 h4 h5

/-- One call. -/
theorem step_call (hEnv : Env P E) (hr : Rel φ s a w) {o : Oper} {f : FuncId} {args : List Value} (h : callee (evOp s.t) o.op = some (f, args)) (hb : hasBody P f = true) {R : Value → Hp → Prop}
    (hc : DCalls P f args s.A R) {next : Act → World → Prop} {Q : Exit → Act → World → Prop}
    (hn : ∀ φ' v v' A' w', R v A' → VRel φ' v v' → HRel φ' A' w' → Fr φ s.A w φ' A' w' → next (a.put o.dst v') w') : o.wp P a w next Q := by
  obtain ⟨args', h1, h2⟩ := callee_run hEnv (ρ := a.eval) (fun x b hb => evOp_rel hr.tmps hb) h hb w
  unfold Oper.wp
  rw [h1, Oper.upon_enter]
  refine (hc φ args' w hr.heap h2).mono fun e w' ⟨v, v', A', φ', e1, e2, e3, e4, e5⟩ => ?_
  subst e1
  exact hn φ' v v' A' w' e2 e3 e4 e5

end

/-- The operations of a region, in the order of the text. -/
def dops (E : List TypeId) (P : Program) (ops : List Oper) : List Oper → (St → Prop) → St → Prop
  | [], K, s => K s
  | o :: rest, K, s =>
    if wantedD ops s.t o then
      match callee (evOp s.t) o.op with
      | some (f, args) => hasBody P f = true ∧ DCalls P f args s.A fun v A' => dops E P ops rest K ⟨put s.t o.dst v, A'⟩
      | none =>
        match dOp E P (evOp s.t) s.A o.op with
        | some (v, u) => dops E P ops rest K ⟨put s.t o.dst v, u.on s.A⟩
        | none => False
    else dops E P ops rest K ⟨put s.t o.dst undef, s.A⟩

section
variable {P : Program} {E : List TypeId}

theorem dops_sound (hEnv : Env P E) {ops : Array Oper} {Q : Exit → Act → World → Prop} : ∀ (l : List Nat) (os : List Oper) (K : St → Prop) (φ : Rz) (s : St) (a : Act) (w : World), l.length = os.length →
    (∀ (j i : Nat), l[j]? = some i → ops[i]? = os[j]?) → Rel φ s a w → dops E P ops.toList os K s →
    (∀ φ' s' a' w', K s' → Rel φ' s' a' w' → Fr φ s.A w φ' s'.A w' → Q .normal a' w') → wpOps P ops Q l a w
  | [], os, K, φ, s, a, w, hl, _, hr, h, hQ => by
    cases os with
    | nil => exact hQ φ s a w h hr (Fr.refl _ _ _)
    | cons _ _ => simp at hl
  | i :: l, os, K, φ, s, a, w, hl, ho, hr, h, hQ => by
    cases os with
    | nil => simp at hl
    | cons o os =>
      have hi : ops[i]? = some o := by simpa using ho 0 i (by simp)
      have ho' : ∀ (j k : Nat), l[j]? = some k → ops[k]? = os[j]? := fun j k hj => by simpa using ho (j + 1) k (by simpa using hj)
      simp only [wpOps, hi, yielded_eq hr.tmps o]
      simp only [dops] at h
      split
      · rename_i hw
        rw [if_pos hw] at h
        refine .inl ?_
        split at h
        · rename_i f args hc
          obtain ⟨hb, hc2⟩ := h
          refine step_call hEnv hr hc hb hc2 fun φ' v v' A' w' h1 h2 h3 h4 => ?_
          exact dops_sound hEnv l os K φ' ⟨put s.t o.dst v, A'⟩ _ w' (by simpa using hl) ho' ⟨put_rel (hr.tmps.mono h4.ext) _ h2, by rw [put_defers]; exact hr.defers, h3⟩ h1
            fun φ2 s2 a2 w2 g1 g2 g3 => hQ φ2 s2 a2 w2 g1 g2 (h4.trans g3)
        · split at h
          · rename_i v u hd
            refine step_op hEnv hr hd fun φ' v' w' h1 h2 h3 => ?_
            exact dops_sound hEnv l os K φ' ⟨put s.t o.dst v, u.on s.A⟩ _ w' (by simpa using hl) ho' ⟨put_rel (hr.tmps.mono h3.ext) _ h1, by rw [put_defers]; exact hr.defers, h2⟩ h
              fun φ2 s2 a2 w2 g1 g2 g3 => hQ φ2 s2 a2 w2 g1 g2 (h3.trans g3)
          · exact h.elim
      · rename_i hw
        rw [if_neg hw] at h
        exact dops_sound hEnv l os K φ ⟨put s.t o.dst undef, s.A⟩ _ w (by simpa using hl) ho' ⟨put_rel hr.tmps _ rel_undef, by rw [put_defers]; exact hr.defers, hr.heap⟩ h hQ

theorem dsem_region (hEnv : Env P E) {id : Nat} {ops : Array Oper} {Q : Exit → St → Prop} {s : St} (h : dops E P ops.toList ops.toList (Q .normal) s) : DSem P (.region id ops false) Q s := by
  intro φ a w hr
  refine wp_region (dops_sound hEnv (List.range ops.size) ops.toList (Q .normal) φ s a w (by simp) ?_ hr h fun φ' s' a' w' h1 h2 h3 => ⟨s', φ', h1, h2, h3⟩)
  intro j i hj
  rw [List.getElem?_range] at hj
  · cases hj; simp
  · have := (List.getElem?_eq_some_iff.1 hj).1
    simpa using this

/-- The result of a call. -/
theorem dRes_sound {φ : Rz} {s : St} {a : Act} {w : World} (hr : Rel φ s a w) {r : ResultVar} {v : Value} (h : dRes P s r = some v) :
    ∃ v', ((match r with | .tmp t => pure (a.tmps.getD t undef) | .cell c t => do loadVar t (← asAddr (a.tmps.getD c undef)) : Sem Value)).run P w = .ok v' w ∧ VRel φ v v' := by
  cases r with
  | tmp t =>
    simp only [dRes] at h
    obtain ⟨y, hy, hv⟩ := hr.tmps.get h
    simp only [Array.getElem?_toList] at hy
    exact ⟨y, by simp [hy], hv⟩
  | cell c t =>
    simp only [dRes, Option.bind_eq_some_iff] at h
    obtain ⟨cv, hc, h⟩ := h
    obtain ⟨y, hy, hcr⟩ := hr.tmps.get hc
    simp only [Array.getElem?_toList] at hy
    split at h
    · rename_i p
      obtain ⟨i, off, ver, l, q, rfl, rfl, hl, _, hat⟩ := ptr_inv hcr
      split at h
      · rename_i d ti hd hi
        split at h
        · rename_i hg
          simp only [Option.map_eq_some_iff] at h
          obtain ⟨cs, hrd, rfl⟩ := h
          obtain ⟨ys, hn, hrel, _, hrun, _⟩ := rd_sound (P := P) hr.heap hrd hl hat
          exact ⟨.agg ys.toArray, by simp [hy, asAddr, loadVar, run_isAggD hd, hg, run_sizeOf hi, hrun], Rels.to_agg (by simpa using hrel)⟩
        · rename_i hg
          simp only [Option.bind_eq_some_iff] at h
          obtain ⟨cs, hrd, hx⟩ := h
          obtain ⟨ys, hn, hrel, _, _, hcell⟩ := rd_sound (P := P) hr.heap hrd hl hat
          obtain ⟨y2, hy2, hxy⟩ := hrel.get hx
          have := hcell 0 y2 hy2
          simp only [Addr.add, if_true] at this
          exact ⟨y2, by simp [hy, asAddr, loadVar, run_isAggD hd, hg, this], hxy⟩
      · cases h
    · cases h

theorem dRess_sound {φ : Rz} {s : St} {a : Act} {w : World} (hr : Rel φ s a w) : ∀ (rs : List ResultVar) (vs : List Value), dRess P s rs = some vs →
    ∃ vs', (rs.mapM (m := Sem) fun | .tmp t => pure (a.tmps.getD t undef) | .cell c t => do loadVar t (← asAddr (a.tmps.getD c undef))).run P w = .ok vs' w ∧ Rels φ vs vs'
  | [], vs, h => by simp only [dRess] at h; cases h; exact ⟨[], rfl, Rels.nil⟩
  | r :: rs, vs, h => by
    simp only [dRess, Option.bind_eq_some_iff, Option.map_eq_some_iff] at h
    obtain ⟨v, hv, vs2, hvs, rfl⟩ := h
    obtain ⟨v', h1, h2⟩ := dRes_sound hr hv
    obtain ⟨vs', h3, h4⟩ := dRess_sound hr rs vs2 hvs
    refine ⟨v' :: vs', ?_, Rels.cons h2 h4⟩
    rw [List.mapM_cons, Sem.run_bind]
    cases r with
    | tmp t => simp only at h1 ⊢; rw [h1]; simp only [Result.andThen_ok, Sem.run_bind, h3]; rfl
    | cell c t => simp only at h1 ⊢; rw [h1]; simp only [Result.andThen_ok, Sem.run_bind, h3]; rfl

theorem dResults_sound {φ : Rz} {s : St} {a : Act} {w : World} (hr : Rel φ s a w) {fn : Func} {v : Value} (h : dResults P fn s = some v) : ∃ v', (results fn a.tmps).run P w = .ok v' w ∧ VRel φ v v' := by
  simp only [dResults, Option.map_eq_some_iff] at h
  obtain ⟨vs, hvs, rfl⟩ := h
  obtain ⟨vs', h1, h2⟩ := dRess_sound (P := P) hr _ _ hvs
  have h1' : (fn.results.mapM (m := Sem) fun | .tmp t => pure (a.tmps.getD t undef) | .cell c t => do loadVar t (← asAddr (a.tmps.getD c undef))).run P w = .ok ⟨vs'⟩ w := by
    rw [Array.mapM_eq_mapM_toList, Sem.run_map, h1]; rfl
  refine ⟨if h : (⟨vs'⟩ : Array Value).size = 1 then (⟨vs'⟩ : Array Value)[0] else .tuple ⟨vs'⟩, ?_, ?_⟩
  · simp only [results, Sem.run_bind]
    exact (congrArg (fun r => Result.andThen r fun (vs : Array Value) w => Sem.run P (pure (if h : vs.size = 1 then vs[0] else Value.tuple vs)) w) h1').trans rfl
  · cases vs with
    | nil =>
      cases vs' with
      | nil => exact rel_undef
      | cons _ _ => simp [Rels] at h2
    | cons x xs =>
      obtain ⟨y, ys, rfl, hxy, hs⟩ := h2.uncons
      cases xs with
      | nil =>
        cases ys with
        | nil => simpa using hxy
        | cons _ _ => simp [Rels] at hs
      | cons x2 xs =>
        obtain ⟨y2, ys2, rfl, hxy2, hs2⟩ := hs.uncons
        simp only [List.size_toArray, List.length_cons]
        rw [dif_neg (by simp)]
        exact Rels.to_tuple (Rels.cons hxy (Rels.cons hxy2 hs2))

/-- A CALL OUT OF ITS BODY. -/
theorem dcalls_of {f : FuncId} {fn : Func} {c : Code} {args : List Value} {A : Hp} {R : Value → Hp → Prop} (hf : P.funcs[f]? = some fn) (hb : fn.body = some c)
    (h : DSem P c (fun e s => (e = .normal ∨ e = .ret) ∧ ∃ v, dResults P fn s = some v ∧ R v s.A) ⟨args ++ List.replicate (fn.ntmps - args.length) undef, A⟩) : DCalls P f args A R := by
  intro φ args' w hH ha
  refine calls_of_wp hf hb (wp_mono (h φ _ w ⟨?_, rfl, hH⟩) ?_)
  · simp only [Array.toList_append, Array.toList_replicate]
    have hl : (⟨args'⟩ : Array Value).size = args.length := by simp [ha.1]
    rw [hl]
    exact ha.append (Rels.replicate rel_undef _)
  · rintro e a' w' ⟨s', φ', ⟨he, v, hv, hR⟩, hr, hfr⟩
    obtain ⟨v', h1, h2⟩ := dResults_sound hr hv
    rcases he with rfl | rfl
    · exact ⟨hr.defers, v', h1, v, v', s'.A, φ', rfl, hR, h2, hr.heap, hfr⟩
    · exact ⟨hr.defers, v', h1, v, v', s'.A, φ', rfl, hR, h2, hr.heap, hfr⟩

end
end Go.Dx
end

section
/- The data layer: heaps that are only read; parts of realizations; what an operation looks at. -/
namespace Go.Dx

def roObj : AObj → AObj
  | .dead => .dead
  | .cells b => .cells { b with ro := true }
  | .map es _ => .map es true
  | .iter _ _ => .dead

def roH (A : Hp) : Hp := A.map roObj

theorem roObj_wr (o : AObj) : (roObj o).wr = false := by cases o <;> rfl

theorem roH_length (A : Hp) : (roH A).length = A.length := by simp [roH]

theorem roH_get {A : Hp} {i : Nat} {o : AObj} (h : (roH A)[i]? = some o) : ∃ p, A[i]? = some p ∧ o = roObj p := by
  simp only [roH, List.getElem?_map, Option.map_eq_some_iff] at h
  obtain ⟨p, hp, rfl⟩ := h
  exact ⟨p, hp, rfl⟩

theorem roH_wr {A : Hp} {i : Nat} {o : AObj} (h : (roH A)[i]? = some o) : o.wr = false := by
  obtain ⟨p, _, rfl⟩ := roH_get h
  exact roObj_wr p

theorem ORel.ro {φ : Rz} {w : World} {l : Loc} {o : AObj} (h : ORel φ w l o) : ORel φ w l (roObj o) := by
  cases o with
  | dead => exact True.intro
  | cells b =>
    obtain ⟨h1, arr, el, fr, h2, h3, h4, h5, h6⟩ := h
    exact ⟨h1, arr, el, fr, h2, h3, (fun h => by cases h), h5, h6⟩
  | map es r => exact h
  | iter s p => exact True.intro

theorem HRel.ro {φ : Rz} {A : Hp} {w : World} (h : HRel φ A w) : HRel φ (roH A) w := by
  refine ⟨fun i hi => h.dom i (by rw [roH_length] at hi; exact hi), ?_, ?_⟩
  · intro i o l hl ho hal
    obtain ⟨p, hp, rfl⟩ := roH_get ho
    have hpal : p.alive = true := by cases p <;> simp_all [roObj, AObj.alive]
    obtain ⟨h1, h2⟩ := h.obj i p l hl hp hpal
    exact ⟨h1, h2.ro⟩
  · intro i j o p l m _ ho _ hw
    rw [roH_wr ho] at hw; cases hw

/-- The realization of the first n objects. -/
def cutR (φ : Rz) (n : Nat) : Rz := fun i => if i < n then φ i else none

theorem cutR_lt {φ : Rz} {n i : Nat} (h : i < n) : cutR φ n i = φ i := by simp [cutR, h]
theorem cutR_ge {φ : Rz} {n i : Nat} (h : n ≤ i) : cutR φ n i = none := by simp [cutR, show ¬ i < n by omega]

theorem ext_cut {φ : Rz} {n m : Nat} (h : n ≤ m) : Ext (cutR φ n) (cutR φ m) := by
  intro i l hl
  by_cases hi : i < n
  · rw [cutR_lt hi] at hl
    exact ⟨l, by rw [cutR_lt (by omega)]; exact hl, .inl rfl⟩
  · rw [cutR_ge (by omega)] at hl; cases hl

theorem ext_cut_all {φ : Rz} {n : Nat} : Ext (cutR φ n) φ := by
  intro i l hl
  by_cases hi : i < n
  · rw [cutR_lt hi] at hl
    exact ⟨l, hl, .inl rfl⟩
  · rw [cutR_ge (by omega)] at hl; cases hl

theorem cutR_eq {φ : Rz} {n : Nat} (h : ∀ i, n ≤ i → φ i = none) : cutR φ n = φ := by
  funext i
  by_cases hi : i < n
  · rw [cutR_lt hi]
  · rw [cutR_ge (by omega), h i (by omega)]

theorem VRel.cut_of {φ φ' : Rz} {n : Nat} (h : ∀ i, i < n → φ' i = φ i) {v v' : Value} (hv : VRel (cutR φ n) v v') : VRel (cutR φ' n) v v' := by
  refine hv.mono fun i l hl => ?_
  by_cases hi : i < n
  · rw [cutR_lt hi] at hl
    exact ⟨l, by rw [cutR_lt hi, h i hi]; exact hl, .inl rfl⟩
  · rw [cutR_ge (by omega)] at hl; cases hl

/-- The objects of one heap, found again in a longer one, all of them realized the same way. -/
theorem ORel.cut {φ : Rz} {w : World} {l : Loc} {o : AObj} {n : Nat} (h : ORel (cutR φ n) w l o) : ORel φ w l o := h.mono ext_cut_all rfl

/-- Values in the objects point to realized places: the cut loses nothing that an earlier run has seen. -/
structure Closed (φ : Rz) (A : Hp) (w : World) (n : Nat) : Prop where
  obj : ∀ (i : Nat) (o : AObj) (l : Loc), i < n → φ i = some l → A[i]? = some o → o.alive = true → l.blk < w.heap.size ∧ ORel (cutR φ n) w l o

theorem HRel.grow {φ : Rz} {A : Hp} {w w' : World} (h : HRel φ A w) (hs : w.heap.size ≤ w'.heap.size) (hk : ∀ b, b < w.heap.size → w'.heap[b]? = w.heap[b]?) : HRel φ A w' := by
  refine ⟨h.dom, ?_, h.sep⟩
  intro i o l hl ho hal
  obtain ⟨h1, h2⟩ := h.obj i o l hl ho hal
  exact ⟨by omega, h2.mono (Ext.refl φ) (hk _ h1)⟩

/-- What an operation looks at. -/
theorem evs_congr {ev ev' : Operand → Option Value} : ∀ (xs : List Operand), (∀ x ∈ xs, ev x = ev' x) → evs ev xs = evs ev' xs
  | [], _ => rfl
  | x :: xs, h => by
    simp only [evs]
    rw [h x (by simp), evs_congr xs (fun y hy => h y (by simp [hy]))]

theorem evp_congr {ev ev' : Operand → Option Value} : ∀ (xs : List (Nat × Operand)), (∀ x ∈ xs, ev x.2 = ev' x.2) → evp ev xs = evp ev' xs
  | [], _ => rfl
  | (i, x) :: xs, h => by
    simp only [evp]
    rw [h (i, x) (by simp), evp_congr xs (fun y hy => h y (by simp [hy]))]

theorem evo_congr {ev ev' : Operand → Option Value} (x : Option Operand) (h : ∀ y, x = some y → ev y = ev' y) : evo ev x = evo ev' x := by
  cases x with
  | none => rfl
  | some y => simp only [evo]; rw [h y rfl]

theorem dOp_congr {E : List TypeId} {P : Program} {A : Hp} {ev ev' : Operand → Option Value} (o : Op) (h : ∀ x ∈ o.operands.toList, ev x = ev' x) : dOp E P ev A o = dOp E P ev' A o := by
  cases o with
  | move x => simp [dOp, h x (by simp [Op.operands])]
  | assign x => simp [dOp, h x (by simp [Op.operands])]
  | pick c a b => simp [dOp, h c (by simp [Op.operands]), h a (by simp [Op.operands]), h b (by simp [Op.operands])]
  | alloc t => rfl
  | box t x => simp [dOp, h x (by simp [Op.operands])]
  | build t ps => simp only [dOp]; rw [evp_congr ps.toList (fun y hy => h y.2 (by simp only [Op.operands]; exact List.mem_map.2 ⟨y, hy, rfl⟩))]
  | buildSlice t n ps => simp only [dOp]; rw [evp_congr ps.toList (fun y hy => h y.2 (by simp only [Op.operands]; exact List.mem_map.2 ⟨y, hy, rfl⟩))]
  | insert t m k v => rfl
  | load t a => simp [dOp, h a (by simp [Op.operands])]
  | store t a x => simp [dOp, h a (by simp [Op.operands]), h x (by simp [Op.operands])]
  | ready g => rfl
  | waits g => rfl
  | nilCheck x => simp [dOp, h x (by simp [Op.operands])]
  | binOp op t x y t' => simp [dOp, h x (by simp [Op.operands]), h y (by simp [Op.operands])]
  | unOp op t x => simp [dOp, h x (by simp [Op.operands])]
  | convert s d x => simp [dOp, h x (by simp [Op.operands])]
  | sliceToArrayPointer d x => rfl
  | makeInterface t x => simp [dOp, h x (by simp [Op.operands])]
  | makeFunc fn xs cs =>
    cases fn with
    | func f =>
      simp only [dOp]
      rw [evs_congr xs.toList (fun y hy => h y (by simp only [Op.operands, Array.toList_append]; exact List.mem_append.2 (.inl hy))),
        evs_congr cs.toList (fun y hy => h y (by simp only [Op.operands, Array.toList_append]; exact List.mem_append.2 (.inr hy)))]
    | _ => rfl
  | makeMap t r => cases r <;> rfl
  | makeChan t x => rfl
  | makeSlice t l c => simp [dOp, h l (by simp [Op.operands]), h c (by simp [Op.operands])]
  | slice t x lo hi mx =>
    simp only [dOp]
    rw [h x (by simp [Op.operands]), evo_congr lo (fun y hy => h y (by subst hy; simp [Op.operands])), evo_congr hi (fun y hy => h y (by subst hy; simp [Op.operands])),
      evo_congr mx (fun y hy => h y (by subst hy; simp [Op.operands]))]
  | fieldAddr t x f => simp [dOp, h x (by simp [Op.operands])]
  | field t x f => simp [dOp, h x (by simp [Op.operands])]
  | indexAddr t x i => simp [dOp, h x (by simp [Op.operands]), h i (by simp [Op.operands])]
  | index t x i => simp [dOp, h x (by simp [Op.operands]), h i (by simp [Op.operands])]
  | lookup t x i ok => simp [dOp, h x (by simp [Op.operands]), h i (by simp [Op.operands])]
  | mapUpdate t m k x => simp [dOp, h m (by simp [Op.operands]), h k (by simp [Op.operands]), h x (by simp [Op.operands])]
  | mapEntry t m k => rfl
  | entryStore t m s v => rfl
  | range t x => simp [dOp, h x (by simp [Op.operands])]
  | next i b => cases b <;> simp [dOp, h i (by simp [Op.operands])]
  | entry i => rfl
  | typeAssert x t a ok => rfl
  | extract t i => simp [dOp, h t (by simp [Op.operands])]
  | call c =>
    obtain ⟨cal, args, ts⟩ := c
    cases cal with
    | builtin b => simp only [dOp]; rw [evs_congr args.toList (fun y hy => h y (by simp only [Op.operands, Call.operands, Array.toList_append]; exact List.mem_append.2 (.inr hy)))]
    | _ => rfl
  | go c => rfl
  | defer c => rfl
  | panic x => rfl
  | send a b => rfl
  | recv t c ok => rfl
  | select cs b => rfl

theorem callee_congr {ev ev' : Operand → Option Value} (o : Op) (h : ∀ x ∈ o.operands.toList, ev x = ev' x) : callee ev o = callee ev' o := by
  cases o with
  | call c =>
    obtain ⟨cal, args, ts⟩ := c
    cases cal with
    | value f =>
      simp only [callee]
      rw [h f (by simp [Op.operands, Call.operands]), evs_congr args.toList (fun y hy => h y (by simp only [Op.operands, Call.operands, Array.toList_append]; exact List.mem_append.2 (.inr hy)))]
    | _ => rfl
  | _ => rfl

/-- Operations that do not look at memory. -/
def pureOp : Op → Bool
  | .move _ | .assign _ | .pick _ _ _ | .build _ _ | .binOp _ _ _ _ _ | .unOp _ _ _ | .convert _ _ _ | .makeFunc _ _ _ | .makeInterface _ _ | .extract _ _ | .field _ _ _ | .index _ _ _
  | .fieldAddr _ _ _ | .indexAddr _ _ _ | .nilCheck _ => true
  | .call { callee := .builtin .len, .. } | .call { callee := .builtin .min, .. } | .call { callee := .builtin .max, .. } => true
  | _ => false

theorem len_any {P : Program} (ts : List TypeId) (args : List Value) (A A' : Hp) : dBuiltin P .len ts args A = dBuiltin P .len ts args A' := by
  cases ts with
  | nil => rfl
  | cons t tl =>
    cases args with
    | nil => rfl
    | cons x r => cases r <;> rfl

theorem min_any {P : Program} (ts : List TypeId) (args : List Value) (A A' : Hp) : dBuiltin P .min ts args A = dBuiltin P .min ts args A' := by
  cases args <;> rfl

theorem max_any {P : Program} (ts : List TypeId) (args : List Value) (A A' : Hp) : dBuiltin P .max ts args A = dBuiltin P .max ts args A' := by
  cases args <;> rfl

theorem pure_any {E : List TypeId} {P : Program} {ev : Operand → Option Value} (o : Op) (h : pureOp o = true) (A A' : Hp) : dOp E P ev A o = dOp E P ev A' o := by
  cases o with
  | call c =>
    obtain ⟨cal, args, ts⟩ := c
    cases cal with
    | builtin b =>
      cases b <;> first
        | (simp [pureOp] at h; done)
        | (simp only [dOp]; congr 1; funext vs; first | exact len_any _ _ _ _ | exact min_any _ _ _ _ | exact max_any _ _ _ _)
    | _ => simp [pureOp] at h
  | makeFunc fn xs cs => cases fn <;> rfl
  | _ => first | (simp [pureOp] at h; done) | rfl

theorem len_keep {P : Program} {ts : List TypeId} {args : List Value} {A : Hp} {v : Value} {u : Upd} (h : dBuiltin P .len ts args A = some (v, u)) : u = .keep := by
  cases ts with
  | nil => cases h
  | cons t tl =>
    cases args with
    | nil => cases h
    | cons x r =>
      cases r with
      | nil =>
        simp only [dBuiltin] at h
        split at h <;> cases h <;> rfl
      | cons _ _ => cases h

theorem min_keep {P : Program} {ts : List TypeId} {args : List Value} {A : Hp} {v : Value} {u : Upd} (h : dBuiltin P .min ts args A = some (v, u)) : u = .keep := by
  cases args with
  | nil => cases h
  | cons x r => simp only [dBuiltin, Option.map_eq_some_iff] at h; obtain ⟨_, _, h⟩ := h; cases h; rfl

theorem max_keep {P : Program} {ts : List TypeId} {args : List Value} {A : Hp} {v : Value} {u : Upd} (h : dBuiltin P .max ts args A = some (v, u)) : u = .keep := by
  cases args with
  | nil => cases h
  | cons x r => simp only [dBuiltin, Option.map_eq_some_iff] at h; obtain ⟨_, _, h⟩ := h; cases h; rfl

theorem pure_keep {E : List TypeId} {P : Program} {ev : Operand → Option Value} {A : Hp} (o : Op) (h : pureOp o = true) {v : Value} {u : Upd} (hd : dOp E P ev A o = some (v, u)) : u = .keep := by
  cases o with
  | move x => simp only [dOp, Option.map_eq_some_iff] at hd; obtain ⟨_, _, hd⟩ := hd; cases hd; rfl
  | assign x => simp only [dOp, Option.map_eq_some_iff] at hd; obtain ⟨_, _, hd⟩ := hd; cases hd; rfl
  | pick c a b =>
    simp only [dOp, Option.bind_eq_some_iff] at hd
    obtain ⟨_, _, hd⟩ := hd
    split at hd
    · simp only [Option.map_eq_some_iff] at hd; obtain ⟨_, _, hd⟩ := hd; cases hd; rfl
    · simp only [Option.map_eq_some_iff] at hd; obtain ⟨_, _, hd⟩ := hd; cases hd; rfl
    · cases hd
  | build t ps => simp only [dOp, Option.bind_eq_some_iff, Option.map_eq_some_iff] at hd; obtain ⟨_, _, _, _, hd⟩ := hd; cases hd; rfl
  | binOp op t x y t' => simp only [dOp, Option.bind_eq_some_iff, Option.map_eq_some_iff] at hd; obtain ⟨_, _, _, _, _, _, hd⟩ := hd; cases hd; rfl
  | unOp op t x => simp only [dOp, Option.bind_eq_some_iff, Option.map_eq_some_iff] at hd; obtain ⟨_, _, _, _, hd⟩ := hd; cases hd; rfl
  | convert s d x => simp only [dOp, Option.bind_eq_some_iff, Option.map_eq_some_iff] at hd; obtain ⟨_, _, _, _, hd⟩ := hd; cases hd; rfl
  | makeFunc fn xs cs =>
    cases fn with
    | func f => simp only [dOp, Option.bind_eq_some_iff, Option.map_eq_some_iff] at hd; obtain ⟨_, _, _, _, hd⟩ := hd; cases hd; rfl
    | _ => cases hd
  | makeInterface t x =>
    simp only [dOp, Option.bind_eq_some_iff] at hd
    obtain ⟨_, _, hd⟩ := hd
    split at hd <;> cases hd
    rfl
  | extract t i =>
    simp only [dOp, Option.bind_eq_some_iff] at hd
    obtain ⟨_, _, hd⟩ := hd
    split at hd
    · simp only [Option.map_eq_some_iff] at hd; obtain ⟨_, _, hd⟩ := hd; cases hd; rfl
    · cases hd
  | field t x f =>
    simp only [dOp, Option.bind_eq_some_iff] at hd
    obtain ⟨_, _, hd⟩ := hd
    split at hd
    · split at hd
      · simp only [Option.map_eq_some_iff] at hd; obtain ⟨_, _, hd⟩ := hd; cases hd; rfl
      · cases hd
    · cases hd
  | index t x i =>
    simp only [dOp, Option.bind_eq_some_iff] at hd
    obtain ⟨_, _, _, _, hd⟩ := hd
    split at hd
    · split at hd
      · simp only [Option.bind_eq_some_iff, Option.map_eq_some_iff] at hd; obtain ⟨_, _, _, _, hd⟩ := hd; cases hd; rfl
      · cases hd
    · split at hd
      · simp only [Option.map_eq_some_iff] at hd; obtain ⟨_, _, hd⟩ := hd; cases hd; rfl
      · cases hd
    · cases hd
  | fieldAddr t x f =>
    simp only [dOp, Option.bind_eq_some_iff] at hd
    obtain ⟨_, _, hd⟩ := hd
    split at hd
    · split at hd
      · split at hd
        · cases hd; rfl
        · cases hd
      · cases hd
    · cases hd
  | indexAddr t x i =>
    simp only [dOp, Option.bind_eq_some_iff] at hd
    obtain ⟨_, _, _, _, hd⟩ := hd
    split at hd
    · split at hd
      · simp only [Option.map_eq_some_iff] at hd; obtain ⟨_, _, hd⟩ := hd; cases hd; rfl
      · cases hd
    · split at hd
      · simp only [Option.map_eq_some_iff] at hd; obtain ⟨_, _, hd⟩ := hd; cases hd; rfl
      · cases hd
    · cases hd
  | nilCheck x =>
    simp only [dOp, Option.bind_eq_some_iff] at hd
    obtain ⟨_, _, hd⟩ := hd
    unfold dNil at hd
    split at hd <;> cases hd <;> rfl
  | call c =>
    obtain ⟨cal, args, ts⟩ := c
    cases cal with
    | builtin b =>
      cases b <;> first
        | (simp [pureOp] at h; done)
        | (simp only [dOp, Option.bind_eq_some_iff] at hd
           obtain ⟨_, _, hd⟩ := hd
           first | exact len_keep hd | exact min_keep hd | exact max_keep hd)
    | _ => simp [pureOp] at h
  | _ => simp [pureOp] at h

end Go.Dx
end

section
/- The data layer: an operation that writes nothing does the same where nothing may be written. -/
namespace Go.Dx

def Upd.quiet : Upd → Bool
  | .set _ _ => false
  | .new o => o.wr
  | .keep => true

theorem roH_at (A : Hp) (i : Nat) : (roH A)[i]? = (A[i]?).map roObj := by simp [roH]

theorem rd_ro (A : Hp) (a : Addr) (n : Nat) : rd (roH A) a n = rd A a n := by
  unfold rd
  split
  · rename_i i off v
    rw [roH_at]
    cases A[i]? with
    | none => rfl
    | some o => cases o <;> rfl
  · rfl

theorem rdFirst_ro (A : Hp) (sz n : Nat) (v : Value) : rdFirst (roH A) sz n v = rdFirst A sz n v := by
  unfold rdFirst
  split <;> first | rfl | rw [rd_ro]

theorem dSlice_ro (P : Program) (A : Hp) (t : TypeId) (x : Value) (lo hi mx : Option Value) : dSlice P (roH A) t x lo hi mx = dSlice P A t x lo hi mx := by
  unfold dSlice
  split
  · rfl
  · congr 1; funext sz; congr 1; funext m; congr 1; funext h; congr 1; funext l
    split
    · rfl
    · rename_i i off v
      rw [roH_at]
      cases A[i]? with
      | none => rfl
      | some o => cases o <;> rfl
    · rfl
  · rfl

theorem wrt_set {A : Hp} {a : Addr} {vs : List Value} {u : Upd} (h : wrt A a vs = some u) : u.quiet = false := by
  unfold wrt at h
  split at h
  · split at h
    · split at h
      · cases h; rfl
      · cases h
    · cases h
  · cases h

theorem dAppend_ro {A : Hp} {sz bytes n : Nat} {s : Value} {vs : List Value} {v : Value} {u : Upd} (h : dAppend A sz bytes s vs n = some (v, u)) (hq : u.quiet = true) : dAppend (roH A) sz bytes s vs n = some (v, u) := by
  unfold dAppend at h ⊢
  split at h
  · rw [roH_length]; exact h
  · rename_i i off ver len cap
    split at h
    · rename_i hfit
      rw [if_pos hfit]
      split at h
      · rename_i h0; rw [if_pos h0]; exact h
      · simp only [Option.map_eq_some_iff] at h
        obtain ⟨u', hw, he⟩ := h
        cases he
        rw [wrt_set hw] at hq; cases hq
    · rename_i hfit
      rw [if_neg hfit, roH_at]
      split at h
      · rename_i b hb
        rw [hb]
        simp only [Option.map_some, roObj]
        split at h
        · rename_i hc
          rw [if_pos hc]
          split at h
          · rename_i hx; rw [if_pos hx, roH_length]; exact h
          · split at h
            · cases h; cases hq
            · cases h
        · cases h
      · cases h
  · cases h

theorem builtin_ro {P : Program} {b : Builtin} {ts : List TypeId} {args : List Value} {A : Hp} {v : Value} {u : Upd} (h : dBuiltin P b ts args A = some (v, u)) (hq : u.quiet = true) : dBuiltin P b ts args (roH A) = some (v, u) := by
  cases b with
  | len => rw [len_any ts args (roH A) A]; exact h
  | min => rw [min_any ts args (roH A) A]; exact h
  | max => rw [max_any ts args (roH A) A]; exact h
  | cap =>
    cases ts with
    | nil => cases h
    | cons t tl =>
      cases args with
      | nil => cases h
      | cons x r =>
        cases r with
        | cons _ _ => cases h
        | nil =>
          simp only [dBuiltin] at h ⊢
          split at h
          · exact h
          · rename_i i off ver n c hu
            simp only [roH_at]
            split at h
            · rename_i b hb; simp only [hb, Option.map_some, roObj]; exact h
            · cases h
          · cases h
  | append =>
    match ts, args, h with
    | [t, t'], [s, x], h =>
      simp only [dBuiltin] at h ⊢
      split at h
      · rename_i e e' hu hu'
        split at h
        · rename_i hee
          rw [if_pos hee]
          split at h
          · rename_i ie xa xl xc hi
            split at h
            · rename_i z hz
              split at h
              · rename_i hzl
                rw [if_pos hzl, rdFirst_ro]
                simp only [Option.bind_eq_some_iff] at h ⊢
                obtain ⟨vs, hv, h⟩ := h
                exact ⟨vs, hv, dAppend_ro h hq⟩
              · cases h
            · cases h
          · cases h
        · cases h
      · cases h
  | copy =>
    match ts, args, h with
    | [t, t'], [d, x], h =>
      simp only [dBuiltin] at h ⊢
      split at h
      · rename_i e e' hu hu'
        split at h
        · rename_i ie da dl dc xa xl xc hi
          split at h
          · rename_i hee
            rw [if_pos hee]
            unfold dCopy at h ⊢
            split at h
            · rename_i h0; rw [if_pos h0]; exact h
            · split at h
              · simp only [Option.bind_eq_some_iff, Option.map_eq_some_iff] at h
                obtain ⟨vs, hv, u', hw, he⟩ := h
                cases he
                rw [wrt_set hw] at hq; cases hq
              · cases h
          · cases h
        · cases h
      · cases h
  | clear =>
    match ts, args, h with
    | [t], [x], h =>
      simp only [dBuiltin] at h ⊢
      split at h
      · exact h
      · simp only [Option.bind_eq_some_iff] at h
        obtain ⟨z, hz, h⟩ := h
        split at h
        · simp only [Option.map_eq_some_iff] at h
          obtain ⟨u', hw, he⟩ := h
          cases he
          rw [wrt_set hw] at hq; cases hq
        · cases h
      · cases h
  | _ => cases h

def isNext : Op → Bool
  | .next _ _ => true
  | _ => false

theorem dOp_ro {E : List TypeId} {P : Program} {ev : Operand → Option Value} {A : Hp} (o : Op) {v : Value} {u : Upd} (h : dOp E P ev A o = some (v, u)) (hq : u.quiet = true) (hn : isNext o = false) : dOp E P ev (roH A) o = some (v, u) := by
  by_cases hp : pureOp o = true
  · rw [pure_any o hp (roH A) A]; exact h
  · cases o with
    | alloc t => simp only [dOp, roH_length] at h ⊢; exact h
    | box t x => simp only [dOp, roH_length] at h ⊢; exact h
    | buildSlice t n ps => simp only [dOp, roH_length] at h ⊢; exact h
    | makeMap t r => cases r with
      | none => simp only [dOp, roH_length] at h ⊢; exact h
      | some _ => cases h
    | makeSlice t l c => simp only [dOp, roH_length] at h ⊢; exact h
    | range t x => simp only [dOp, roH_length] at h ⊢; exact h
    | load t a =>
      simp only [dOp] at h ⊢
      simp only [rd_ro]
      exact h
    | slice t x lo hi mx =>
      simp only [dOp] at h ⊢
      simp only [dSlice_ro]
      exact h
    | store t a x =>
      simp only [dOp, Option.bind_eq_some_iff] at h
      obtain ⟨_, _, _, _, h⟩ := h
      split at h
      · split at h
        · split at h
          · simp only [Option.map_eq_some_iff] at h
            obtain ⟨u', hw, he⟩ := h
            cases he
            rw [wrt_set hw] at hq; cases hq
          · cases h
        · cases h
      · cases h
    | lookup t x ix ok =>
      simp only [dOp, Option.bind_eq_some_iff] at h ⊢
      obtain ⟨xv, hx, kv, hk, h⟩ := h
      refine ⟨xv, hx, kv, hk, ?_⟩
      split at h
      · rename_i kt et i hu
        simp only [roH_at]
        split at h
        · rename_i es rr hm hkt
          simp only [hm, hkt, Option.map_some, roObj]
          exact h
        · cases h
      · cases h
    | mapUpdate t m k x =>
      simp only [dOp, Option.bind_eq_some_iff] at h
      obtain ⟨_, _, _, _, _, _, h⟩ := h
      split at h
      · split at h
        · split at h
          · simp only [Option.map_eq_some_iff] at h
            obtain ⟨u', hw, he⟩ := h
            cases he
            cases hq
          · cases h
        · cases h
      · cases h
    | call c =>
      obtain ⟨cal, args, ts⟩ := c
      cases cal with
      | builtin b =>
        simp only [dOp, Option.bind_eq_some_iff] at h ⊢
        obtain ⟨vs, hv, h⟩ := h
        exact ⟨vs, hv, builtin_ro h hq⟩
      | _ => cases h
    | next i b => cases hn
    | makeFunc fn xs cs => simp [pureOp] at hp
    | _ => first | (cases h; done) | (exact absurd rfl hp)

end Go.Dx
end

