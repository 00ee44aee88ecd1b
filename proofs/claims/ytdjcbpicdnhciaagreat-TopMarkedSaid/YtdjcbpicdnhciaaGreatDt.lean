/- The data layer: a region whose order is open, the way through all its orders. -/
import Derived.Test.YtdjcbpicdnhciaaGreatDs
set_option linter.unusedVariables false
set_option linter.unusedSimpArgs false
namespace Go.Dx

section
variable {P : Program} {E : List TypeId} {ops : Array Oper} {s0 : St} {c : Nat} {T : Nat → List Value} {H : Nat → Hp} {V : Nat → Value} {X : Nat → Bool} {k : Nat} {o : Oper}
  {φ0 φ : Rz} {w0 w : World} {a : Act} {Pn : Pend}

structure Head (ops : Array Oper) (s0 : St) (c : Nat) (Pn : Pend) (H : Nat → Hp) (V : Nat → Value) (φ0 : Rz) (w0 : World) (X : Nat → Bool) (φ : Rz) (a : Act) (w : World) : Prop where
  low : ∀ k o, ops[k]? = some o → c ≤ k → pureOp o.op = false → X k = false
  heap : ∀ m, m ≤ c → HRel (cutR φ (H m).length) (adj Pn X m (H m)) w
  nope : ∀ k, k < c → X k = false → ∀ i, (H k).length ≤ i → i < (H (k + 1)).length → φ i = none
  top : ∀ i, (H c).length ≤ i → φ i = none
  size : s0.t.length = a.tmps.size
  tmps : ∀ (d : Tmp) v v', (tX ops V X s0.t ops.size)[d]? = some v → a.tmps[d]? = some v' → VRel (cutR φ (bX ops (fun i => (H (min i c)).length) X d ops.size)) v v'
  defers : a.defers = []
  fr : Fr φ0 s0.A w0 φ (H c) w
  old : ∀ i, i < (H 0).length → φ i = φ0 i

structure Tail (ops : Array Oper) (s0 : St) (c : Nat) (H : Nat → Hp) (V : Nat → Value) (φ0 : Rz) (w0 : World) (m : Nat) (X : Nat → Bool) (φ : Rz) (a : Act) (w : World) : Prop where
  cm : c ≤ m
  le : m ≤ ops.size
  done : ∀ k o, ops[k]? = some o → pureOp o.op = false → (X k = true ↔ k < m)
  heap : HRel φ (H m) w
  size : s0.t.length = a.tmps.size
  tmps : ∀ (d : Tmp) v v', (tX ops V X s0.t ops.size)[d]? = some v → a.tmps[d]? = some v' → VRel φ v v'
  defers : a.defers = []
  fr : Fr φ0 s0.A w0 φ (H m) w

theorem tmps_step (hS : StaticOK ops c) (h : Ready ops X k) (ho : ops[k]? = some o) (hz : s0.t.length = a.tmps.size) {F F' : Tmp → Rz} {v' : Value}
    (hF : ∀ d, o.dst ≠ some d → Ext (F d) (F' d)) (hv : ∀ d, o.dst = some d → VRel (F' d) (V k) v')
    (ht : ∀ (d : Tmp) v v', (tX ops V X s0.t ops.size)[d]? = some v → a.tmps[d]? = some v' → VRel (F d) v v') :
    ∀ (d : Tmp) v v2, (tX ops V (addX X k) s0.t ops.size)[d]? = some v → (a.put o.dst v').tmps[d]? = some v2 → VRel (F' d) v v2 := by
  intro d v v2 h1 h2
  rw [h.put hS ho] at h1
  rw [put_tmps, ← hz] at h2
  by_cases hd : o.dst = some d
  · by_cases hlt : d < s0.t.length
    · rw [if_pos ⟨hd, hlt⟩] at h1 h2
      cases h1; cases h2
      exact hv d hd
    · rw [if_neg (fun hh => hlt hh.2), List.getElem?_eq_none (by rw [tX_length]; exact Nat.not_lt.1 hlt)] at h1
      cases h1
  · rw [if_neg (fun hh => hd hh.1)] at h1 h2
    exact (ht d v v2 h1 h2).mono (hF d hd)

theorem Trace.heap_get (hT : Trace E P ops s0 c Pn T H V) (hc : c ≤ ops.size) {m n : Nat} (hmn : m ≤ n) (hn : n ≤ c) : ∃ r, H n = H m ++ r := by
  induction n with
  | zero =>
    have : m = 0 := by omega
    subst this
    exact ⟨[], by simp⟩
  | succ n ih =>
    by_cases h : m = n + 1
    · exact ⟨[], by subst h; simp⟩
    · obtain ⟨r, hr⟩ := ih (by omega) (by omega)
      obtain ⟨new, h1, _⟩ := hT.grows (k := n) (o := ops[n]'(by omega)) (by simp [show n < ops.size by omega]) (by omega)
      exact ⟨r ++ new, by rw [h1, hr, List.append_assoc]⟩

theorem Head.start (hT : Trace E P ops s0 c Pn T H V) (hc : c ≤ ops.size) (hr : Rel φ s0 a w) : Head ops s0 c Pn H V φ w (fun _ => false) φ a w := by
  have hA := hT.h0
  have hAl : (H 0).length = s0.A.length := by rw [← hA, adj_len]
  have hdom : ∀ i, (H 0).length ≤ i → φ i = none := fun i hi => hr.heap.dom i (by rw [← hAl]; exact hi)
  have hlen : ∀ m, m ≤ c → (H 0).length ≤ (H m).length := fun m hm => by
    obtain ⟨r, e⟩ := hT.heap_get hc (Nat.zero_le m) hm
    rw [e]; simp
  have get0 : ∀ m, m ≤ c → ∀ (i : Nat) (l : Loc), φ i = some l → (adj Pn (fun _ => false) m (H m))[i]? = s0.A[i]? := by
    intro m hm i l hl
    obtain ⟨r, e⟩ := hT.heap_get hc (Nat.zero_le m) hm
    have hi : i < (H 0).length := by
      rcases Nat.lt_or_ge i (H 0).length with h | h
      · exact h
      · rw [hdom i h] at hl; cases hl
    rw [← hA, adj_get, adj_get, e, List.getElem?_append_left hi]
    rfl
  have heap : ∀ m, m ≤ c → HRel φ (adj Pn (fun _ => false) m (H m)) w := by
    intro m hm
    refine ⟨fun i hi => hdom i (Nat.le_trans (hlen m hm) (by rw [adj_len] at hi; exact hi)), ?_, ?_⟩
    · intro i o l hl ho hal
      exact hr.heap.obj i o l hl (by rw [← get0 m hm i l hl]; exact ho) hal
    · intro i j o p l n hij hi hj hw hal hl hn
      exact hr.heap.sep i j o p l n hij (by rw [← get0 m hm i l hl]; exact hi) (by rw [← get0 m hm j n hn]; exact hj) hw hal hl hn
  refine ⟨fun _ _ _ _ _ => rfl, ?_, ?_, ?_, ?_, ?_, hr.defers, ?_, fun _ _ => rfl⟩
  · intro m hm
    rw [cutR_eq (fun i hi => hdom i (Nat.le_trans (hlen m hm) hi))]
    exact heap m hm
  · intro k hk _ i hi _
    exact hdom i (Nat.le_trans (hlen k (by omega)) hi)
  · intro i hi
    exact hdom i (Nat.le_trans (hlen c (Nat.le_refl _)) hi)
  · simpa using hr.tmps.1
  · intro d v v' h1 h2
    have e1 : tX ops V (fun _ => false) s0.t ops.size = s0.t := by
      have : ∀ m, tX ops V (fun _ => false) s0.t m = s0.t := by
        intro m
        induction m with
        | zero => rfl
        | succ m ih => simp only [tX, Bool.false_eq_true, if_false]; split <;> exact ih
      exact this _
    rw [e1] at h1
    have e2 : bX ops (fun i => (H (min i c)).length) (fun _ => false) d ops.size = (H 0).length := by
      have : ∀ m, bX ops (fun i => (H (min i c)).length) (fun _ => false) d m = (H 0).length := by
        intro m
        induction m with
        | zero => simp [bX]
        | succ m ih => simp only [bX, Bool.false_eq_true, false_and, if_false]; split <;> exact ih
      exact this _
    rw [e2, cutR_eq hdom]
    obtain ⟨y, hy, hxy⟩ := hr.tmps.get h1
    simp only [Array.getElem?_toList, h2] at hy
    cases hy
    exact hxy
  · have wr0 : ∀ (i : Nat) (o : AObj), i < (H 0).length → (H c)[i]? = some o → ∃ o', s0.A[i]? = some o' ∧ o'.wr = o.wr := by
      intro i o hi ho
      obtain ⟨r, e⟩ := hT.heap_get hc (Nat.zero_le c) (Nat.le_refl _)
      rw [e, List.getElem?_append_left hi] at ho
      rw [← hA, adj_get, ho]
      cases hp : Pn i with
      | none => exact ⟨o, rfl, rfl⟩
      | some kz =>
        obtain ⟨k, z⟩ := kz
        obtain ⟨hk, _, bz, bx, _, hz, hx, h1, h2, _⟩ := hT.store i k z hp
        obtain ⟨r2, e2⟩ := hT.heap_get hc (Nat.zero_le k) (by omega)
        rw [e2, List.getElem?_append_left hi, ho] at hx
        cases hx
        refine ⟨z, rfl, ?_⟩
        rw [hz]; simp [AObj.wr, h1, h2]
    refine ⟨Nat.le_refl _, by rw [← hAl]; exact hlen c (Nat.le_refl _), fun _ _ _ => rfl, ?_, fun _ _ _ => rfl, Ext.refl _, ?_, rfl, rfl, rfl⟩
    · intro i o l h1 h2 h3 h4
      have hi : i < (H 0).length := by
        rcases Nat.lt_or_ge i (H 0).length with h | h
        · exact h
        · rw [hdom i h] at h3; cases h3
      obtain ⟨o', g1, g2⟩ := wr0 i o hi h1
      exact ⟨i, o', l, g1, by rw [g2]; exact h2, h3, rfl⟩
    · intro i hi hn o ho
      obtain ⟨o', g1, g2⟩ := wr0 i o (by rw [hAl]; exact hi) ho
      rw [← g2]; exact hn o' g1

/-- Behind an operation that is no store of the head, the heap stands as it did. -/
theorem adj_add {Pn : Pend} (hst : ∀ i z, Pn i ≠ some (k, z)) (m : Nat) (A : Hp) : adj Pn (addX X k) m A = adj Pn X m A := by
  apply List.ext_getElem?
  intro i
  rw [adj_get, adj_get]
  cases hp : Pn i with
  | none => rfl
  | some kz =>
    obtain ⟨k', z⟩ := kz
    have : k' ≠ k := fun h => by subst h; exact hst i z hp
    simp only [addX, if_neg this]

theorem HRel.hid {Pn : Pend} {A : Hp} {ψ : Rz} {m : Nat} (h : HRel ψ (adj Pn X m A) w) : HRel ψ (roH (hid Pn A)) w := by
  refine ⟨fun i hi => h.dom i (by rw [adj_len]; rw [roH_length, hid_len] at hi; exact hi), ?_, ?_⟩
  · intro i o l hl ho hal
    rw [roH_at, hid_get] at ho
    cases hx : A[i]? with
    | none => rw [hx] at ho; cases ho
    | some x =>
      rw [hx] at ho
      cases hp : Pn i with
      | some kz => rw [hp] at ho; cases ho; cases hal
      | none =>
        rw [hp] at ho
        simp only [Option.map_some, Option.some.injEq] at ho
        subst ho
        have hal2 : x.alive = true := by cases x <;> simp_all [roObj, AObj.alive]
        obtain ⟨h1, h2⟩ := h.obj i x l hl (by rw [adj_get, hx, hp]; rfl) hal2
        exact ⟨h1, h2.ro⟩
  · intro i j o p l m' _ ho _ hw _ _ _
    rw [roH_wr ho] at hw; cases hw

/-- One quiet step. -/
theorem Head.step (hEnv : Env P E) (hS : StaticOK ops c) (hT : Trace E P ops s0 c Pn T H V) (hr : Ready ops X k) (ho : ops[k]? = some o) (hk : k < c ∨ pureOp o.op = true) (hst : ∀ i z, Pn i ≠ some (k, z))
    (h : Head ops s0 c Pn H V φ0 w0 X φ a w) {K : Act → World → Prop} {Q : Exit → Act → World → Prop}
    (hn : ∀ φ' a' w', Head ops s0 c Pn H V φ0 w0 (addX X k) φ' a' w' → K a' w') : wpOp P ops Q k K a w := by
  have hks : k < ops.size := by simpa using (Array.getElem?_eq_some_iff.1 ho).1
  have hc := hS.cut
  have hlens := hT.lens hc
  have hkk : min k c ≤ c := Nat.min_le_right _ _
  have hH := (h.heap (min k c) hkk).hid
  refine step_gen hEnv hH (t := T k) ?_ ?_ ho (hT.sd_quiet ho hk hst) fun φ' v v' A' w' hR hv hH' hf => hn (fun i => if (H (min k c)).length ≤ i ∧ i < (H (min (k + 1) c)).length then φ' i else φ i) _ w' ?_
  · rw [← hT.t_eq k (by omega), tX_length]; exact h.size
  · intro d hd v v' h1 h2
    rw [← hr.look hS hT ho hd] at h1
    exact (h.tmps d v v' h1 h2).mono (ext_cut (hr.lookb hS hlens ho hd))
  · obtain ⟨rfl, hle, hsame, ⟨rg, hnew⟩, hdrop, hwr⟩ := hR
    generalize hn0 : (H (min k c)).length = n0 at *
    generalize hn1 : (H (min (k + 1) c)).length = n1 at *
    have hn01 : n0 ≤ n1 := by rw [← hn0, ← hn1]; exact hlens k
    have hA'l : A'.length = n1 := hsame
    -- what the step has left as it was
    have hro : ∀ i, i < n0 → φ' i = cutR φ n0 i := fun i hi => hf.phi i (by rw [roH_length, hid_len, hn0]; exact hi) (fun o ho => roH_wr ho)
    have hmem : ∀ b, b < w.heap.size → w'.heap[b]? = w.heap[b]? := fun b hb => hf.keep b hb (fun i o l h1 h2 => by rw [roH_wr h1] at h2; cases h2)
    have hdom : ∀ i, n1 ≤ i → φ' i = none := fun i hi => hH'.dom i (by omega)
    have hnone : ∀ i, n0 ≤ i → i < n1 → φ i = none := by
      intro i h1 h2
      rcases Nat.lt_or_ge k c with hkc | hkc
      · refine h.nope k hkc hr.not i ?_ ?_
        · rw [Nat.min_eq_left (by omega)] at hn0; omega
        · rw [Nat.min_eq_left (by omega)] at hn1; omega
      · rw [Nat.min_eq_right hkc] at hn0
        rw [Nat.min_eq_right (by omega)] at hn1
        omega
    -- new objects
    have hgetn : ∀ i, n0 ≤ i → ∀ m, m ≤ c → n1 ≤ (H m).length → ∀ x, i < n1 → (adj Pn X m (H m))[i]? = some x → A'[i]? = some x ∧ (x.alive = true → x.wr = true) := by
      intro i hi m hm hm2 x hi1 hx
      have hpre : ∃ r, H m = H (min (k + 1) c) ++ r ∨ n0 = n1 := by
        by_cases hkc : k < c
        · rcases Nat.lt_or_ge m (k + 1) with hmk | hmk
          · refine ⟨[], .inr ?_⟩
            obtain ⟨r, e⟩ := hT.heap_get hc (show m ≤ k by omega) (by omega)
            have := congrArg List.length e
            rw [List.length_append] at this
            rw [Nat.min_eq_left (by omega)] at hn0
            omega
          · obtain ⟨r, e⟩ := hT.heap_get hc hmk hm
            exact ⟨r, .inl (by rw [Nat.min_eq_left (by omega)]; exact e)⟩
        · refine ⟨[], .inr ?_⟩
          rw [Nat.min_eq_right (by omega)] at hn0 hn1
          omega
      obtain ⟨r, hp | hp⟩ := hpre
      · have hnot : ∀ k' z, Pn i = some (k', z) → X k' = false := by
          intro k' z hpk
          have hkc : k < c := by
            rcases Nat.lt_or_ge k c with h1 | h1
            · exact h1
            · rw [Nat.min_eq_right h1] at hn0
              rw [Nat.min_eq_right (by omega)] at hn1
              omega
          rw [Nat.min_eq_left (by omega)] at hn0 hn1
          have hd := hT.fresh i k' z hpk k hkc (by omega) (by omega)
          cases hxk : X k' with
          | false => rfl
          | true => have := hr.down.dep hd hxk; rw [hr.not] at this; cases this
        have hx2 : (adj Pn (fun _ => false) 0 (H (min (k + 1) c)))[i]? = some x := by
          rw [adj_get, hp, List.getElem?_append_left (by omega)] at hx
          rw [adj_get, ← hx]
          cases hpi : Pn i with
          | none => rfl
          | some kz =>
            obtain ⟨k', z⟩ := kz
            simp only [hnot k' z hpi]
            rfl
        have hx3 : A'[i]? = some x := by
          have e1 : (A'.drop n0)[i - n0]? = A'[i]? := by rw [List.getElem?_drop]; congr 1; omega
          rw [← e1, hdrop, List.getElem?_drop, ← hx2]; congr 1; omega
        refine ⟨hx3, fun hal => hwr x ?_ hal⟩
        refine List.mem_of_getElem? (i := i - n0) ?_
        rw [List.getElem?_drop, ← hx3]; congr 1; omega
      · omega
    have hgeto : ∀ (m : Nat) (i : Nat), ¬ (n0 ≤ i ∧ i < n1) → (if n0 ≤ i ∧ i < n1 then φ' i else φ i) = φ i := fun m i hi => if_neg hi
    have hext0 : Ext φ (fun i => if n0 ≤ i ∧ i < n1 then φ' i else φ i) := by
      intro i l hl
      refine ⟨l, ?_, .inl rfl⟩
      by_cases hi : n0 ≤ i ∧ i < n1
      · rw [hnone i hi.1 hi.2] at hl; cases hl
      · simp only; rw [if_neg hi]; exact hl
    have hextc : ∀ n, Ext (cutR φ n) (cutR (fun i => if n0 ≤ i ∧ i < n1 then φ' i else φ i) n) := by
      intro n i l hl
      by_cases hi : i < n
      · rw [cutR_lt hi] at hl ⊢
        exact hext0 i l hl
      · rw [cutR_ge (by omega)] at hl; cases hl
    have hextn : ∀ n, n1 ≤ n → Ext φ' (cutR (fun i => if n0 ≤ i ∧ i < n1 then φ' i else φ i) n) := by
      intro n hn i l hl
      refine ⟨l, ?_, .inl rfl⟩
      by_cases hi1 : i < n1
      · rw [cutR_lt (by omega)]
        by_cases hi0 : n0 ≤ i
        · rw [if_pos ⟨hi0, hi1⟩]; exact hl
        · rw [if_neg (by omega)]
          rw [hro i (by omega), cutR_lt (by omega)] at hl
          exact hl
      · rw [hdom i (by omega)] at hl; cases hl
    have hfresh : ∀ i x l, n0 ≤ i → A'[i]? = some x → x.wr = true → φ' i = some l → w.heap.size ≤ l.blk := by
      intro i x l hi hx hw hl
      rcases Nat.lt_or_ge l.blk w.heap.size with hb | hb
      · obtain ⟨j, p, m, h1, h2, _⟩ := hf.wr i x l hx hw hl hb
        rw [roH_wr h1] at h2; cases h2
      · exact hb
    constructor
    · -- low
      intro j oj hj hcj hp
      simp only [addX]
      split
      · rename_i he; subst he
        rw [ho] at hj; cases hj
        rcases hk with h1 | h1
        · omega
        · rw [h1] at hp; cases hp
      · exact h.low j oj hj hcj hp
    · -- heap
      intro m hm
      rw [adj_add hst]
      have hm0 := h.heap m hm
      by_cases hmn : n1 ≤ (H m).length
      · refine ⟨fun i hi => cutR_ge (by rw [adj_len] at hi; exact hi), ?_, ?_⟩
        · intro i x l hl hx hal
          have hi : i < (H m).length := by have := (List.getElem?_eq_some_iff.1 hx).1; rw [adj_len] at this; exact this
          rw [cutR_lt hi] at hl
          by_cases hin : n0 ≤ i ∧ i < n1
          · rw [if_pos hin] at hl
            obtain ⟨h1, _⟩ := hgetn i hin.1 m hm hmn x hin.2 hx
            obtain ⟨h2, h3⟩ := hH'.obj i x l hl h1 hal
            exact ⟨h2, h3.mono (hextn _ hmn) rfl⟩
          · rw [if_neg hin] at hl
            obtain ⟨h2, h3⟩ := hm0.obj i x l (by rw [cutR_lt hi]; exact hl) hx hal
            exact ⟨Nat.lt_of_lt_of_le h2 hf.size, h3.mono (hextc _) (hmem _ h2)⟩
        · intro i j x p l q hij hx hp hw hal hl hq
          have hi : i < (H m).length := by have := (List.getElem?_eq_some_iff.1 hx).1; rw [adj_len] at this; exact this
          have hj : j < (H m).length := by have := (List.getElem?_eq_some_iff.1 hp).1; rw [adj_len] at this; exact this
          rw [cutR_lt hi] at hl
          rw [cutR_lt hj] at hq
          by_cases hin : n0 ≤ i ∧ i < n1
          · rw [if_pos hin] at hl
            obtain ⟨h1, _⟩ := hgetn i hin.1 m hm hmn x hin.2 hx
            by_cases hjn : n0 ≤ j ∧ j < n1
            · rw [if_pos hjn] at hq
              obtain ⟨h2, _⟩ := hgetn j hjn.1 m hm hmn p hjn.2 hp
              exact hH'.sep i j x p l q hij h1 h2 hw hal hl hq
            · rw [if_neg hjn] at hq
              have hb := (hm0.obj j p q (by rw [cutR_lt hj]; exact hq) hp hal).1
              have := hfresh i x l hin.1 h1 hw hl
              omega
          · rw [if_neg hin] at hl
            by_cases hjn : n0 ≤ j ∧ j < n1
            · rw [if_pos hjn] at hq
              obtain ⟨h2, h3⟩ := hgetn j hjn.1 m hm hmn p hjn.2 hp
              have hb := (hm0.obj i x l (by rw [cutR_lt hi]; exact hl) hx (AObj.alive_of_wr hw)).1
              have := hfresh j p q hjn.1 h2 (h3 hal) hq
              omega
            · rw [if_neg hjn] at hq
              exact hm0.sep i j x p l q hij hx hp hw hal (by rw [cutR_lt hi]; exact hl) (by rw [cutR_lt hj]; exact hq)
      · -- a heap from before
        have hlm : (H m).length ≤ n0 := by
          rcases Nat.lt_or_ge m (min (k + 1) c) with hlt | hge
          · obtain ⟨r, e⟩ := hT.heap_get hc (show m ≤ min k c by omega) hkk
            have := congrArg List.length e
            rw [List.length_append] at this
            omega
          · obtain ⟨r, e⟩ := hT.heap_get hc hge hm
            have := congrArg List.length e
            rw [List.length_append] at this
            omega
        have e : cutR (fun i => if n0 ≤ i ∧ i < n1 then φ' i else φ i) (H m).length = cutR φ (H m).length := by
          funext i
          by_cases hi : i < (H m).length
          · rw [cutR_lt hi, cutR_lt hi, if_neg (by omega)]
          · rw [cutR_ge (by omega), cutR_ge (by omega)]
        rw [e]
        exact hm0.grow hf.size hmem
    · -- none
      intro j hj hx i h1 h2
      simp only [addX] at hx
      split at hx
      · cases hx
      · rename_i hjk
        have hout : ¬ (n0 ≤ i ∧ i < n1) := by
          rintro ⟨h3, h4⟩
          rcases Nat.lt_or_ge k c with hkc | hkc
          · rw [Nat.min_eq_left (by omega)] at hn0 hn1
            rcases Nat.lt_or_ge j k with hjk' | hjk'
            · obtain ⟨r, e⟩ := hT.heap_get hc (show j + 1 ≤ k by omega) (by omega)
              have := congrArg List.length e
              rw [List.length_append] at this
              omega
            · obtain ⟨r, e⟩ := hT.heap_get hc (show k + 1 ≤ j by omega) (by omega)
              have := congrArg List.length e
              rw [List.length_append] at this
              omega
          · rw [Nat.min_eq_right hkc] at hn0
            rw [Nat.min_eq_right (by omega)] at hn1
            omega
        rw [if_neg hout]
        exact h.nope j hj hx i h1 h2
    · -- top
      intro i hi
      have hn1c : n1 ≤ (H c).length := by
        obtain ⟨r, e⟩ := hT.heap_get hc (Nat.min_le_right (k + 1) c) (Nat.le_refl c)
        have := congrArg List.length e
        rw [List.length_append] at this
        omega
      rw [if_neg (by omega)]
      exact h.top i hi
    · rw [put_size]; exact h.size
    · -- temporaries
      refine tmps_step hS hr ho h.size (F := fun d => cutR φ (bX ops (fun i => (H (min i c)).length) X d ops.size)) ?_ ?_ h.tmps
      · intro d hd
        rw [hr.putb hS ho, if_neg hd]
        exact hextc _
      · intro d hd
        rw [hr.putb hS ho, if_pos hd, hn1]
        exact hv.mono (hextn _ (Nat.le_refl _))
    · rw [put_defers]; exact h.defers
    · -- frame
      have h0 : (H 0).length ≤ n0 := by
        obtain ⟨r, e⟩ := hT.heap_get hc (Nat.zero_le (min k c)) hkk
        have := congrArg List.length e
        rw [List.length_append] at this
        omega
      have hA0 : s0.A.length = (H 0).length := by rw [← hT.h0, adj_len]
      refine ⟨Nat.le_trans h.fr.size hf.size, h.fr.len, ?_, ?_, ?_, h.fr.ext.trans hext0, h.fr.ro, hf.tape.trans h.fr.tape, hf.os.trans h.fr.os, hf.output.trans h.fr.output⟩
      · intro b hb hnb
        rw [hmem b (Nat.lt_of_lt_of_le hb h.fr.size)]
        exact h.fr.keep b hb hnb
      · intro i x l hx hw hl hb
        by_cases hin : n0 ≤ i ∧ i < n1
        · rw [if_pos hin] at hl
          have hn1c : n1 ≤ (H c).length := by
            obtain ⟨r, e⟩ := hT.heap_get hc (Nat.min_le_right (k + 1) c) (Nat.le_refl c)
            have := congrArg List.length e
            rw [List.length_append] at this
            omega
          have hwz : ∃ x', (adj Pn X c (H c))[i]? = some x' ∧ x'.wr = true := by
            rw [adj_get, hx]
            cases hpi : Pn i with
            | none => exact ⟨x, rfl, hw⟩
            | some kz =>
              obtain ⟨k', z⟩ := kz
              obtain ⟨hkc', _, bz, bx, _, hz, _, hb1, _⟩ := hT.store i k' z hpi
              simp only [Option.map_some]
              cases X k' with
              | true => exact ⟨x, by simp only [if_true]; rw [if_neg (by omega)], hw⟩
              | false => exact ⟨z, rfl, by rw [hz]; simp [AObj.wr, hb1]⟩
          obtain ⟨x', hx', hw'⟩ := hwz
          obtain ⟨h1, _⟩ := hgetn i hin.1 c (Nat.le_refl _) hn1c x' hin.2 hx'
          have := hfresh i x' l hin.1 h1 hw' hl
          have := h.fr.size
          omega
        · rw [if_neg hin] at hl
          exact h.fr.wr i x l hx hw hl hb
      · intro i hi hro'
        rw [if_neg (by omega)]
        exact h.fr.phi i hi hro'
    · -- old
      intro i hi
      have h0 : (H 0).length ≤ n0 := by
        obtain ⟨r, e⟩ := hT.heap_get hc (Nat.zero_le (min k c)) hkk
        have := congrArg List.length e
        rw [List.length_append] at this
        omega
      rw [if_neg (by omega)]
      exact h.old i hi

theorem Trace.pures (hT : Trace E P ops s0 c Pn T H V) : ∀ (d m : Nat), m + d ≤ ops.size → (∀ k o, m ≤ k → k < m + d → ops[k]? = some o → pureOp o.op = true) → H (m + d) = H m
  | 0, m, _, _ => rfl
  | d + 1, m, hs, hp => by
    have ih := hT.pures d m (by omega) (fun k o h1 h2 => hp k o h1 (by omega))
    rw [← Nat.add_assoc, hT.pure_same (k := m + d) (o := ops[m + d]'(by omega)) (by simp [show m + d < ops.size by omega]) (hp (m + d) _ (by omega) (by omega) (by simp [show m + d < ops.size by omega])), ih]

theorem adj_full {m : Nat} {A : Hp} (h : ∀ i k' z, Pn i = some (k', z) → X k' = true ∧ k' < m) : adj Pn X m A = A := by
  apply List.ext_getElem?
  intro i
  rw [adj_get]
  cases hp : Pn i with
  | none => cases A[i]? <;> rfl
  | some kz =>
    obtain ⟨k', z⟩ := kz
    obtain ⟨h1, h2⟩ := h i k' z hp
    have h3 : ¬ m ≤ k' := by omega
    simp only [h1, if_true, if_neg h3]
    cases A[i]? <;> rfl

/-- One object may be written. -/
def onlyW (i : Nat) (A : Hp) : Hp := A.mapIdx fun j x => if j = i then x else roObj x

theorem onlyW_get (i : Nat) (A : Hp) (j : Nat) : (onlyW i A)[j]? = (A[j]?).map fun x => if j = i then x else roObj x := by
  simp [onlyW, List.getElem?_mapIdx]
theorem onlyW_len (i : Nat) (A : Hp) : (onlyW i A).length = A.length := by simp [onlyW]

theorem roObj_alive {x : AObj} (h : (roObj x).alive = true) : x.alive = true := by cases x <;> simp_all [roObj, AObj.alive]

theorem HRel.only {ψ : Rz} {A : Hp} (h : HRel ψ A w) (i : Nat) : HRel ψ (onlyW i A) w := by
  have key : ∀ (j : Nat) (o : AObj), (onlyW i A)[j]? = some o → ∃ x, A[j]? = some x ∧ (o = x ∨ o = roObj x) ∧ (o.wr = true → j = i ∧ o = x) := by
    intro j o ho
    rw [onlyW_get] at ho
    cases hx : A[j]? with
    | none => rw [hx] at ho; cases ho
    | some x =>
      rw [hx] at ho
      simp only [Option.map_some, Option.some.injEq] at ho
      split at ho
      · rename_i hj; exact ⟨x, rfl, .inl ho.symm, fun _ => ⟨hj, ho.symm⟩⟩
      · subst ho; exact ⟨x, rfl, .inr rfl, fun hw => by rw [roObj_wr] at hw; cases hw⟩
  refine ⟨fun j hj => h.dom j (by rw [onlyW_len] at hj; exact hj), ?_, ?_⟩
  · intro j o l hl ho hal
    obtain ⟨x, hx, e, _⟩ := key j o ho
    rcases e with rfl | rfl
    · exact h.obj j o l hl hx hal
    · obtain ⟨h1, h2⟩ := h.obj j x l hl hx (roObj_alive hal)
      exact ⟨h1, h2.ro⟩
  · intro j j' o p l m hne ho hp hw hal hl hm
    obtain ⟨x, hx, _, e⟩ := key j o ho
    obtain ⟨rfl, rfl⟩ := e hw
    obtain ⟨y, hy, e2, _⟩ := key j' p hp
    refine h.sep j j' o y l m hne hx hy hw ?_ hl hm
    rcases e2 with rfl | rfl
    · exact hal
    · exact roObj_alive hal

/-- The store of the head. -/
theorem Head.fill (hEnv : Env P E) (hS : StaticOK ops c) (hT : Trace E P ops s0 c Pn T H V) (hr : Ready ops X k) {i : Nat} {z : AObj} (hp : Pn i = some (k, z))
    (h : Head ops s0 c Pn H V φ0 w0 X φ a w) {K : Act → World → Prop} {Q : Exit → Act → World → Prop}
    (hn : ∀ a' w', Head ops s0 c Pn H V φ0 w0 (addX X k) φ a' w' → K a' w') : wpOp P ops Q k K a w := by
  obtain ⟨hkc, o, bz, bx, ho, hz, hx, hb1, hb2, hver, hpo, hdst, hw, hcc, hHk, hdo⟩ := hT.store i k z hp
  have hks : k < ops.size := by simpa using (Array.getElem?_eq_some_iff.1 ho).1
  have hc := hS.cut
  have hX := hr.not
  have hik : i < (H k).length := (List.getElem?_eq_some_iff.1 hx).1
  have hpre : ∀ m m', m ≤ m' → m' ≤ c → ∀ j, j < (H m).length → (H m')[j]? = (H m)[j]? := by
    intro m m' h1 h2 j hj
    obtain ⟨r, e⟩ := hT.heap_get hc h1 h2
    rw [e, List.getElem?_append_left hj]
  have hlenm : ∀ m m', m ≤ m' → m' ≤ c → (H m).length ≤ (H m').length := by
    intro m m' h1 h2
    obtain ⟨r, e⟩ := hT.heap_get hc h1 h2
    rw [e]; simp
  have hzi : (adj Pn X k (H k))[i]? = some z := by rw [adj_get, hx, hp]; simp only [Option.map_some, hX]; rfl
  have hB := (h.heap k (by omega)).only i
  have hBi : (onlyW i (adj Pn X k (H k)))[i]? = some z := by rw [onlyW_get, hzi]; simp
  have hsd : SD E P ops (T k) (onlyW i (adj Pn X k (H k))) o fun v A' => v = V k ∧ A' = (onlyW i (adj Pn X k (H k))).set i (.cells bx) := by
    unfold SD
    rw [hw]
    simp only [if_true, hcc]
    exact ⟨V k, _, hdo _ hBi, rfl, rfl⟩
  refine step_gen hEnv hB (t := T k) ?_ ?_ ho hsd fun φ' v v' A' w' hR hv hH' hf => hn _ w' ?_
  · rw [← hT.t_eq k (by omega), tX_length]; exact h.size
  · intro d hd v v' h1 h2
    rw [← hr.look hS hT ho hd] at h1
    have := hr.lookb hS (hT.lens hc) ho hd
    simp only [Nat.min_eq_left (Nat.le_of_lt hkc)] at this
    exact (h.tmps d v v' h1 h2).mono (ext_cut this)
  obtain ⟨_, rfl⟩ := hR
  have hBwr : ∀ (j : Nat) (q : AObj), j ≠ i → (onlyW i (adj Pn X k (H k)))[j]? = some q → q.wr = false := by
    intro j q hj hq
    rw [onlyW_get] at hq
    cases hq' : (adj Pn X k (H k))[j]? with
    | none => rw [hq'] at hq; cases hq
    | some q' =>
      rw [hq'] at hq
      simp only [Option.map_some, Option.some.injEq, if_neg hj] at hq
      subst hq; exact roObj_wr _
  have hkeep : ∀ b, b < w.heap.size → (∀ l, φ i = some l → l.blk ≠ b) → w'.heap[b]? = w.heap[b]? := by
    intro b hb hne
    refine hf.keep b hb fun j q l hq hqw hl => ?_
    by_cases hj : j = i
    · subst hj
      rw [cutR_lt hik] at hl
      exact hne l hl
    · rw [hBwr j q hj hq] at hqw; cases hqw
  have hBl : (onlyW i (adj Pn X k (H k))).length = (H k).length := by rw [onlyW_len, adj_len]
  -- the object itself
  have hself : ∀ li, φ i = some li → li.blk < w'.heap.size ∧ ∀ m, k < m → m ≤ c → ORel (cutR φ (H m).length) w' li (.cells bx) := by
    intro li hli
    obtain ⟨l', hl', hcase⟩ := hf.ext i li (by rw [cutR_lt hik]; exact hli)
    have hnew := hH'.obj i (.cells bx) l' hl' (by rw [List.getElem?_set_self (by rw [hBl]; exact hik)]) rfl
    have hold := (h.heap k (by omega)).obj i z li (by rw [cutR_lt hik]; exact hli) hzi (by rw [hz]; rfl)
    have hlv : li.ver = bz.ver := by have := hold.2; rw [hz] at this; exact this.1.2.2.2.1
    have hlv' : l'.ver = bx.ver := hnew.2.1.2.2.2.1
    have hll : l' = li := by
      rcases hcase with h1 | ⟨h1, _⟩
      · exact h1
      · omega
    subst hll
    refine ⟨hnew.1, fun m hm hmc => hnew.2.mono ?_ rfl⟩
    intro j l hl
    refine ⟨l, ?_, .inl rfl⟩
    have hlm := hlenm k m (by omega) hmc
    rcases Nat.lt_or_ge j (H k).length with hj | hj
    · rw [cutR_lt (by omega)]
      by_cases hji : j = i
      · subst hji; rw [hl'] at hl; cases hl; exact hli
      · have := hf.phi j (by rw [hBl]; exact hj) (fun q hq => hBwr j q hji hq)
        rw [this, cutR_lt hj] at hl
        exact hl
    · rw [hH'.dom j (by rw [List.length_set, hBl]; exact hj)] at hl; cases hl
  have hadj : ∀ (m j : Nat), j ≠ i → (adj Pn (addX X k) m (H m))[j]? = (adj Pn X m (H m))[j]? := by
    intro m j hj
    rw [adj_get, adj_get]
    cases hpj : Pn j with
    | none => rfl
    | some kz =>
      obtain ⟨k', z'⟩ := kz
      have : k' ≠ k := fun e => by subst e; exact hj (hT.one j i _ _ _ hpj hp)
      simp only [addX, if_neg this]
  have hadji : ∀ m, m ≤ c → ∀ x, (adj Pn (addX X k) m (H m))[i]? = some x → x.alive = true → k < m ∧ x = .cells bx := by
    intro m hm x hxm hal
    rw [adj_get, hp] at hxm
    cases hh : (H m)[i]? with
    | none => rw [hh] at hxm; cases hxm
    | some y =>
      rw [hh] at hxm
      simp only [Option.map_some, addX, if_true, Option.some.injEq] at hxm
      split at hxm
      · subst hxm; cases hal
      · rename_i hmk
        subst hxm
        refine ⟨by omega, ?_⟩
        rw [hpre k m (by omega) hm i hik, hx] at hh
        cases hh; rfl
  have hzm : ∀ m, m ≤ c → i < (H m).length → (adj Pn X m (H m))[i]? = some z := by
    intro m hm him
    rw [adj_get, hp, List.getElem?_eq_getElem him]
    simp only [Option.map_some, hX]; rfl
  have hzwr : z.wr = true := by rw [hz]; simp [AObj.wr, hb1]
  have hup : ∀ m, m ≤ c → ∀ (j : Nat) (x : AObj), (adj Pn X m (H m))[j]? = some x → x.alive = true → (adj Pn X c (H c))[j]? = some x := by
    intro m hm j x hxm hal
    rw [adj_get] at hxm ⊢
    cases hh : (H m)[j]? with
    | none => rw [hh] at hxm; cases hxm
    | some y =>
      rw [hh] at hxm
      rw [hpre m c hm (Nat.le_refl _) j (List.getElem?_eq_some_iff.1 hh).1, hh]
      cases hpj : Pn j with
      | none => rw [hpj] at hxm; exact hxm
      | some kz =>
        obtain ⟨k', z'⟩ := kz
        rw [hpj] at hxm
        simp only [Option.map_some, Option.some.injEq] at hxm ⊢
        obtain ⟨hkc', _⟩ := hT.store j k' z' hpj
        cases hxk : X k' with
        | false => rw [hxk] at hxm; simpa using hxm
        | true =>
          rw [hxk] at hxm
          simp only [if_true] at hxm ⊢
          split at hxm
          · subst hxm; cases hal
          · rw [if_neg (by omega)]; exact hxm
  have hfar : ∀ m, m ≤ c → ∀ (j : Nat) (x : AObj) (l : Loc), j ≠ i → (adj Pn X m (H m))[j]? = some x → x.alive = true → φ j = some l → ∀ li, φ i = some li → li.blk ≠ l.blk := by
    intro m hm j x l hj hxm hal hl li hli
    have h1 := hup m hm j x hxm hal
    have hjc : j < (H c).length := by have := (List.getElem?_eq_some_iff.1 h1).1; rw [adj_len] at this; exact this
    have hic : i < (H c).length := Nat.lt_of_lt_of_le hik (hlenm k c (by omega) (Nat.le_refl _))
    exact (h.heap c (Nat.le_refl _)).sep i j z x li l (fun e => hj e.symm) (hzm c (Nat.le_refl _) hic) h1 hzwr hal (by rw [cutR_lt hic]; exact hli) (by rw [cutR_lt hjc]; exact hl)
  have hlt : ∀ (m j : Nat) (x : AObj), (adj Pn (addX X k) m (H m))[j]? = some x → j < (H m).length := by
    intro m j x hxm
    have := (List.getElem?_eq_some_iff.1 hxm).1
    rw [adj_len] at this; exact this
  refine ⟨?_, ?_, ?_, h.top, by rw [put_size]; exact h.size, ?_, by rw [put_defers]; exact h.defers, ?_, h.old⟩
  · -- low
    intro j oj hj hcj hpj
    simp only [addX]
    rw [if_neg (by omega)]
    exact h.low j oj hj hcj hpj
  · -- heap
    intro m hm
    refine ⟨fun j hj => cutR_ge (by rw [adj_len] at hj; exact hj), ?_, ?_⟩
    · intro j x l hl hxm hal
      have hjm := hlt m j x hxm
      by_cases hji : j = i
      · subst hji
        obtain ⟨hkm, rfl⟩ := hadji m hm x hxm hal
        rw [cutR_lt hjm] at hl
        obtain ⟨h1, h2⟩ := hself l hl
        exact ⟨h1, h2 m hkm hm⟩
      · rw [hadj m j hji] at hxm
        obtain ⟨h1, h2⟩ := (h.heap m hm).obj j x l hl hxm hal
        rw [cutR_lt hjm] at hl
        exact ⟨Nat.lt_of_lt_of_le h1 hf.size, h2.mono (Ext.refl _) (hkeep _ h1 fun li hli => hfar m hm j x l hji hxm hal hl li hli)⟩
    · intro j j' x q l lq hne hxm hq hxw hqal hl hlq
      have hjm := hlt m j x hxm
      have hjm' := hlt m j' q hq
      have back : ∀ (t : Nat) (y : AObj), (adj Pn (addX X k) m (H m))[t]? = some y → y.alive = true → ∃ y', (adj Pn X m (H m))[t]? = some y' ∧ y'.alive = true ∧ (y.wr = true → y'.wr = true) := by
        intro t y hy hyal
        by_cases hti : t = i
        · subst hti
          exact ⟨z, hzm m hm (hlt m t y hy), by rw [hz]; rfl, fun _ => hzwr⟩
        · rw [hadj m t hti] at hy
          exact ⟨y, hy, hyal, fun h => h⟩
      obtain ⟨x', g1, g2, g3⟩ := back j x hxm (AObj.alive_of_wr hxw)
      obtain ⟨q', g4, g5, _⟩ := back j' q hq hqal
      exact (h.heap m hm).sep j j' x' q' l lq hne g1 g4 (g3 hxw) g5 hl hlq
  · -- none
    intro j hj hxj
    simp only [addX] at hxj
    split at hxj
    · cases hxj
    · exact h.nope j hj hxj
  · -- temporaries
    refine tmps_step hS hr ho h.size (F := fun d => cutR φ (bX ops (fun i => (H (min i c)).length) X d ops.size)) ?_ ?_ h.tmps
    · intro d hd
      rw [hr.putb hS ho, if_neg hd]
      exact Ext.refl _
    · intro d hd
      rw [hdst] at hd; cases hd
  · -- frame
    refine ⟨Nat.le_trans h.fr.size hf.size, h.fr.len, ?_, h.fr.wr, h.fr.phi, h.fr.ext, h.fr.ro, hf.tape.trans h.fr.tape, hf.os.trans h.fr.os, hf.output.trans h.fr.output⟩
    intro b hb hnb
    rw [hkeep b (Nat.lt_of_lt_of_le hb h.fr.size) ?_]
    · exact h.fr.keep b hb hnb
    · intro li hli
      rcases Nat.lt_or_ge li.blk w0.heap.size with hlb | hlb
      · obtain ⟨j, q, mq, h1, h2, h3, h4⟩ := h.fr.wr i (.cells bx) li (by rw [hpre k c (by omega) (Nat.le_refl _) i hik]; exact hx) (by simp [AObj.wr, hb2]) hli hlb
        rw [← h4]
        exact hnb j q mq h1 h2 h3
      · omega

/-- The head is done as soon as something of the tail is ready. -/
theorem Head.turn (hS : StaticOK ops c) (hT : Trace E P ops s0 c Pn T H V) (hr : Ready ops X k) (ho : ops[k]? = some o) (hk : c ≤ k) (hp : pureOp o.op = false)
    (h : Head ops s0 c Pn H V φ0 w0 X φ a w) : Tail ops s0 c H V φ0 w0 k X φ a w := by
  have hks : k < ops.size := by simpa using (Array.getElem?_eq_some_iff.1 ho).1
  have hbefore : ∀ j oj, ops[j]? = some oj → pureOp oj.op = false → j < k → X j = true := fun j oj hj hpj hlt =>
    dep_ready hr.down hr.all (hS.order k o ho hk hp j oj hj hlt hpj)
  have hH : H k = H c := by
    have := hT.pures (k - c) c (by omega) (fun j oj h1 h2 hj => by
      cases hpj : pureOp oj.op with
      | true => rfl
      | false =>
        have h3 := hbefore j oj hj hpj (by omega)
        rw [h.low j oj hj h1 hpj] at h3; cases h3)
    rw [show c + (k - c) = k by omega] at this
    exact this
  have hcut : cutR φ (H c).length = φ := cutR_eq h.top
  refine ⟨hk, by omega, ?_, ?_, h.size, ?_, h.defers, ?_⟩
  · intro j oj hj hpj
    constructor
    · intro hx
      rcases Nat.lt_or_ge j k with h1 | h1
      · exact h1
      · rw [h.low j oj hj (by omega) hpj] at hx; cases hx
    · exact hbefore j oj hj hpj
  · have hfull := h.heap c (Nat.le_refl _)
    rw [adj_full (fun i k' z hp' => ?_)] at hfull
    · rw [hH, ← hcut]; exact hfull
    · obtain ⟨hkc', o', _, _, ho', _, _, _, _, _, hpo, _⟩ := hT.store i k' z hp'
      exact ⟨hbefore k' o' ho' hpo (by omega), hkc'⟩
  · intro d v v' h1 h2
    exact (h.tmps d v v' h1 h2).mono ext_cut_all
  · rw [hH]; exact h.fr

theorem Tail.turn {m : Nat} (hS : StaticOK ops c) (hT : Trace E P ops s0 c Pn T H V) (hr : Ready ops X k) (ho : ops[k]? = some o) (hp : pureOp o.op = false)
    (h : Tail ops s0 c H V φ0 w0 m X φ a w) : Tail ops s0 c H V φ0 w0 k X φ a w := by
  have hks : k < ops.size := by simpa using (Array.getElem?_eq_some_iff.1 ho).1
  have hmk : m ≤ k := by
    rcases Nat.lt_or_ge k m with h1 | h1
    · have := (h.done k o ho hp).2 h1
      rw [hr.not] at this; cases this
    · exact h1
  have hbefore : ∀ j oj, ops[j]? = some oj → pureOp oj.op = false → j < k → X j = true := fun j oj hj hpj hlt =>
    dep_ready hr.down hr.all (hS.order k o ho (Nat.le_trans h.cm hmk) hp j oj hj hlt hpj)
  have hH : H k = H m := by
    have := hT.pures (k - m) m (by omega) (fun j oj h1 h2 hj => by
      cases hpj : pureOp oj.op with
      | true => rfl
      | false =>
        have h3 := (h.done j oj hj hpj).1 (hbefore j oj hj hpj (by omega))
        omega)
    rw [show m + (k - m) = k by omega] at this
    exact this
  refine ⟨Nat.le_trans h.cm hmk, by omega, ?_, hH ▸ h.heap, h.size, h.tmps, h.defers, hH ▸ h.fr⟩
  intro j oj hj hpj
  refine ⟨fun hx => ?_, hbefore j oj hj hpj⟩
  have := (h.done j oj hj hpj).1 hx
  omega

theorem Tail.step {m : Nat} (hEnv : Env P E) (hS : StaticOK ops c) (hT : Trace E P ops s0 c Pn T H V) (hr : Ready ops X k) (ho : ops[k]? = some o) (hk : pureOp o.op = true ∨ k = m)
    (h : Tail ops s0 c H V φ0 w0 m X φ a w) {K : Act → World → Prop} {Q : Exit → Act → World → Prop}
    (hn : ∀ φ' a' w' m', Tail ops s0 c H V φ0 w0 m' (addX X k) φ' a' w' → K a' w') : wpOp P ops Q k K a w := by
  have hks : k < ops.size := by simpa using (Array.getElem?_eq_some_iff.1 ho).1
  have hsz : (T k).length = a.tmps.size := by rw [← hT.t_eq k (by omega), tX_length]; exact h.size
  have hlook : ∀ d ∈ o.looksAt ops, ∀ v v', (T k)[d]? = some v → a.tmps[d]? = some v' → VRel φ v v' := by
    intro d hd v v' h1 h2
    rw [← hr.look hS hT ho hd] at h1
    exact h.tmps d v v' h1 h2
  have fin : ∀ (m' : Nat), c ≤ m' → m' ≤ ops.size → (∀ j oj, ops[j]? = some oj → pureOp oj.op = false → (addX X k j = true ↔ j < m')) → SD E P ops (T k) (H m) o (fun v A' => v = V k ∧ A' = H m') → wpOp P ops Q k K a w := by
    intro m' hcm' hle' hdone hsd
    refine step_gen hEnv h.heap hsz hlook ho hsd fun φ' v v' A' w' hR hv hH' hf => hn φ' _ w' m' ?_
    obtain ⟨rfl, rfl⟩ := hR
    refine ⟨hcm', hle', hdone, hH', by rw [put_size]; exact h.size, ?_, by rw [put_defers]; exact h.defers, h.fr.trans hf⟩
    exact tmps_step hS hr ho h.size (F := fun _ => φ) (F' := fun _ => φ') (fun _ _ => hf.ext) (fun _ _ => hv) h.tmps
  rcases hk with hp | hk
  · refine fin m h.cm h.le ?_ (hT.sd_pure ho hp (H m))
    intro j oj hj hpj
    simp only [addX]
    split
    · rename_i he; subst he; rw [ho] at hj; cases hj; rw [hp] at hpj; cases hpj
    · exact h.done j oj hj hpj
  · subst hk
    refine fin (k + 1) (by have := h.cm; omega) (by omega) ?_ (hT.sd_tail ho h.cm)
    intro j oj hj hpj
    have := h.done j oj hj hpj
    simp only [addX]
    split
    · rename_i he; subst he; simp
    · rename_i he
      rw [this]
      omega

/-- Where the way through a region stands. -/
def Way (ops : Array Oper) (s0 : St) (c : Nat) (Pn : Pend) (H : Nat → Hp) (V : Nat → Value) (φ0 : Rz) (w0 : World) (X : Nat → Bool) (a : Act) (w : World) : Prop :=
  ∃ φ, Head ops s0 c Pn H V φ0 w0 X φ a w ∨ ∃ m, Tail ops s0 c H V φ0 w0 m X φ a w

theorem Way.step (hEnv : Env P E) (hS : StaticOK ops c) (hT : Trace E P ops s0 c Pn T H V) (hr : Ready ops X k) (ho : ops[k]? = some o)
    (h : Way ops s0 c Pn H V φ0 w0 X a w) {K : Act → World → Prop} {Q : Exit → Act → World → Prop}
    (hn : ∀ a' w', Way ops s0 c Pn H V φ0 w0 (addX X k) a' w' → K a' w') : wpOp P ops Q k K a w := by
  obtain ⟨φ, h | ⟨m, h⟩⟩ := h
  · by_cases hst : ∃ i z, Pn i = some (k, z)
    · obtain ⟨i, z, hp⟩ := hst
      exact h.fill hEnv hS hT hr hp fun a' w' h' => hn a' w' ⟨φ, .inl h'⟩
    by_cases hk : k < c ∨ pureOp o.op = true
    · exact h.step hEnv hS hT hr ho hk (fun i z hp => hst ⟨i, z, hp⟩) fun φ' a' w' h' => hn a' w' ⟨φ', .inl h'⟩
    · have hp : pureOp o.op = false := by
        cases hpp : pureOp o.op with
        | true => exact absurd (.inr hpp) hk
        | false => rfl
      have hck : c ≤ k := by
        rcases Nat.lt_or_ge k c with h1 | h1
        · exact absurd (.inl h1) hk
        · exact h1
      exact (h.turn hS hT hr ho hck hp).step hEnv hS hT hr ho (.inr rfl) fun φ' a' w' m' h' => hn a' w' ⟨φ', .inr ⟨m', h'⟩⟩
  · cases hp : pureOp o.op with
    | true => exact h.step hEnv hS hT hr ho (.inl hp) fun φ' a' w' m' h' => hn a' w' ⟨φ', .inr ⟨m', h'⟩⟩
    | false => exact (h.turn hS hT hr ho hp).step hEnv hS hT hr ho (.inr rfl) fun φ' a' w' m' h' => hn a' w' ⟨φ', .inr ⟨m', h'⟩⟩

theorem Way.end (hS : StaticOK ops c) (hT : Trace E P ops s0 c Pn T H V) (hX : ∀ k, k < ops.size → X k = true) (h : Way ops s0 c Pn H V φ0 w0 X a w) :
    ∃ φ, Rel φ ⟨T ops.size, H ops.size⟩ a w ∧ Fr φ0 s0.A w0 φ (H ops.size) w := by
  have htx : ∀ d : Tmp, (tX ops V X s0.t ops.size)[d]? = (T ops.size)[d]? := by
    intro d
    rw [tX_congr (Y := fun _ => true) ops.size (fun i o hi _ _ => hX i hi), hT.t_eq _ (Nat.le_refl _)]
  have hlen : (T ops.size).length = s0.t.length := by rw [← hT.t_eq _ (Nat.le_refl _), tX_length]
  have rels : ∀ φ : Rz, s0.t.length = a.tmps.size → (∀ (d : Tmp) v v', (tX ops V X s0.t ops.size)[d]? = some v → a.tmps[d]? = some v' → VRel φ v v') → Rels φ (T ops.size) a.tmps.toList := by
    intro φ hz ht
    refine ⟨by rw [hlen, hz]; simp, fun i x y h1 h2 => ht i x y (by rw [htx]; exact h1) (by simpa using h2)⟩
  obtain ⟨φ, h | ⟨m, h⟩⟩ := h
  · have hH : H ops.size = H c := by
      have := hT.pures (ops.size - c) c (by have := hS.cut; omega) (fun j oj h1 h2 hj => by
        cases hpj : pureOp oj.op with
        | true => rfl
        | false =>
          have h3 := h.low j oj hj h1 hpj
          rw [hX j (by have := hS.cut; omega)] at h3; cases h3)
      rw [show c + (ops.size - c) = ops.size by have := hS.cut; omega] at this
      exact this
    refine ⟨φ, ⟨rels φ h.size fun d v v' h1 h2 => (h.tmps d v v' h1 h2).mono ext_cut_all, h.defers, ?_⟩, ?_⟩
    · simp only
      have hfull := h.heap c (Nat.le_refl _)
      rw [adj_full (fun i k' z hp' => ?_)] at hfull
      · rw [hH, ← cutR_eq (φ := φ) h.top]; exact hfull
      · obtain ⟨hkc', _⟩ := hT.store i k' z hp'
        exact ⟨hX k' (by have := hS.cut; omega), hkc'⟩
    · rw [hH]; exact h.fr
  · have hH : H ops.size = H m := by
      have := hT.pures (ops.size - m) m (by have := h.le; omega) (fun j oj h1 h2 hj => by
        cases hpj : pureOp oj.op with
        | true => rfl
        | false =>
          have h3 := (h.done j oj hj hpj).1 (hX j (by have := h.le; omega))
          omega)
      rw [show m + (ops.size - m) = ops.size by have := h.le; omega] at this
      exact this
    exact ⟨φ, ⟨rels φ h.size h.tmps, h.defers, by simp only; rw [hH]; exact h.heap⟩, by rw [hH]; exact h.fr⟩

end
end Go.Dx
