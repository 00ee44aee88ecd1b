/- The data layer: what is frozen (a view), what is owned, and typed data. -/
import Derived.Test.YtdjcbpicdnhciaaGreatEe
set_option linter.unusedVariables false
set_option linter.unusedSimpArgs false
namespace Go.Dx

/-- W holds all cells of V. -/
def Le (V W : Hp) : Prop := ∀ (i : Nat) (b : Blk), V[i]? = some (.cells b) → ∃ b', W[i]? = some (.cells b') ∧ b'.cs = b.cs ∧ b'.ver = b.ver ∧ b'.es = b.es ∧ b'.opn = b.opn

theorem Le.refl (V : Hp) : Le V V := fun _ b h => ⟨b, h, rfl, rfl, rfl, rfl⟩
theorem Le.trans {U V W : Hp} (h : Le U V) (k : Le V W) : Le U W := by
  intro i b hb
  obtain ⟨b1, h1, h2, h3, h4, h5⟩ := h i b hb
  obtain ⟨b2, k1, k2, k3, k4, k5⟩ := k i b1 h1
  exact ⟨b2, k1, k2.trans h2, k3.trans h3, k4.trans h4, k5.trans h5⟩
theorem Le.pre {V W : Hp} (h : Pre V W) : Le V W := fun _ b hb => ⟨b, h.at hb, rfl, rfl, rfl, rfl⟩
theorem Le.app (V r : Hp) : Le V (V ++ r) := .pre ((Pre.refl V).app r)
theorem Le.ro (A : Hp) : Le A (roH A) := fun i b hb => ⟨{ b with ro := true }, by rw [roH_at, hb]; rfl, rfl, rfl, rfl, rfl⟩
theorem Le.unro (A : Hp) : Le (roH A) A := by
  intro i b hb
  obtain ⟨p, hp, he⟩ := roH_get hb
  cases p with
  | cells b' => simp [roObj] at he; subst he; exact ⟨b', hp, rfl, rfl, rfl, rfl⟩
  | dead => simp [roObj] at he
  | map _ _ => simp [roObj] at he
  | iter _ _ => simp [roObj] at he
theorem Le.app2 {V W : Hp} (h : Le V W) (hl : V.length = W.length) {r s : Hp} (k : Le r s) : Le (V ++ r) (W ++ s) := by
  intro i b hb
  rcases Nat.lt_or_ge i V.length with hi | hi
  · rw [List.getElem?_append_left hi] at hb
    rw [List.getElem?_append_left (by omega)]
    exact h i b hb
  · rw [List.getElem?_append_right hi] at hb
    rw [List.getElem?_append_right (by omega), ← hl]
    exact k _ b hb
theorem Le.set {V : Hp} {i : Nat} (h : V[i]? = some .dead) (o : AObj) : Le V (V.set i o) := by
  intro j b hb
  refine ⟨b, at_set_ne (fun hij => ?_) hb, rfl, rfl, rfl, rfl⟩
  subst hij
  rw [h] at hb; cases hb

theorem Sl.le {A B : Hp} (h : Le A B) {a : Option Addr} {sz : Nat} {rows : List (List Value)} (hs : Sl A a sz rows) : Sl B a sz rows := by
  rcases hs with hs | ⟨i, off, ver, b, h1, h2, h3, h4, h5, h6, h7⟩
  · exact .inl hs
  · obtain ⟨b', g1, g2, g3, g4, g5⟩ := h i b h2
    exact .inr ⟨i, off, ver, b', h1, g1, g3.trans h3, by rw [g2]; exact h4, by rw [g2]; exact h5, h6, g4.trans h7⟩

theorem rd_le {A B : Hp} (h : Le A B) {p : Addr} {k : Nat} {cs : List Value} (hr : rd A p k = some cs) : rd B p k = some cs := by
  obtain ⟨i, off, sp⟩ := p
  cases sp with
  | none => cases hr
  | some ver =>
    simp only [rd] at hr ⊢
    split at hr
    · rename_i b hb
      obtain ⟨b', g1, g2, g3, g4, g5⟩ := h i b hb
      rw [g1]
      simp only [g2, g3]
      exact hr
    · cases hr

/-- A view: a part of the heap, frozen; the rest is not seen. -/
structure View (V B : Hp) : Prop where
  len : V.length = B.length
  obj : ∀ (i : Nat) (o : AObj), V[i]? = some o → o = .dead ∨ ∃ p, B[i]? = some p ∧ o = roObj p

theorem View.wr {V B : Hp} (h : View V B) {i : Nat} {o : AObj} (ho : V[i]? = some o) : o.wr = false := by
  rcases h.obj i o ho with rfl | ⟨p, _, rfl⟩
  · rfl
  · exact roObj_wr p

theorem View.le {V B : Hp} (h : View V B) : Le V B := by
  intro i b hb
  rcases h.obj i _ hb with he | ⟨p, hp, he⟩
  · cases he
  · cases p with
    | cells b' => simp [roObj] at he; subst he; exact ⟨b', hp, rfl, rfl, rfl, rfl⟩
    | dead => simp [roObj] at he
    | map _ _ => simp [roObj] at he
    | iter _ _ => simp [roObj] at he

theorem roObj_roObj (o : AObj) : roObj (roObj o) = roObj o := by cases o <;> rfl
theorem roH_roH (A : Hp) : roH (roH A) = roH A := by
  simp only [roH, List.map_map]
  congr 1
  funext o
  exact roObj_roObj o

theorem View.fixed {V B : Hp} (h : View V B) : roH V = V := by
  apply List.ext_getElem?
  intro i
  rw [roH_at]
  cases ho : V[i]? with
  | none => rfl
  | some o =>
    rcases h.obj i o ho with rfl | ⟨p, _, rfl⟩
    · rfl
    · simp [roObj_roObj]

theorem View.ro {V B : Hp} (h : View V B) : View V (roH B) := by
  refine ⟨by rw [roH_length]; exact h.len, fun i o ho => ?_⟩
  rcases h.obj i o ho with rfl | ⟨p, hp, rfl⟩
  · exact .inl rfl
  · exact .inr ⟨roObj p, by rw [roH_at, hp]; rfl, (roObj_roObj p).symm⟩

theorem View.self (A : Hp) : View (roH A) (roH A) :=
  ⟨rfl, fun i o ho => .inr ⟨o, ho, by obtain ⟨p, _, rfl⟩ := roH_get ho; exact (roObj_roObj p).symm⟩⟩

theorem HRel.view {φ : Rz} {V B : Hp} {w : World} (h : View V B) (hH : HRel φ B w) : HRel φ V w := by
  refine ⟨fun i hi => hH.dom i (by rw [← h.len]; exact hi), ?_, ?_⟩
  · intro i o l hl ho hal
    rcases h.obj i o ho with rfl | ⟨p, hp, rfl⟩
    · cases hal
    · have hal2 : p.alive = true := by cases p <;> simp_all [roObj, AObj.alive]
      obtain ⟨h1, h2⟩ := hH.obj i p l hl hp hal2
      exact ⟨h1, h2.ro⟩
  · intro i j o p l m _ ho _ hw _ _ _
    rw [h.wr ho] at hw; cases hw

/-- WHAT RUNS OVER A VIEW RUNS OVER THE HEAP. -/
theorem ev_view {P : Program} {f : FuncId} {args : List Value} {V A : Hp} {v : Value} {r : Hp} (hv : View V A) (h : Ev P f args V v (V ++ r)) (hr : Fresh r) : Ev P f args A v (A ++ r) := by
  refine ⟨h.1, fun φ args' w hH ha => (h.2 φ args' w (hH.view hv) ha).mono ?_⟩
  rintro e w' ⟨v1, v', A1, φ', he, ⟨rfl, rfl⟩, hvr, hH', hf⟩
  have hlen : V.length = A.length := hv.len
  have hphi : ∀ i, i < A.length → φ' i = φ i := fun i hi => hf.phi i (by omega) (fun o ho => hv.wr ho)
  have hmem : ∀ b, b < w.heap.size → w'.heap[b]? = w.heap[b]? := fun b hb => hf.keep b hb (fun i o l h1 h2 => by rw [hv.wr h1] at h2; cases h2)
  have hnew : ∀ (i : Nat) (o : AObj), A.length ≤ i → (A ++ r)[i]? = some o → (V ++ r)[i]? = some o ∧ o ∈ r := by
    intro i o hi ho
    rw [List.getElem?_append_right hi] at ho
    rw [List.getElem?_append_right (by omega), hlen]
    exact ⟨ho, List.mem_of_getElem? ho⟩
  have hold : ∀ (i : Nat) (o : AObj), i < A.length → (A ++ r)[i]? = some o → A[i]? = some o := by
    intro i o hi ho
    rw [List.getElem?_append_left hi] at ho; exact ho
  have hfar : ∀ (i : Nat) (o : AObj) (l : Loc), A.length ≤ i → (A ++ r)[i]? = some o → o.wr = true → φ' i = some l → w.heap.size ≤ l.blk := by
    intro i o l hi ho hw hl
    rcases Nat.lt_or_ge l.blk w.heap.size with hb | hb
    · obtain ⟨j, p, m, h1, h2, _⟩ := hf.wr i o l (hnew i o hi ho).1 hw hl hb
      rw [hv.wr h1] at h2; cases h2
    · exact hb
  refine ⟨v1, v', A ++ r, φ', he, ⟨rfl, rfl⟩, hvr, ⟨?_, ?_, ?_⟩, ?_⟩
  · intro i hi
    exact hH'.dom i (by rw [List.length_append] at hi ⊢; omega)
  · intro i o l hl ho hal
    rcases Nat.lt_or_ge i A.length with hi | hi
    · rw [hphi i hi] at hl
      obtain ⟨h1, h2⟩ := hH.obj i o l hl (hold i o hi ho) hal
      have := hf.size
      exact ⟨by omega, h2.mono hf.ext (hmem _ h1)⟩
    · exact hH'.obj i o l hl (hnew i o hi ho).1 hal
  · intro i j o p l m hij ho hp hw hal hl hm
    rcases Nat.lt_or_ge i A.length with hi | hi <;> rcases Nat.lt_or_ge j A.length with hj | hj
    · rw [hphi i hi] at hl; rw [hphi j hj] at hm
      exact hH.sep i j o p l m hij (hold i o hi ho) (hold j p hj hp) hw hal hl hm
    · rw [hphi i hi] at hl
      have h1 := (hH.obj i o l hl (hold i o hi ho) (AObj.alive_of_wr hw)).1
      have h2 := hfar j p m hj hp (hr p (hnew j p hj hp).2 hal) hm
      omega
    · rw [hphi j hj] at hm
      have h1 := (hH.obj j p m hm (hold j p hj hp) hal).1
      have h2 := hfar i o l hi ho hw hl
      omega
    · exact hH'.sep i j o p l m hij (hnew i o hi ho).1 (hnew j p hj hp).1 hw hal hl hm
  · refine ⟨hf.size, by simp, fun b hb _ => hmem b hb, ?_, fun i hi _ => hphi i hi, hf.ext, ?_, hf.tape, hf.os, hf.output⟩
    · intro i o l ho hw hl hb
      rcases Nat.lt_or_ge i A.length with hi | hi
      · rw [hphi i hi] at hl
        exact ⟨i, o, l, hold i o hi ho, hw, hl, rfl⟩
      · have := hfar i o l hi ho hw hl
        omega
    · intro i hi hn o ho
      exact hn o (hold i o hi ho)

/-! What is owned. -/

inductive Own1 where
  | obj (i : Nat) (b : Blk)
  | acc (a : Option Addr) (sz : Nat) (rows : List (List Value))

def Own1.at : Own1 → Option Nat
  | .obj i _ => some i
  | .acc none _ _ => none
  | .acc (some p) _ _ => some p.block

def Own1.ok (base V B : Hp) : Own1 → Prop
  | .obj i b => B[i]? = some (.cells b) ∧ V[i]? = some .dead ∧ base.length ≤ i ∧ b.ro = false
  | .acc a sz rows => ∃ o, Own B o a sz rows ∧ ∀ i, o = some i → V[i]? = some .dead ∧ base.length ≤ i

theorem own_at {B : Hp} {o : Option Nat} {a : Option Addr} {sz : Nat} {rows : List (List Value)} (h : Own B o a sz rows) : (Own1.acc a sz rows).at = o := by
  cases o with
  | none => obtain ⟨rfl, _⟩ := h; rfl
  | some i => obtain ⟨ver, rfl, _⟩ := h; rfl

theorem Own1.here {base V B : Hp} {x : Own1} (h : x.ok base V B) {k : Nat} (hk : x.at = some k) : ∃ b, B[k]? = some (.cells b) ∧ V[k]? = some .dead ∧ base.length ≤ k ∧ b.ro = false := by
  cases x with
  | obj i b => cases hk; obtain ⟨h1, h2, h3, h4⟩ := h; exact ⟨b, h1, h2, h3, h4⟩
  | acc a sz rows =>
    obtain ⟨o, h1, h2⟩ := h
    rw [own_at h1] at hk
    subst hk
    obtain ⟨ver, _, h4, _⟩ := h1
    obtain ⟨h5, h6⟩ := h2 k rfl
    exact ⟨_, h4, h5, h6, rfl⟩

theorem Own1.keep {base V B V' B' : Hp} {x : Own1} (h : x.ok base V B) (hk : ∀ k, x.at = some k → (∀ o, B[k]? = some o → B'[k]? = some o) ∧ (V[k]? = some .dead → V'[k]? = some .dead)) : x.ok base V' B' := by
  cases x with
  | obj i b => obtain ⟨h1, h2, h3, h4⟩ := h; exact ⟨(hk i rfl).1 _ h1, (hk i rfl).2 h2, h3, h4⟩
  | acc a sz rows =>
    obtain ⟨o, h1, h2⟩ := h
    have := own_at h1
    refine ⟨o, h1.keep fun i x hi hx => (hk i (by rw [this, hi])).1 _ hx, fun i hi => ?_⟩
    obtain ⟨h3, h4⟩ := h2 i hi
    exact ⟨(hk i (by rw [this, hi])).2 h3, h4⟩

/-- The state of a walk: what is seen, and what is owned. -/
structure Sta (base V B : Hp) (os : List Own1) : Prop where
  view : View V B
  gr : Gr base B
  own : ∀ x ∈ os, x.ok base V B
  ne : ∀ (i j : Nat) (x y : Own1) (k : Nat), os[i]? = some x → os[j]? = some y → x.at = some k → y.at = some k → i = j

theorem Sta.init (A : Hp) : Sta (roH A) (roH A) (roH A) [] := ⟨View.self A, .refl _, fun x hx => by simp at hx, fun i j x y k hx => by simp at hx⟩

section
variable {base V B : Hp} {os : List Own1}

theorem Sta.le (h : Sta base V B os) : Le V B := h.view.le

theorem Sta.obj (h : Sta base V B os) {k i : Nat} {b : Blk} (hk : os[k]? = some (.obj i b)) : B[i]? = some (.cells b) := (h.own _ (List.mem_of_getElem? hk)).1

theorem Sta.acc (h : Sta base V B os) {k sz : Nat} {a : Option Addr} {rows : List (List Value)} (hk : os[k]? = some (.acc a sz rows)) : Sl B a sz rows := by
  obtain ⟨o, h1, _⟩ := h.own _ (List.mem_of_getElem? hk)
  exact h1.sl

theorem NewStep.eq {A B : Hp} {i : Nat} {o : AObj} (h : NewStep A B i o) : i = A.length ∧ B = A ++ [o] := by
  obtain ⟨r, hr⟩ := h.pre
  have h1 := h.at_
  have h2 := h.idx
  have h3 := h.len
  subst h2; subst hr
  refine ⟨rfl, ?_⟩
  rw [List.length_append] at h3
  match r with
  | [x] => simp at h1; rw [h1]
  | [] => simp at h3
  | _ :: _ :: _ => simp at h3

theorem View.push {V B : Hp} (h : View V B) {o p : AObj} (ho : o = .dead ∨ o = roObj p) : View (V ++ [o]) (B ++ [p]) := by
  refine ⟨by simp [h.len], fun i x hx => ?_⟩
  rcases Nat.lt_or_ge i V.length with hi | hi
  · rw [List.getElem?_append_left hi] at hx
    rcases h.obj i x hx with h1 | ⟨q, h1, h2⟩
    · exact .inl h1
    · exact .inr ⟨q, at_app h1 _, h2⟩
  · rw [List.getElem?_append_right hi] at hx
    have : i - V.length = 0 := by have := (List.getElem?_eq_some_iff.1 hx).1; simp at this; omega
    rw [this] at hx
    simp at hx; subst hx
    rcases ho with ho | ho
    · exact .inl ho
    · refine .inr ⟨p, ?_, ho⟩
      have : i = B.length := by have := h.len; omega
      subst this
      exact at_new B p

theorem at_lt {A : Hp} {i : Nat} {o : AObj} (h : A[i]? = some o) : i < A.length := (List.getElem?_eq_some_iff.1 h).1

/-- A new object that is owned. -/
theorem Sta.ns (h : Sta base V B os) {B' : Hp} {i : Nat} {b : Blk} (hs : NewStep B B' i (.cells b)) (hb : b.ro = false) : ∃ V', Sta base V' B' (.obj i b :: os) ∧ Le V V' := by
  obtain ⟨rfl, rfl⟩ := hs.eq
  have hvl := h.view.len
  refine ⟨V ++ [.dead], ⟨h.view.push (.inl rfl), (hs.gr _ h.gr).1, ?_, ?_⟩, .app _ _⟩
  · intro x hx
    rcases List.mem_cons.1 hx with rfl | hx
    · refine ⟨at_new _ _, ?_, h.gr.le, hb⟩
      rw [← hvl]; exact at_new V .dead
    · exact Own1.keep (h.own x hx) fun k _ => ⟨fun o ho => at_app ho _, fun ho => at_app ho _⟩
  · have far : ∀ (j : Nat) (y : Own1), os[j]? = some y → y.at ≠ some B.length := by
      intro j y hy hk
      obtain ⟨b', h1, _⟩ := Own1.here (h.own y (List.mem_of_getElem? hy)) hk
      have := at_lt h1
      omega
    intro i j x y k hx hy hxk hyk
    cases i with
    | zero =>
      cases j with
      | zero => rfl
      | succ j =>
        simp at hx; subst hx; cases hxk
        exact absurd hyk (far j y (by simpa using hy))
    | succ i =>
      cases j with
      | zero =>
        simp at hy; subst hy; cases hyk
        exact absurd hxk (far i x (by simpa using hx))
      | succ j =>
        have := h.ne i j x y k (by simpa using hx) (by simpa using hy) hxk hyk
        omega

/-- A new object that is seen. -/
theorem Sta.nf (h : Sta base V B os) {B' : Hp} {i : Nat} {b : Blk} (hs : NewStep B B' i (.cells b)) : ∃ V', Sta base V' B' os ∧ Le V V' ∧ V'[i]? = some (.cells { b with ro := true }) := by
  obtain ⟨rfl, rfl⟩ := hs.eq
  have hvl := h.view.len
  refine ⟨V ++ [.cells { b with ro := true }], ⟨h.view.push (.inr rfl), (hs.gr _ h.gr).1, ?_, h.ne⟩, .app _ _, ?_⟩
  · intro x hx
    exact Own1.keep (h.own x hx) fun k _ => ⟨fun o ho => at_app ho _, fun ho => at_app ho _⟩
  · rw [← hvl]; exact at_new V _

theorem Sta.drop1 (h : Sta base V B os) (k : Nat) : Sta base V B (os.eraseIdx k) := by
  refine ⟨h.view, h.gr, fun x hx => h.own x (List.mem_of_mem_eraseIdx hx), ?_⟩
  intro i j x y q hx hy hxq hyq
  rw [List.getElem?_eraseIdx] at hx hy
  split at hx <;> split at hy
  · exact h.ne _ _ _ _ _ hx hy hxq hyq
  · have := h.ne _ _ _ _ _ hx hy hxq hyq; omega
  · have := h.ne _ _ _ _ _ hx hy hxq hyq; omega
  · have := h.ne _ _ _ _ _ hx hy hxq hyq; omega

theorem View.see {V B : Hp} (h : View V B) {i : Nat} {b : Blk} (hb : B[i]? = some (.cells b)) : View (V.set i (.cells { b with ro := true })) B := by
  refine ⟨by rw [List.length_set]; exact h.len, fun j o ho => ?_⟩
  by_cases hij : i = j
  · subst hij
    have : i < V.length := by have := at_lt ho; simpa using this
    rw [List.getElem?_set_self this] at ho
    cases ho
    exact .inr ⟨_, hb, rfl⟩
  · rw [List.getElem?_set_ne hij] at ho
    exact h.obj j o ho

/-- What is owned may be frozen. -/
theorem Sta.frz (h : Sta base V B os) {k i : Nat} {b : Blk} (hk : os[k]? = some (.obj i b)) : ∃ V', Sta base V' B (os.eraseIdx k) ∧ Le V V' ∧ V'[i]? = some (.cells { b with ro := true }) := by
  obtain ⟨h1, h2, h3, h4⟩ := h.own _ (List.mem_of_getElem? hk)
  have hd := h.drop1 k
  have hi := at_lt h2
  refine ⟨V.set i (.cells { b with ro := true }), ⟨h.view.see h1, h.gr, ?_, hd.ne⟩, Le.set h2 _, by simp [hi]⟩
  intro x hx
  obtain ⟨j, hj⟩ := List.mem_iff_getElem?.1 hx
  refine Own1.keep (hd.own x hx) fun q hq => ⟨fun o ho => ho, fun ho => ?_⟩
  rw [List.getElem?_set_ne]
  · exact ho
  · intro hiq
    subst hiq
    rw [List.getElem?_eraseIdx] at hj
    split at hj
    · have := h.ne _ _ _ _ _ hj hk hq rfl; omega
    · have := h.ne _ _ _ _ _ hj hk hq rfl; omega

theorem Sta.frzAcc (h : Sta base V B os) {k sz : Nat} {a : Option Addr} {rows : List (List Value)} (hk : os[k]? = some (.acc a sz rows)) :
    ∃ V', Sta base V' B (os.eraseIdx k) ∧ Le V V' ∧ Sl V' a sz rows ∧ (∀ p, a = some p → ∃ i off ver b, p = ⟨i, off, some ver⟩ ∧ V'[i]? = some (.cells b) ∧ b.ver = ver ∧ b.es = sz) := by
  obtain ⟨o, h1, h2⟩ := h.own _ (List.mem_of_getElem? hk)
  have hd := h.drop1 k
  cases o with
  | none =>
    obtain ⟨rfl, rfl⟩ := h1
    exact ⟨V, hd, .refl _, .inl rfl, fun p hp => by cases hp⟩
  | some i =>
    have hat := own_at h1
    obtain ⟨ver, rfl, h4, h5, h6⟩ := h1
    obtain ⟨h7, h8⟩ := h2 i rfl
    have hi := at_lt h7
    have hget : (V.set i (.cells ⟨rows.flatten, true, true, sz, ver⟩))[i]? = some (.cells ⟨rows.flatten, true, true, sz, ver⟩) := by simp [hi]
    refine ⟨V.set i (.cells ⟨rows.flatten, true, true, sz, ver⟩), ⟨h.view.see h4, h.gr, ?_, hd.ne⟩, Le.set h7 _, sl_of_at hget rfl h5 rfl, ?_⟩
    · intro x hx
      obtain ⟨j, hj⟩ := List.mem_iff_getElem?.1 hx
      refine Own1.keep (hd.own x hx) fun q hq => ⟨fun o ho => ho, fun ho => ?_⟩
      rw [List.getElem?_set_ne]
      · exact ho
      · intro hiq
        subst hiq
        rw [List.getElem?_eraseIdx] at hj
        split at hj
        · have := h.ne _ _ _ _ _ hj hk hq hat; omega
        · have := h.ne _ _ _ _ _ hj hk hq hat; omega
    · intro p hp
      cases hp
      exact ⟨i, 0, ver, _, rfl, hget, rfl, rfl⟩

/-- The same, with the block as it is. -/
theorem Sta.frzX (h : Sta base V B os) (k : Nat) {sz i : Nat} {b : Blk} {a : Option Addr} {rows : List (List Value)} (hk : os[k]? = some (.acc a sz rows)) (hb : B[i]? = some (.cells b)) (hat : (Own1.acc a sz rows).at = some i) :
    ∃ V', Sta base V' B (os.eraseIdx k) ∧ Le V V' ∧ V'[i]? = some (.cells { b with ro := true }) := by
  obtain ⟨b2, h4, h7, h8, _⟩ := Own1.here (h.own _ (List.mem_of_getElem? hk)) hat
  have hd := h.drop1 k
  have hi := at_lt h7
  refine ⟨V.set i (.cells { b with ro := true }), ⟨h.view.see hb, h.gr, ?_, hd.ne⟩, Le.set h7 _, by simp [hi]⟩
  intro x hx
  obtain ⟨j, hj⟩ := List.mem_iff_getElem?.1 hx
  refine Own1.keep (hd.own x hx) fun q hq => ⟨fun o ho => ho, fun ho => ?_⟩
  rw [List.getElem?_set_ne]
  · exact ho
  · intro hiq
    subst hiq
    rw [List.getElem?_eraseIdx] at hj
    split at hj
    · have := h.ne _ _ _ _ _ hj hk hq hat; omega
    · have := h.ne _ _ _ _ _ hj hk hq hat; omega

theorem Sta.addAcc (h : Sta base V B os) (sz : Nat) : Sta base V B (.acc none sz [] :: os) := by
  refine ⟨h.view, h.gr, ?_, ?_⟩
  · intro x hx
    rcases List.mem_cons.1 hx with rfl | hx
    · exact ⟨none, ⟨rfl, rfl⟩, fun i hi => by cases hi⟩
    · exact h.own x hx
  · intro i j x y k hx hy hxk hyk
    cases i with
    | zero => simp at hx; subst hx; cases hxk
    | succ i =>
      cases j with
      | zero => simp at hy; subst hy; cases hyk
      | succ j =>
        have := h.ne i j x y k (by simpa using hx) (by simpa using hy) hxk hyk
        omega

theorem Fresh.ro {r : Hp} : Le r (roH r) := Le.ro r

theorem View.apps {V B : Hp} (h : View V B) (r : Hp) : View (V ++ roH r) (B ++ r) := by
  refine ⟨by simp [h.len, roH_length], fun i x hx => ?_⟩
  have hl := h.len
  rcases Nat.lt_or_ge i V.length with hi | hi
  · rw [List.getElem?_append_left hi] at hx
    rcases h.obj i x hx with h1 | ⟨q, h1, h2⟩
    · exact .inl h1
    · exact .inr ⟨q, at_app h1 _, h2⟩
  · rw [List.getElem?_append_right hi] at hx
    obtain ⟨p, hp, he⟩ := roH_get hx
    exact .inr ⟨p, by rw [List.getElem?_append_right (by omega), ← hl]; exact hp, he⟩

/-- Behind a call. -/
theorem Sta.call (h : Sta base V B os) {r : Hp} (hr : Fresh r) : Sta base (V ++ roH r) (B ++ r) os :=
  ⟨h.view.apps r, h.gr.app hr, fun x hx => Own1.keep (h.own x hx) fun _ _ => ⟨fun o ho => at_app ho _, fun ho => at_app ho _⟩, h.ne⟩

theorem Sta.callLe (h : Sta base V B os) (r : Hp) : Le (V ++ r) (V ++ roH r) := (Le.refl V).app2 rfl (Le.ro r)

/-- Behind a store. -/
theorem Sta.ss (h : Sta base V B os) {k i : Nat} {b b' : Blk} {B' : Hp} (hk : os[k]? = some (.obj i b)) (hs : SetStep B B' i (.cells b')) (hb : b'.ro = false) : Sta base V B' (os.set k (.obj i b')) := by
  obtain ⟨h1, h2, h3, h4⟩ := h.own _ (List.mem_of_getElem? hk)
  have hkl := (List.getElem?_eq_some_iff.1 hk).1
  refine ⟨⟨by rw [h.view.len, hs.len], ?_⟩, hs.gr _ h.gr h3, ?_, ?_⟩
  · intro j o ho
    by_cases hij : j = i
    · subst hij; rw [h2] at ho; cases ho; exact .inl rfl
    · rcases h.view.obj j o ho with h5 | ⟨p, h5, h6⟩
      · exact .inl h5
      · exact .inr ⟨p, hs.keep j p hij h5, h6⟩
  · intro x hx
    obtain ⟨j, hj⟩ := List.mem_iff_getElem?.1 hx
    by_cases hne : k = j
    · subst hne
      rw [List.getElem?_set_self hkl] at hj
      cases hj; exact ⟨hs.at_, h2, h3, hb⟩
    · rw [List.getElem?_set_ne hne] at hj
      refine Own1.keep (h.own x (List.mem_of_getElem? hj)) fun q hq => ⟨fun o ho => hs.keep q o (fun hqi => ?_) ho, fun ho => ho⟩
      subst hqi
      exact hne (h.ne _ _ _ _ _ hk hj rfl hq)
  · intro p q x y z hx hy hxz hyz
    by_cases h5 : k = p <;> by_cases h6 : k = q
    · omega
    · subst h5
      rw [List.getElem?_set_self hkl] at hx
      rw [List.getElem?_set_ne h6] at hy
      cases hx; cases hxz
      exact absurd (h.ne _ _ _ _ _ hk hy rfl hyz) h6
    · subst h6
      rw [List.getElem?_set_self hkl] at hy
      rw [List.getElem?_set_ne h5] at hx
      cases hy; cases hyz
      exact absurd (h.ne _ _ _ _ _ hk hx rfl hxz) h5
    · rw [List.getElem?_set_ne h5] at hx
      rw [List.getElem?_set_ne h6] at hy
      exact h.ne _ _ _ _ _ hx hy hxz hyz

/-- Behind an append. -/
theorem Sta.as (h : Sta base V B os) {k sz : Nat} {a a' : Option Addr} {rows rows' : List (List Value)} {o o' : Option Nat} {B' : Hp} (hk : os[k]? = some (.acc a sz rows)) (ho : Own B o a sz rows) (ho' : Own B' o' a' sz rows') (hs : AppStep B o B' o') :
    ∃ V', Sta base V' B' (os.set k (.acc a' sz rows')) ∧ Le V V' := by
  obtain ⟨o2, g1, g2⟩ := h.own _ (List.mem_of_getElem? hk)
  have e : o2 = o := by rw [← own_at g1, ← own_at ho]
  subst e
  have hkl := (List.getElem?_eq_some_iff.1 hk).1
  have hvl := h.view.len
  have hat := own_at ho
  have hat' := own_at ho'
  have hgr := hs.gr base h.gr (fun i hi => (g2 i hi).2)
  have hlen := hs.le
  have hdead : ∀ i, B.length ≤ i → i < B'.length → (V ++ List.replicate (B'.length - B.length) AObj.dead)[i]? = some .dead := by
    intro i h1 h2
    rw [List.getElem?_append_right (by omega), List.getElem?_replicate, if_pos (by omega)]
  refine ⟨V ++ List.replicate (B'.length - B.length) .dead, ⟨⟨by simp [hvl]; omega, ?_⟩, hgr.1, ?_, ?_⟩, .app _ _⟩
  · intro j x hx
    rcases Nat.lt_or_ge j V.length with hj | hj
    · rw [List.getElem?_append_left hj] at hx
      rcases h.view.obj j x hx with h1 | ⟨p, h1, h2⟩
      · exact .inl h1
      · by_cases hjo : some j = o2
        · have := (g2 j hjo.symm).1
          rw [hx] at this; cases this; exact .inl rfl
        · exact .inr ⟨p, hs.keep j p h1 hjo, h2⟩
    · have hl2 := at_lt hx
      simp only [List.length_append, List.length_replicate] at hl2
      have := hdead j (by omega) (by omega)
      rw [this] at hx; cases hx; exact .inl rfl
  · intro x hx
    obtain ⟨j, hj⟩ := List.mem_iff_getElem?.1 hx
    by_cases hne : k = j
    · subst hne
      rw [List.getElem?_set_self hkl] at hj
      cases hj
      refine ⟨o', ho', fun i hi => ⟨?_, hgr.2 i hi⟩⟩
      rcases hs.which with hw | hw
      · rw [hw] at hi
        exact at_app (g2 i hi).1 _
      · rw [hw] at hi; cases hi
        subst hw
        obtain ⟨ver, _, h4, _⟩ := ho'
        exact hdead _ (Nat.le_refl _) (at_lt h4)
    · rw [List.getElem?_set_ne hne] at hj
      refine Own1.keep (h.own x (List.mem_of_getElem? hj)) fun q hq => ⟨fun y hy => hs.keep q y hy (fun hqo => ?_), fun hy => at_app hy _⟩
      exact hne (h.ne _ _ _ _ _ hk hj (by rw [hat]; exact hqo.symm) hq)
  · have far : ∀ (j : Nat) (y : Own1), k ≠ j → os[j]? = some y → y.at = o' → o' = none := by
      intro j y hkj hy hyo
      cases ho3 : o' with
      | none => rfl
      | some i =>
        rw [ho3] at hyo
        rcases hs.which with hw | hw
        · rw [ho3] at hw
          exact absurd (h.ne _ _ _ _ _ hk hy (by rw [hat]; exact hw.symm) hyo) hkj
        · rw [ho3] at hw; cases hw
          obtain ⟨b', h1, _⟩ := Own1.here (h.own y (List.mem_of_getElem? hy)) hyo
          have := at_lt h1
          omega
    intro p q x y z hx hy hxz hyz
    by_cases h5 : k = p <;> by_cases h6 : k = q
    · omega
    · subst h5
      rw [List.getElem?_set_self hkl] at hx
      rw [List.getElem?_set_ne h6] at hy
      cases hx
      rw [hat'] at hxz
      have := far q y h6 hy (by rw [hyz, hxz])
      rw [this] at hxz; cases hxz
    · subst h6
      rw [List.getElem?_set_self hkl] at hy
      rw [List.getElem?_set_ne h5] at hx
      cases hy
      rw [hat'] at hyz
      have := far p x h5 hx (by rw [hxz, hyz])
      rw [this] at hyz; cases hyz
    · rw [List.getElem?_set_ne h5] at hx
      rw [List.getElem?_set_ne h6] at hy
      exact h.ne _ _ _ _ _ hx hy hxz hyz

end

section
variable {P : Program} {E : List TypeId} {n : Nat} {m : TF} {base V B : Hp} {os : List Own1} {K : TF → Hp → Prop} {ops : List Oper} {c k : Nat} {rest : List Oper} {d : Nat} {op : Op} {ty : TypeId} {ps : String} {af : Array Edge} {g : Option (Nat × Bool)}

/-- A call of a function with a contract over what is seen. -/
theorem wo_callV {f : FuncId} {args : List Value} {R : Value → Hp → Prop} (hst : Sta base V B os) (h : Fun P f args V R) (hc : callee (evM m) op = some (f, args))
    (hw : wantM ops m ⟨some d, op, ty, ps, af, g⟩ = some true) (hd : Nat.blt d n = true)
    (hn : ∀ v V' B' r, R v (V ++ r) → Sta base V' B' os → Le V V' → Le (V ++ r) V' → Wo E P n ops c rest (k + 1) ((d, v) :: m) B' K) : Wo E P n ops c (⟨some d, op, ty, ps, af, g⟩ :: rest) k m B K := by
  obtain ⟨v, r, h1, h2, h3⟩ := h
  rw [hst.view.fixed] at h1 h3
  have hn' := hn v _ _ r h3 (hst.call h2) (Le.app _ _) (hst.callLe r)
  cases hk : Nat.blt k c with
  | true => exact wo_free (o := ⟨some d, op, ty, ps, af, g⟩) hd hw hc hk (ev_view hst.view.ro h1 h2) (roH_length B) h2 hn'
  | false =>
    refine wo_call (o := ⟨some d, op, ty, ps, af, g⟩) hd hw hc ?_ (ev_view hst.view h1 h2) hn'
    cases hb : Nat.ble c k with
    | true => rfl
    | false =>
      have h1 : ¬ k < c := fun h => by rw [blt_iff.2 h] at hk; cases hk
      have : c ≤ k := by omega
      rw [Nat.ble_eq_true_of_le this] at hb; cases hb

end

/-- A contract out of a walk. -/
theorem fun_walkV {P : Program} {f : FuncId} {fn : Func} {c : Code} {args : List Value} {A : Hp} {R : Value → Hp → Prop} (hf : P.funcs[f]? = some fn) (hb : fn.body = some c) (hn : Nat.ble args.length fn.ntmps = true)
    (h : ∀ V, Le A V → Sta V V V [] → W P fn.ntmps c (argsM 0 args) V fun e m' B => (e = .normal ∨ e = .ret) ∧ Gr V B ∧ ∃ vs, ressM P m' B fn.results.toList = some vs ∧ R (oneOf vs) B) : Fun P f args A R :=
  fun_walk hf hb hn (h (roH A) (Le.ro A) (Sta.init A))

end Go.Dx
