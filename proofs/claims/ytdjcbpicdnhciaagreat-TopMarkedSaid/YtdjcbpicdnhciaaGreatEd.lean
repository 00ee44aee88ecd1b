/- The data layer: what runs over a small heap runs over every heap that has it in it. -/
import Derived.Test.YtdjcbpicdnhciaaGreatEc
set_option linter.unusedVariables false
set_option linter.unusedSimpArgs false
namespace Go.Dx

/-- For an object of the small heap: the object of the big heap, and the versions of both. -/
abbrev Ren := Nat → Option (Nat × Nat × Nat)

inductive VMap (ρ : Ren) : Value → Value → Prop
  | same (v : Value) : flat v = true → VMap ρ v v
  | ptr (i j off v u : Nat) : ρ i = some (j, v, u) → VMap ρ (.pointer (some ⟨i, off, some v⟩)) (.pointer (some ⟨j, off, some u⟩))
  | slice (i j off v u n c : Nat) : ρ i = some (j, v, u) → VMap ρ (.slice (some ⟨i, off, some v⟩) n c) (.slice (some ⟨j, off, some u⟩) n c)
  | agg (xs ys : Array Value) (hx : xs.size = ys.size) (h : ∀ (i : Nat) (x y : Value), xs[i]? = some x → ys[i]? = some y → VMap ρ x y) : VMap ρ (.agg xs) (.agg ys)
  | tuple (xs ys : Array Value) (hx : xs.size = ys.size) (h : ∀ (i : Nat) (x y : Value), xs[i]? = some x → ys[i]? = some y → VMap ρ x y) : VMap ρ (.tuple xs) (.tuple ys)

def Maps (ρ : Ren) (xs ys : List Value) : Prop := xs.length = ys.length ∧ ∀ (i : Nat) (x y : Value), xs[i]? = some x → ys[i]? = some y → VMap ρ x y

theorem Maps.nil {ρ : Ren} : Maps ρ [] [] := ⟨rfl, fun i x y h => by simp at h⟩
theorem Maps.cons {ρ : Ren} {x y : Value} {xs ys : List Value} (h : VMap ρ x y) (hs : Maps ρ xs ys) : Maps ρ (x :: xs) (y :: ys) := by
  refine ⟨by simp [hs.1], fun i a b ha hb => ?_⟩
  cases i with
  | zero => simp at ha hb; subst ha; subst hb; exact h
  | succ i => simp at ha hb; exact hs.2 i a b ha hb
theorem VMap.agg' {ρ : Ren} {xs ys : List Value} (h : Maps ρ xs ys) : VMap ρ (.agg ⟨xs⟩) (.agg ⟨ys⟩) := .agg _ _ (by simpa using h.1) (fun i x y hx hy => h.2 i x y (by simpa using hx) (by simpa using hy))
theorem VMap.tuple' {ρ : Ren} {xs ys : List Value} (h : Maps ρ xs ys) : VMap ρ (.tuple ⟨xs⟩) (.tuple ⟨ys⟩) := .tuple _ _ (by simpa using h.1) (fun i x y hx hy => h.2 i x y (by simpa using hx) (by simpa using hy))
theorem Maps.same {ρ : Ren} {xs : List Value} (h : ∀ x ∈ xs, flat x = true) : Maps ρ xs xs := ⟨rfl, fun i x y hx hy => by rw [hx] at hy; cases hy; exact .same x (h x (List.mem_of_getElem? hx))⟩

/-- Out of the big heap into the small one. -/
theorem VMap.small {ρ : Ren} {φs φb : Rz} (hφ : ∀ i j v u l, ρ i = some (j, v, u) → φb j = some l → l.ver = u ∧ φs i = some { l with ver := v }) {vs vb : Value} (h : VMap ρ vs vb) : ∀ {v' : Value}, VRel φb vb v' → VRel φs vs v' := by
  induction h with
  | same v hf => intro v' hv; rw [flat_eq hf hv]; exact flat_rel hf
  | ptr i j off v u hi =>
    intro v' hv
    cases hv with
    | ptr _ _ _ l a' h1 h2 h3 =>
      obtain ⟨e1, e2⟩ := hφ i j v u l hi h1
      exact .ptr i off v _ a' e2 (Nat.le_refl _) (fun _ => h3 e1.symm)
  | slice i j off v u n c hi =>
    intro v' hv
    cases hv with
    | slice _ _ _ _ _ c' l a' h1 h2 h3 h4 h5 =>
      obtain ⟨e1, e2⟩ := hφ i j v u l hi h1
      exact .slice i off v n c c' _ a' e2 (Nat.le_refl _) h3 h4 (fun _ => h5 e1.symm)
  | agg xs ys hx _ ih =>
    intro v' hv
    cases hv with
    | agg _ zs hz h =>
      refine .agg xs zs (hx.trans hz) fun i x z hxi hzi => ?_
      have hi : i < ys.size := by
        have := (Array.getElem?_eq_some_iff.1 hxi).1; omega
      exact ih i x ys[i] hxi (by simp [hi]) (h i _ z (by simp [hi]) hzi)
  | tuple xs ys hx _ ih =>
    intro v' hv
    cases hv with
    | tuple _ zs hz h =>
      refine .tuple xs zs (hx.trans hz) fun i x z hxi hzi => ?_
      have hi : i < ys.size := by
        have := (Array.getElem?_eq_some_iff.1 hxi).1; omega
      exact ih i x ys[i] hxi (by simp [hi]) (h i _ z (by simp [hi]) hzi)

/-- Out of the small heap into the big one. -/
theorem VMap.big {ρ : Ren} {φs φb : Rz} (hφ : ∀ i j v u l, ρ i = some (j, v, u) → φs i = some l → l.ver = v ∧ φb j = some { l with ver := u }) {vs vb : Value} (h : VMap ρ vs vb) : ∀ {v' : Value}, VRel φs vs v' → VRel φb vb v' := by
  induction h with
  | same v hf => intro v' hv; rw [flat_eq hf hv]; exact flat_rel hf
  | ptr i j off v u hi =>
    intro v' hv
    cases hv with
    | ptr _ _ _ l a' h1 h2 h3 =>
      obtain ⟨e1, e2⟩ := hφ i j v u l hi h1
      exact .ptr j off u _ a' e2 (Nat.le_refl _) (fun _ => h3 e1.symm)
  | slice i j off v u n c hi =>
    intro v' hv
    cases hv with
    | slice _ _ _ _ _ c' l a' h1 h2 h3 h4 h5 =>
      obtain ⟨e1, e2⟩ := hφ i j v u l hi h1
      exact .slice j off u n c c' _ a' e2 (Nat.le_refl _) h3 h4 (fun _ => h5 e1.symm)
  | agg xs ys hx _ ih =>
    intro v' hv
    cases hv with
    | agg _ zs hz h =>
      refine .agg ys zs (hx.symm.trans hz) fun i y z hyi hzi => ?_
      have hi : i < xs.size := by
        have := (Array.getElem?_eq_some_iff.1 hyi).1; omega
      exact ih i xs[i] y (by simp [hi]) hyi (h i _ z (by simp [hi]) hzi)
  | tuple xs ys hx _ ih =>
    intro v' hv
    cases hv with
    | tuple _ zs hz h =>
      refine .tuple ys zs (hx.symm.trans hz) fun i y z hyi hzi => ?_
      have hi : i < xs.size := by
        have := (Array.getElem?_eq_some_iff.1 hyi).1; omega
      exact ih i xs[i] y (by simp [hi]) hyi (h i _ z (by simp [hi]) hzi)

theorem Maps.small {ρ : Ren} {φs φb : Rz} (hφ : ∀ i j v u l, ρ i = some (j, v, u) → φb j = some l → l.ver = u ∧ φs i = some { l with ver := v }) {xs ys zs : List Value} (h : Maps ρ xs ys) (hr : Rels φb ys zs) : Rels φs xs zs := by
  refine ⟨h.1.trans hr.1, fun i x z hx hz => ?_⟩
  have hi : i < ys.length := by rw [← h.1]; exact (List.getElem?_eq_some_iff.1 hx).1
  exact (h.2 i x ys[i] hx (by simp [hi])).small hφ (hr.2 i _ z (by simp [hi]) hz)

/-- An object of the small heap, found in the big one. -/
def OMap (ρ : Ren) (v u : Nat) : AObj → AObj → Prop
  | .cells b, .cells b' => Maps ρ b.cs b'.cs ∧ b'.es = b.es ∧ b'.opn = b.opn ∧ b.ver = v ∧ b'.ver = u
  | _, _ => False

theorem OMap.big_alive {ρ : Ren} {v u : Nat} {os ob : AObj} (h : OMap ρ v u os ob) : ob.alive = true := by
  cases os <;> cases ob <;> first | rfl | exact h.elim

theorem OMap.small_alive {ρ : Ren} {v u : Nat} {os ob : AObj} (h : OMap ρ v u os ob) : os.alive = true := by
  cases os <;> cases ob <;> first | rfl | exact h.elim

theorem OMap.ver_big {ρ : Ren} {v u : Nat} {os ob : AObj} {φ : Rz} {w : World} {l : Loc} (h : OMap ρ v u os ob) (ho : ORel φ w l ob) : l.ver = u := by
  cases os <;> cases ob <;> first | exact h.elim | skip
  exact ho.1.2.2.2.1.trans h.2.2.2.2

theorem OMap.ver_small {ρ : Ren} {v u : Nat} {os ob : AObj} {φ : Rz} {w : World} {l : Loc} (h : OMap ρ v u os ob) (ho : ORel φ w l os) : l.ver = v := by
  cases os <;> cases ob <;> first | exact h.elim | skip
  exact ho.1.2.2.2.1.trans h.2.2.2.1

theorem VMap.cell {ρ : Ren} {x y : Value} (h : VMap ρ x y) : isCell x = isCell y := by
  cases h <;> rfl

theorem OMap.small {ρ : Ren} {φs φb : Rz} {w : World} {l : Loc} {v u : Nat} (hφ : ∀ i j v u l, ρ i = some (j, v, u) → φb j = some l → l.ver = u ∧ φs i = some { l with ver := v }) {os ob : AObj} (h : OMap ρ v u os ob) (hf : os.wr = false) (ho : ORel φb w l ob) : ORel φs w { l with ver := v } os := by
  cases os with
  | cells b =>
    cases ob with
    | cells b' =>
      obtain ⟨h1, h2, h3, h4, h5⟩ := h
      obtain ⟨⟨g1, g2, g3, g4, g5⟩, arr, el, fr, k1, k2, k3, k4, k5⟩ := ho
      have hro : b.ro = true := by simpa [AObj.wr] using hf
      refine ⟨⟨by rw [← h1.1] at g1; exact g1, by rw [h2] at g2; exact g2, by rw [h3] at g3; exact g3, h4.symm, g5⟩, arr, el, fr, k1, k2, (fun h => by rw [hro] at h; cases h), by rw [h1.1]; exact k4, ?_⟩
      intro j x hx
      have hj : j < b'.cs.length := by rw [← h1.1]; exact (List.getElem?_eq_some_iff.1 hx).1
      obtain ⟨c1, y, c2, c3⟩ := k5 j b'.cs[j] (by simp [hj])
      have hm := h1.2 j x b'.cs[j] hx (by simp [hj])
      exact ⟨by rw [hm.cell]; exact c1, y, c2, hm.small hφ c3⟩
    | _ => exact h.elim
  | dead => cases ob <;> exact h.elim
  | map _ _ => cases ob <;> exact h.elim
  | iter _ _ => cases ob <;> exact h.elim

theorem OMap.big {ρ : Ren} {φs φb : Rz} {w : World} {l : Loc} {v u : Nat} (hφ : ∀ i j v u l, ρ i = some (j, v, u) → φs i = some l → l.ver = v ∧ φb j = some { l with ver := u }) {os ob : AObj} (h : OMap ρ v u os ob) (hw : os.wr = true) (ho : ORel φs w l os) : ORel φb w { l with ver := u } ob := by
  cases os with
  | cells b =>
    cases ob with
    | cells b' =>
      obtain ⟨h1, h2, h3, h4, h5⟩ := h
      obtain ⟨⟨g1, g2, g3, g4, g5⟩, arr, el, fr, k1, k2, k3, k4, k5⟩ := ho
      have hro : b.ro = false := by simpa [AObj.wr] using hw
      refine ⟨⟨by rw [h1.1] at g1; exact g1, by rw [← h2] at g2; exact g2, by rw [← h3] at g3; exact g3, h5.symm, g5⟩, arr, el, fr, k1, k2, (fun _ => k3 hro), by rw [← h1.1]; exact k4, ?_⟩
      intro j x hx
      have hj : j < b.cs.length := by rw [h1.1]; exact (List.getElem?_eq_some_iff.1 hx).1
      obtain ⟨c1, y, c2, c3⟩ := k5 j b.cs[j] (by simp [hj])
      have hm := h1.2 j b.cs[j] x (by simp [hj]) hx
      exact ⟨by rw [← hm.cell]; exact c1, y, c2, hm.big hφ c3⟩
    | _ => exact h.elim
  | dead => cases ob <;> exact h.elim
  | map _ _ => cases ob <;> exact h.elim
  | iter _ _ => cases ob <;> exact h.elim

/-- The objects of the small heap, and the new ones. -/
def plus (n : Nat) (ρ : Ren) (π : Nat → Option (Nat × Nat)) : Ren := fun i => if i < n then ρ i else (π i).map fun (j, v) => (j, v, v)

theorem loc_ver {l : Loc} {v : Nat} (h : l.ver = v) : { l with ver := v } = l := by cases l; simp at h; simp [h]

open Classical in
/-- WHAT RUNS OVER A SMALL HEAP RUNS OVER A BIG ONE. -/
theorem ev_reloc {P : Program} {f : FuncId} {as bs : List Value} {As Rs Ab rb : Hp} {vs vb : Value} {ρ : Ren} {π : Nat → Option (Nat × Nat)} (h : Ev P f as As vs Rs) (hfz : ∀ (i : Nat) (o : AObj), As[i]? = some o → o.wr = false)
    (hρ : ∀ i j v u, ρ i = some (j, v, u) → ∃ os ob, As[i]? = some os ∧ Ab[j]? = some ob ∧ OMap ρ v u os ob)
    (ha : Maps ρ as bs)
    (hπ : ∀ k j v, π k = some (j, v) → As.length ≤ k ∧ Ab.length ≤ j ∧ ∃ os ob, Rs[k]? = some os ∧ (Ab ++ rb)[j]? = some ob ∧ os.wr = true ∧ OMap (plus As.length ρ π) v v os ob)
    (hinj : ∀ k k' j v v', π k = some (j, v) → π k' = some (j, v') → k = k') (hsur : ∀ j, Ab.length ≤ j → j < (Ab ++ rb).length → ∃ k v, π k = some (j, v))
    (hv : VMap (plus As.length ρ π) vs vb) : Ev P f bs Ab vb (Ab ++ rb) := by
  refine ⟨h.1, fun φb args' w hH hargs => ?_⟩
  have hρl : ∀ i j v u, ρ i = some (j, v, u) → i < As.length ∧ j < Ab.length := fun i j v u hi => by
    obtain ⟨os, ob, h1, h2, _⟩ := hρ i j v u hi
    exact ⟨(List.getElem?_eq_some_iff.1 h1).1, (List.getElem?_eq_some_iff.1 h2).1⟩
  have hbver : ∀ i j v u l, ρ i = some (j, v, u) → φb j = some l → l.ver = u := fun i j v u l hi hl => by
    obtain ⟨os, ob, _, h2, h3⟩ := hρ i j v u hi
    exact h3.ver_big (hH.obj j ob l hl h2 h3.big_alive).2
  let φs : Rz := fun i => match ρ i with
    | some (j, v, _) => (φb j).map fun l => { l with ver := v }
    | none => none
  have hφs : ∀ i j v u, ρ i = some (j, v, u) → φs i = (φb j).map fun l => { l with ver := v } := fun i j v u hi => by simp only [φs, hi]
  have hφ : ∀ i j v u l, ρ i = some (j, v, u) → φb j = some l → l.ver = u ∧ φs i = some { l with ver := v } := fun i j v u l hi hl =>
    ⟨hbver i j v u l hi hl, by rw [hφs i j v u hi, hl]; rfl⟩
  have hHs : HRel φs As w := by
    refine ⟨?_, ?_, ?_⟩
    · intro i hi
      cases hr : ρ i with
      | none => simp only [φs, hr]
      | some jvu => obtain ⟨j, v, u⟩ := jvu; have := (hρl i j v u hr).1; omega
    · intro i o l hl ho hal
      cases hr : ρ i with
      | none => simp only [φs, hr] at hl; cases hl
      | some jvu =>
        obtain ⟨j, v, u⟩ := jvu
        rw [hφs i j v u hr, Option.map_eq_some_iff] at hl
        obtain ⟨l0, hl0, rfl⟩ := hl
        obtain ⟨os, ob, h1, h2, h3⟩ := hρ i j v u hr
        rw [ho] at h1; cases h1
        obtain ⟨g1, g2⟩ := hH.obj j ob l0 hl0 h2 h3.big_alive
        exact ⟨g1, h3.small hφ (hfz i o ho) g2⟩
    · intro i j o p l m _ ho _ hw
      rw [hfz i o ho] at hw; cases hw
  refine (h.2 _ args' w hHs (ha.small hφ hargs)).mono ?_
  rintro e w' ⟨v1, v', R1, φ', he, ⟨rfl, rfl⟩, hvr, hH', hf⟩
  have hmem : ∀ b, b < w.heap.size → w'.heap[b]? = w.heap[b]? := fun b hb => hf.keep b hb (fun i o l h1 h2 => by rw [hfz i o h1] at h2; cases h2)
  have hphi : ∀ i, i < As.length → φ' i = φs i := fun i hi => hf.phi i hi (fun o ho => hfz i o ho)
  have hfar : ∀ (k : Nat) (o : AObj) (l : Loc), R1[k]? = some o → o.wr = true → φ' k = some l → w.heap.size ≤ l.blk := by
    intro k o l ho hw hl
    rcases Nat.lt_or_ge l.blk w.heap.size with hb | hb
    · obtain ⟨j, p, m, h1, h2, _⟩ := hf.wr k o l ho hw hl hb
      rw [hfz j p h1] at h2; cases h2
    · exact hb
  let φn : Rz := fun j => if j < Ab.length then φb j else if hj : ∃ k v, π k = some (j, v) then φ' (Classical.choose hj) else none
  have hn_old : ∀ j, j < Ab.length → φn j = φb j := fun j hj => by simp only [φn]; rw [if_pos hj]
  have hn_new : ∀ k j v, π k = some (j, v) → φn j = φ' k := by
    intro k j v hk
    have hj := (hπ k j v hk).2.1
    have hex : ∃ k v, π k = some (j, v) := ⟨k, v, hk⟩
    simp only [φn]
    rw [if_neg (by omega), dif_pos hex]
    obtain ⟨v2, hv2⟩ := Classical.choose_spec hex
    rw [hinj _ k j _ _ hv2 hk]
  have hn_none : ∀ j, Ab.length ≤ j → (∀ k v, π k ≠ some (j, v)) → φn j = none := by
    intro j hj hk
    simp only [φn]
    rw [if_neg (by omega), dif_neg (fun ⟨k, v, hk'⟩ => hk k v hk')]
  have hbig : ∀ i j v u l, plus As.length ρ π i = some (j, v, u) → φ' i = some l → l.ver = v ∧ φn j = some { l with ver := u } := by
    intro i j v u l hi hl
    unfold plus at hi
    split at hi
    · rename_i hlt
      rw [hphi i hlt, hφs i j v u hi, Option.map_eq_some_iff] at hl
      obtain ⟨l0, hl0, rfl⟩ := hl
      refine ⟨rfl, ?_⟩
      rw [hn_old j (hρl i j v u hi).2, hl0]
      have := hbver i j v u l0 hi hl0
      simp only [Option.some.injEq]
      exact (loc_ver this).symm
    · rw [Option.map_eq_some_iff] at hi
      obtain ⟨⟨j', v'⟩, hk, he⟩ := hi
      simp only [Prod.mk.injEq] at he
      obtain ⟨rfl, rfl, rfl⟩ := he
      obtain ⟨_, _, os, ob, g1, g2, g3, g4⟩ := hπ i _ _ hk
      have hlv := g4.ver_small (hH'.obj i os l hl g1 g4.small_alive).2
      refine ⟨hlv, ?_⟩
      rw [hn_new i _ _ hk, hl, loc_ver hlv]
  have hext : Ext φb φn := by
    intro j l hl
    refine ⟨l, ?_, .inl rfl⟩
    have hj : j < Ab.length := by
      rcases Nat.lt_or_ge j Ab.length with h | h
      · exact h
      · rw [hH.dom j h] at hl; cases hl
    rw [hn_old j hj]; exact hl
  have hget : ∀ (j : Nat) (o : AObj), j < Ab.length → (Ab ++ rb)[j]? = some o → Ab[j]? = some o := fun j o hj ho => by rw [List.getElem?_append_left hj] at ho; exact ho
  have hnewo : ∀ (j : Nat) (o : AObj) (l : Loc), Ab.length ≤ j → (Ab ++ rb)[j]? = some o → φn j = some l → ∃ k v os, π k = some (j, v) ∧ R1[k]? = some os ∧ os.wr = true ∧ OMap (plus As.length ρ π) v v os o ∧ φ' k = some l := by
    intro j o l hj ho hl
    obtain ⟨k, v, hk⟩ := hsur j hj (List.getElem?_eq_some_iff.1 ho).1
    obtain ⟨_, _, os, ob, h1, h2, h3, h4⟩ := hπ k j v hk
    rw [ho] at h2; cases h2
    rw [hn_new k j v hk] at hl
    exact ⟨k, v, os, hk, h1, h3, h4, hl⟩
  refine ⟨vb, v', Ab ++ rb, φn, he, ⟨rfl, rfl⟩, hv.big hbig hvr, ⟨?_, ?_, ?_⟩, ?_⟩
  · intro j hj
    refine hn_none j (by rw [List.length_append] at hj; omega) fun k v hk => ?_
    obtain ⟨_, _, os, ob, _, h2, _⟩ := hπ k j v hk
    have := (List.getElem?_eq_some_iff.1 h2).1
    omega
  · intro j o l hl ho hal
    rcases Nat.lt_or_ge j Ab.length with hj | hj
    · rw [hn_old j hj] at hl
      obtain ⟨g1, g2⟩ := hH.obj j o l hl (hget j o hj ho) hal
      have := hf.size
      exact ⟨by omega, g2.mono hext (hmem _ g1)⟩
    · obtain ⟨k, v, os, _, h1, h2, h3, h4⟩ := hnewo j o l hj ho hl
      obtain ⟨g1, g2⟩ := hH'.obj k os l h4 h1 (AObj.alive_of_wr h2)
      refine ⟨g1, ?_⟩
      have := h3.big hbig h2 g2
      rw [loc_ver (h3.ver_small g2)] at this
      exact this
  · intro i j o p l m hij ho hp hw hal hl hm
    rcases Nat.lt_or_ge i Ab.length with hi | hi <;> rcases Nat.lt_or_ge j Ab.length with hj | hj
    · rw [hn_old i hi] at hl; rw [hn_old j hj] at hm
      exact hH.sep i j o p l m hij (hget i o hi ho) (hget j p hj hp) hw hal hl hm
    · rw [hn_old i hi] at hl
      have h1 := (hH.obj i o l hl (hget i o hi ho) (AObj.alive_of_wr hw)).1
      obtain ⟨k, v, os, _, g1, g2, _, g4⟩ := hnewo j p m hj hp hm
      have := hfar k os m g1 g2 g4
      omega
    · rw [hn_old j hj] at hm
      have h1 := (hH.obj j p m hm (hget j p hj hp) hal).1
      obtain ⟨k, v, os, _, g1, g2, _, g4⟩ := hnewo i o l hi ho hl
      have := hfar k os l g1 g2 g4
      omega
    · obtain ⟨k, v, os, e1, g1, g2, _, g4⟩ := hnewo i o l hi ho hl
      obtain ⟨k', v2, os', e1', g1', g2', _, g4'⟩ := hnewo j p m hj hp hm
      refine hH'.sep k k' os os' l m (fun hkk => ?_) g1 g1' g2 (AObj.alive_of_wr g2') g4 g4'
      subst hkk; rw [e1] at e1'; cases e1'; exact hij rfl
  · refine ⟨hf.size, by simp, fun b hb _ => hmem b hb, ?_, fun j hj _ => hn_old j hj, hext, ?_, hf.tape, hf.os, hf.output⟩
    · intro j o l ho hw hl hb
      rcases Nat.lt_or_ge j Ab.length with hj | hj
      · rw [hn_old j hj] at hl
        exact ⟨j, o, l, hget j o hj ho, hw, hl, rfl⟩
      · obtain ⟨k, v, os, _, g1, g2, _, g4⟩ := hnewo j o l hj ho hl
        have := hfar k os l g1 g2 g4
        omega
    · intro j hj hn o ho
      exact hn o (hget j o hj ho)

/-- The same where the result is plain data. -/
theorem ev_plain {P : Program} {f : FuncId} {as bs : List Value} {As Rs Ab : Hp} {v : Value} {ρ : Ren} (h : Ev P f as As v Rs) (hfz : ∀ (i : Nat) (o : AObj), As[i]? = some o → o.wr = false)
    (hρ : ∀ i j v u, ρ i = some (j, v, u) → ∃ os ob, As[i]? = some os ∧ Ab[j]? = some ob ∧ OMap ρ v u os ob)
    (ha : Maps ρ as bs) (hv : ∀ ρ', VMap ρ' v v) : Ev P f bs Ab v Ab := by
  have := ev_reloc (π := fun _ => none) (rb := []) h hfz hρ ha (fun k j v h => by cases h) (fun k k' j v v' h => by cases h) (fun j h1 h2 => by simp at h2; omega) (hv _)
  simpa using this

end Go.Dx
