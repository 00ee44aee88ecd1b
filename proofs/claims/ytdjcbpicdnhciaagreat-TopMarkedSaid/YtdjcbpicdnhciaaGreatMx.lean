/- The law about marks on a wall: a line that agrees with what two walls have in common agrees with both. -/
import Derived.Test.YtdjcbpicdnhciaaGreatMw
set_option linter.unusedVariables false
set_option linter.unusedSimpArgs false
open Go Go.Dx Go.Proofs
namespace Go.Proofs.YtdjcbpicdnhciaaGreat
set_option maxRecDepth 20000
-- NEWU

/-- A line agrees with cells. -/
def Agr : List CellS → List Int → Prop
  | [], xs => xs = []
  | c :: cs, xs => ∃ n : Nat, c.mn ≤ n ∧ (n : Int) ≤ c.mx ∧ n ≤ xs.length ∧ (∀ x ∈ xs.take n, allowsS c x = true) ∧ Agr cs (xs.drop n)

theorem bestsB_some {c : CellS} {xs : List Int} {f : Nat → Bool} : ∀ {j : Nat}, (bestsB c xs f j).isSome = true ↔ ∃ n, n < j ∧ c.mn ≤ n ∧ (xs.take n).all (allowsS c) = true ∧ f n = true
  | 0 => by simp [bestsB]
  | j + 1 => by
    simp only [bestsB]
    split
    · rename_i h
      simp only [Bool.and_eq_true, decide_eq_true_eq] at h
      simp only [Option.isSome_some, true_iff]
      exact ⟨j, by omega, h.1.1, h.1.2, h.2⟩
    · rename_i h
      rw [bestsB_some (j := j)]
      constructor
      · rintro ⟨n, h1, h2⟩; exact ⟨n, by omega, h2⟩
      · rintro ⟨n, h1, h2, h3, h4⟩
        refine ⟨n, ?_, h2, h3, h4⟩
        rcases Nat.lt_or_ge n j with h5 | h5
        · exact h5
        · have : n = j := by omega
          subst this
          exact absurd (by simp [h2, h3, h4]) h

theorem stood_agr : ∀ {cs : List CellS} {xs : List Int}, (∀ c ∈ cs, 0 ≤ c.mx) → ((stoodS cs xs).isSome = true ↔ Agr cs xs)
  | [], xs, _ => by
    simp only [stoodS, Agr]
    split <;> simp_all
  | c :: cs, xs, h => by
    have ih : ∀ ys, (stoodS cs ys).isSome = true ↔ Agr cs ys := fun ys => stood_agr fun c hc => h c (by simp [hc])
    simp only [stoodS, Agr]
    have e := bestsB_some (c := c) (xs := xs) (f := fun n => (stoodS cs (xs.drop n)).isSome) (j := min c.mx.toNat xs.length + 1)
    have h0 := h c (by simp)
    constructor
    · intro hs
      split at hs
      · rename_i n hn
        have hn' : (bestsB c xs (fun n => (stoodS cs (xs.drop n)).isSome) (min c.mx.toNat xs.length + 1)).isSome = true := by rw [hn]; rfl
        obtain ⟨k, h1, h2, h3, h4⟩ := e.1 hn'
        refine ⟨k, h2, ?_, by omega, fun x hx => List.all_eq_true.1 h3 x hx, (ih _).1 h4⟩
        omega
      · cases hs
    · rintro ⟨n, h1, h2, h3, h4, h5⟩
      have hs := e.2 ⟨n, by omega, h1, List.all_eq_true.2 h4, (ih _).2 h5⟩
      cases hb : bestsB c xs (fun n => (stoodS cs (xs.drop n)).isSome) (min c.mx.toNat xs.length + 1) with
      | none => rw [hb] at hs; cases hs
      | some k =>
        simp only
        obtain ⟨_, g2, _⟩ := bestsB_lt hb
        rw [Option.isSome_map]
        exact g2

theorem agr_mono {R : CellS → CellS → Prop} (hR : ∀ c d, R c d → d.mn ≤ c.mn ∧ c.mx ≤ d.mx ∧ ((0 : Int) < c.mx → ∀ x, allowsS c x = true → allowsS d x = true)) : ∀ {cs ds : List CellS} {xs : List Int}, cs.length = ds.length → (∀ (i : Nat) (h : i < cs.length) (h2 : i < ds.length), R cs[i] ds[i]) → Agr cs xs → Agr ds xs
  | [], [], xs, _, _, h => h
  | c :: cs, d :: ds, xs, hl, hr, ⟨n, h1, h2, h3, h4, h5⟩ => by
    obtain ⟨g1, g2, g3⟩ := hR c d (hr 0 (by simp) (by simp))
    refine ⟨n, by omega, by omega, h3, fun x hx => ?_, agr_mono hR (by simpa using hl) (fun i a b => hr (i + 1) (by simp; omega) (by simp; omega)) h5⟩
    refine g3 ?_ x (h4 x hx)
    have : 0 < n := by
      rcases Nat.eq_zero_or_pos n with h | h
      · subst h; simp at hx
      · exact h
    omega

theorem both_sub {a b : CellS} (ha : a.sg ∈ subs3) (hb : b.sg ∈ subs3) (h : (bothS a b).2 = true) :
    (a.mn ≤ (bothS a b).1.mn ∧ (bothS a b).1.mx ≤ a.mx ∧ ((0 : Int) < (bothS a b).1.mx → ∀ x, allowsS (bothS a b).1 x = true → allowsS a x = true)) ∧
    (b.mn ≤ (bothS a b).1.mn ∧ (bothS a b).1.mx ≤ b.mx ∧ ((0 : Int) < (bothS a b).1.mx → ∀ x, allowsS (bothS a b).1 x = true → allowsS b x = true)) := by
  obtain ⟨h1, h2⟩ := both_meet ha hb
  have e := h2 h
  rw [h1] at h
  rw [e]
  clear e h1 h2
  unfold meetS at h ⊢
  obtain ⟨mn, mx, sg⟩ := a
  obtain ⟨mn2, mx2, sg2⟩ := b
  simp only at h ⊢
  split at h
  · cases h
  · rename_i h0
    rw [if_neg h0]
    split at h
    · rename_i h1
      subst h1
      simp only [if_true]
      refine ⟨⟨by omega, by omega, fun _ x _ => by simp [allowsS]⟩, by omega, by omega, fun _ x hx => hx⟩
    · rename_i h1
      rw [if_neg h1]
      split at h
      · rename_i h2
        subst h2
        simp only [if_true]
        refine ⟨⟨by omega, by omega, fun _ x hx => hx⟩, by omega, by omega, fun _ x _ => by simp [allowsS]⟩
      · rename_i h2
        rw [if_neg h2]
        split at h
        · rename_i h3
          rw [if_pos h3]
          have h4 : max mn mn2 = 0 := by simpa using h
          refine ⟨⟨by simp only; omega, by simp only; omega, fun hh => by simp at hh⟩, by simp only; omega, by simp only; omega, fun hh => by simp at hh⟩
        · rename_i h3
          rw [if_neg h3]
          refine ⟨⟨by simp only; omega, by simp only; omega, fun _ x hx => ?_⟩, by simp only; omega, by simp only; omega, fun _ x hx => ?_⟩
          · simp only [allowsS, h3, decide_false, Bool.false_or, decide_eq_true_eq, List.mem_filter] at hx
            simp [allowsS, hx.1]
          · simp only [allowsS, h3, decide_false, Bool.false_or, decide_eq_true_eq, List.mem_filter] at hx
            simp [allowsS, hx.2]

/-- A line that agrees with what two walls have in common agrees with both. -/
theorem both_agrees {pa pb : List CellS} {xs : List Int} (hl : pa.length = pb.length) (ha : ∀ c ∈ pa, c.sg ∈ subs3 ∧ 0 ≤ c.mn ∧ c.mn ≤ c.mx) (hb : ∀ c ∈ pb, c.sg ∈ subs3 ∧ 0 ≤ c.mn ∧ c.mn ≤ c.mx) (hF : ((List.zip pa pb).all fun p => (bothS p.1 p.2).2) = true)
    (h : (stoodS (List.zipWith (fun a b => (bothS a b).1) pa pb) xs).isSome = true) : (stoodS pa xs).isSome = true ∧ (stoodS pb xs).isSome = true := by
  have hFi : ∀ (i : Nat) (h1 : i < pa.length) (h2 : i < pb.length), (bothS pa[i] pb[i]).2 = true := by
    intro i h1 h2
    have := List.all_eq_true.1 hF (pa[i], pb[i]) (List.mem_iff_getElem?.2 ⟨i, by rw [List.getElem?_zip_eq_some]; exact ⟨by simp, by simp⟩⟩)
    exact this
  have hlen : (List.zipWith (fun a b => (bothS a b).1) pa pb).length = pa.length := by simp; omega
  have hget : ∀ (i : Nat) (h0 : i < (List.zipWith (fun a b => (bothS a b).1) pa pb).length) (h1 : i < pa.length) (h2 : i < pb.length), (List.zipWith (fun a b => (bothS a b).1) pa pb)[i] = (bothS pa[i] pb[i]).1 := by
    intro i h0 h1 h2; simp
  have hmx : ∀ c ∈ List.zipWith (fun a b => (bothS a b).1) pa pb, 0 ≤ c.mx := by
    intro c hc
    obtain ⟨i, hi, rfl⟩ := List.mem_iff_getElem.1 hc
    have h1 : i < pa.length := by omega
    have h2 : i < pb.length := by omega
    rw [hget i hi h1 h2]
    obtain ⟨a1, a2, a3⟩ := ha pa[i] (by simp)
    obtain ⟨b1, b2, b3⟩ := hb pb[i] (by simp)
    have := hFi i h1 h2
    unfold bothS at this ⊢
    simp only at this ⊢
    split
    · simp
    · rename_i hn
      rw [if_neg hn] at this
      simp only [decide_eq_true_eq] at this
      simp only; omega
  have hagr := (stood_agr hmx).1 h
  constructor
  · refine (stood_agr fun c hc => by have := ha c hc; omega).2 (agr_mono (R := fun c d => d.mn ≤ c.mn ∧ c.mx ≤ d.mx ∧ ((0 : Int) < c.mx → ∀ x, allowsS c x = true → allowsS d x = true)) (fun _ _ h => h) hlen (fun i h0 h1 => ?_) hagr)
    rw [hget i h0 h1 (by omega)]
    exact (both_sub (ha pa[i] (List.getElem_mem _)).1 (hb (pb[i]'(by omega)) (List.getElem_mem _)).1 (hFi i h1 (by omega))).1
  · refine (stood_agr fun c hc => by have := hb c hc; omega).2 (agr_mono (R := fun c d => d.mn ≤ c.mn ∧ c.mx ≤ d.mx ∧ ((0 : Int) < c.mx → ∀ x, allowsS c x = true → allowsS d x = true)) (fun _ _ h => h) (by omega) (fun i h0 h1 => ?_) hagr)
    rw [hget i h0 (by omega) h1]
    exact (both_sub (ha (pa[i]'(by omega)) (List.getElem_mem _)).1 (hb pb[i] (List.getElem_mem _)).1 (hFi i (by omega) h1)).2
end Go.Proofs.YtdjcbpicdnhciaaGreat
