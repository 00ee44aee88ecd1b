/- The program's walls: which cell each sign of a line stands in (Agrees), and what each cell has lost (Lost). -/
import Derived.Test.YtdjcbpicdnhciaaGreatMk
set_option linter.unusedVariables false
set_option linter.unusedSimpArgs false
open Go Go.Dx Go.Proofs
namespace Go.Proofs.YtdjcbpicdnhciaaGreat
set_option maxRecDepth 20000
-- NEW

theorem HasSigns.le {A B : Hp} {i : Nat} (h : HasSigns A i) (hl : Le A B) : HasSigns B i := by
  obtain ⟨ro, h⟩ := h
  obtain ⟨b', h1, h2, h3, h4, h5⟩ := hl i _ h
  obtain ⟨cs, ro', opn, es, ver⟩ := b'
  simp only at h2 h3 h4 h5
  subst h2; subst h3; subst h4; subst h5
  exact ⟨ro', h1⟩

theorem Wel.le' {A B : Hp} {a : Option Addr} {sz : Nat} (hw : Wel A a sz) (h : Le A B) : Wel B a sz := by
  intro p hp
  obtain ⟨i, off, ver, b, h1, h2, h3, h4⟩ := hw p hp
  obtain ⟨b', g1, g2, g3, g4, g5⟩ := h i b h2
  exact ⟨i, off, ver, b', h1, g1, g3.trans h3, g4.trans h4⟩

/-- F40 -/
theorem agrees_fun {A : Hp} {i : Nat} {a x : Option Addr} {rows : List (List Value)} {cs : List CellS} {ca cx : Nat} {xs : List Int} (hs : HasSigns A i) (ha : Sl A a 3 rows) (hr : CellsR A rows cs) (hok : ∀ c ∈ cs, CellOK' 3 c) (hlc : cs.length ≤ 6)
    (hx : Sl A x 1 (ints xs)) (hlx : xs.length ≤ 60) (hxs : ∀ x ∈ xs, 0 ≤ x ∧ x ≤ 2) :
    Fun Tryz.prog 40 [listV i, .slice a rows.length ca, .slice x xs.length cx] A fun v B => match stoodS cs xs with
      | none => v = .tuple #[.slice none 0 0, .int .i64 71]
      | some r => ∃ a' cap, v = .tuple #[.slice a' r.length cap, .int .i64 0] ∧ Sl B a' 1 (ints r) := by
  refine fun_walkV (fn := Tryz.f40) Tryz.func40 rfl rfl (fun V0 le0 st0 => ?_)
  replace ha := ha.le le0
  replace hr := hr.le le0
  replace hx := hx.le le0
  replace hs := hs.le le0
  refine w_seq (w_region env ?_)
  refine wo_allocF st0 (cs := [.int .i64 1, .slice (some ⟨i, 0, some 0⟩) 3 3]) 1 rfl rfl (fun _ => rfl) rfl rfl (fun i3 V3 B3 st3 le3 hL => ?_)
  replace ha := ha.le le3
  replace hr := hr.le le3
  replace hx := hx.le le3
  replace hs := hs.le le3
  repeat (first | refine w_seq ?_ | refine w_region env ?_ | refine wo_nil ?_ | (refine wo_gate ?_ ?_; rfl; refine wo_pure rfl rfl (fun _ => rfl) rfl rfl ?_) | refine wo_not rfl rfl ?_ | refine wo_max rfl rfl rfl rfl ?_ | refine wo_min rfl rfl rfl rfl ?_ | refine wo_loads rfl (hL.rds st3.le 2 rfl) rfl rfl rfl rfl rfl rfl ?_)
  refine wo_mkF st3 (cs := [.slice x xs.length cx]) 1 rfl rfl (fun _ => rfl) rfl rfl (fun iN V4 B4 st4 le4 f4 => ?_)
  replace ha := ha.le le4
  replace hr := hr.le le4
  replace hx := hx.le le4
  replace hs := hs.le le4
  replace hL := hL.le le4
  refine wo_callX st4 (wcheck_fun hs ha hr hok hlc (sl_of_at (sz := 1) (rows := [[.slice x xs.length cx]]) f4 rfl (by simp) rfl) hx hlx hxs) rfl rfl rfl ?_
  rintro v r hf rfl
  obtain ⟨V5, st5, le5, _⟩ := st4.callE hf
  replace ha := ha.le le5
  replace hr := hr.le le5
  replace hx := hx.le le5
  replace hs := hs.le le5
  repeat (first | refine w_seq ?_ | refine w_region env ?_ | refine wo_nil ?_ | (refine wo_gate ?_ ?_; rfl; refine wo_pure rfl rfl (fun _ => rfl) rfl rfl ?_) | refine wo_not rfl rfl ?_ | refine wo_max rfl rfl rfl rfl ?_ | refine wo_min rfl rfl rfl rfl ?_)
  refine w_cond _ rfl (fun h => by cases h) (fun _ => ?_)
  refine w_skip ?_
  repeat (first | refine w_seq ?_ | refine w_region env ?_ | refine wo_nil ?_ | (refine wo_gate ?_ ?_; rfl; refine wo_pure rfl rfl (fun _ => rfl) rfl rfl ?_) | refine wo_not rfl rfl ?_ | refine wo_max rfl rfl rfl rfl ?_ | refine wo_min rfl rfl rfl rfl ?_)
  refine wo_callX st5 (divide_fun ha hr hx hlx hlc hok) rfl rfl rfl ?_
  intro v r2 hf2 hv
  obtain ⟨V6, st6, le6, le7⟩ := st5.callE hf2
  cases hS : stoodS cs xs with
  | none =>
    rw [hS] at hv
    simp only at hv
    subst hv
    repeat (first | refine w_seq ?_ | refine w_region env ?_ | refine wo_nil ?_ | (refine wo_gate ?_ ?_; rfl; refine wo_pure rfl rfl (fun _ => rfl) rfl rfl ?_) | refine wo_not rfl rfl ?_ | refine wo_max rfl rfl rfl rfl ?_ | refine wo_min rfl rfl rfl rfl ?_)
    refine w_cond _ rfl (fun _ => ?_) (fun h => by cases h)
    repeat (first | refine w_seq ?_ | refine w_region env ?_ | refine wo_nil ?_ | (refine wo_gate ?_ ?_; rfl; refine wo_pure rfl rfl (fun _ => rfl) rfl rfl ?_) | refine wo_not rfl rfl ?_ | refine wo_max rfl rfl rfl rfl ?_ | refine wo_min rfl rfl rfl rfl ?_)
    exact w_ret ⟨.inr rfl, st6.gr, _, rfl, rfl⟩
  | some r =>
    rw [hS] at hv
    simp only at hv
    obtain ⟨a', cap, rfl, hsl⟩ := hv
    repeat (first | refine w_seq ?_ | refine w_region env ?_ | refine wo_nil ?_ | (refine wo_gate ?_ ?_; rfl; refine wo_pure rfl rfl (fun _ => rfl) rfl rfl ?_) | refine wo_not rfl rfl ?_ | refine wo_max rfl rfl rfl rfl ?_ | refine wo_min rfl rfl rfl rfl ?_)
    refine w_cond _ rfl (fun h => by cases h) (fun _ => ?_)
    refine w_skip ?_
    repeat (first | refine w_seq ?_ | refine w_region env ?_ | refine wo_nil ?_ | (refine wo_gate ?_ ?_; rfl; refine wo_pure rfl rfl (fun _ => rfl) rfl rfl ?_) | refine wo_not rfl rfl ?_ | refine wo_max rfl rfl rfl rfl ?_ | refine wo_min rfl rfl rfl rfl ?_)
    exact w_ret ⟨.inr rfl, st6.gr, _, rfl, _, _, rfl, hsl.le (le7.trans st6.le)⟩

/-- What stands in cell k. -/
def partK (k : Nat) (l : List (Int × Int)) : List Int := (l.filter fun p => decide (p.1 = (k : Int))).map (·.2)

theorem partK_snoc (k : Nat) (l : List (Int × Int)) (c x : Int) : partK k (l ++ [(c, x)]) = partK k l ++ (if c = (k : Int) then [x] else []) := by
  simp only [partK, List.filter_append, List.map_append]
  congr 1
  by_cases h : c = (k : Int)
  · simp [h]
  · simp [h]

theorem partK_len (k : Nat) (l : List (Int × Int)) : (partK k l).length ≤ l.length := by
  simp only [partK, List.length_map]
  exact List.length_filter_le _ _

theorem map_set' {α β : Type} (f : α → β) (l : List α) (i : Nat) (x : α) : (l.set i x).map f = (l.map f).set i (f x) := List.map_set

theorem stoodS_range : ∀ {cs : List CellS} {xs r : List Int}, stoodS cs xs = some r → (r.length = xs.length ∨ (∃ c ∈ cs, c.mn < 0)) ∧ ∀ z ∈ r, 0 ≤ z ∧ z < (cs.length : Int)
  | [], xs, r, h => by
    simp only [stoodS] at h
    split at h
    · rename_i h0; cases h; subst h0; exact ⟨.inl rfl, by simp⟩
    · cases h
  | c :: cs, xs, r, h => by
    simp only [stoodS] at h
    split at h
    · rename_i n hn
      obtain ⟨r2, h1, h2⟩ := Option.map_eq_some_iff.1 h
      obtain ⟨g1, g2⟩ := stoodS_range h1
      obtain ⟨k1, k2, k3⟩ := bestsB_lt hn
      subst h2
      refine ⟨?_, ?_⟩
      · rcases g1 with g1 | ⟨c', hc, hc2⟩
        · left
          simp [g1]; omega
        · exact .inr ⟨c', by simp [hc], hc2⟩
      · intro z hz
        rcases List.mem_append.1 hz with hz | hz
        · have := (List.mem_replicate.1 hz).2
          subst this
          simp only [List.length_cons]; omega
        · obtain ⟨y, hy, rfl⟩ := List.mem_map.1 hz
          have := g2 y hy
          simp only [List.length_cons]; omega
    · cases h

/-- The parts lie in memory. -/
def PartsR (A : Hp) (rows : List (List Value)) (ps : List (List Int)) : Prop := rows.length = ps.length ∧ ∀ (k : Nat) (h : k < ps.length), ∃ a cap, rows[k]? = some [.slice a ps[k].length cap] ∧ Sl A a 1 (ints ps[k])

/-- F41 -/
theorem lost_fun {A : Hp} {i : Nat} {a x y : Option Addr} {rows : List (List Value)} {cs : List CellS} {ca cx cy : Nat} {xs r : List Int} (hs : HasSigns A i) (ha : Sl A a 3 rows) (hr : CellsR A rows cs) (hok : ∀ c ∈ cs, CellOK' 3 c) (hlc : cs.length ≤ 6)
    (hx : Sl A x 1 (ints xs)) (hlx : xs.length ≤ 60) (hxs : ∀ x ∈ xs, 0 ≤ x ∧ x ≤ 2) (hS : stoodS cs xs = some r) (hy : Sl A y 1 (ints r)) :
    Fun Tryz.prog 41 [listV i, .slice a rows.length ca, .agg #[.slice x xs.length cx, .slice y r.length cy, .slice none 0 0, .int .i64 0]] A fun v B =>
      ∃ a' rows', v = .tuple #[.slice a' cs.length cs.length, .int .i64 0] ∧ Sl B a' 1 rows' ∧ PartsR B rows' ((List.range cs.length).map fun k => partK k (r.zip xs)) := by
  have la : rows.length = cs.length := hr.1
  obtain ⟨hrl, hrz⟩ := stoodS_range hS
  replace hrl : r.length = xs.length := by
    rcases hrl with h | ⟨c, h1, h2⟩
    · exact h
    · have := (hok c h1).lo; omega
  refine fun_walkV (fn := Tryz.f41) Tryz.func41 rfl rfl (fun V0 le0 st0 => ?_)
  replace ha := ha.le le0
  replace hr := hr.le le0
  replace hx := hx.le le0
  replace hs := hs.le le0
  replace hy := hy.le le0
  refine w_seq (w_region env ?_)
  refine wo_allocF st0 (cs := [.int .i64 1, .slice (some ⟨i, 0, some 0⟩) 3 3]) 1 rfl rfl (fun _ => rfl) rfl rfl (fun i3 V3 B3 st3 le3 hL => ?_)
  replace ha := ha.le le3
  replace hr := hr.le le3
  replace hx := hx.le le3
  replace hs := hs.le le3
  replace hy := hy.le le3
  refine wo_allocF st3 (cs := [.slice x xs.length cx, .slice y r.length cy, .slice none 0 0, .int .i64 0]) 1 rfl rfl (fun _ => rfl) rfl rfl (fun i5 V5 B5 st5 le5 hR => ?_)
  replace ha := ha.le le5
  replace hr := hr.le le5
  replace hx := hx.le le5
  replace hs := hs.le le5
  replace hL := hL.le le5
  replace hy := hy.le le5
  repeat (first | refine w_seq ?_ | refine w_region env ?_ | refine wo_nil ?_ | (refine wo_gate ?_ ?_; rfl; refine wo_pure rfl rfl (fun _ => rfl) rfl rfl ?_) | refine wo_not rfl rfl ?_ | refine wo_max rfl rfl rfl rfl ?_ | refine wo_min rfl rfl rfl rfl ?_ | refine wo_loads rfl (hL.rds st5.le 2 rfl) rfl rfl rfl rfl rfl rfl ?_ | refine wo_load rfl (hR.rdq st5.le 0 rfl) rfl rfl rfl rfl rfl ?_)
  refine wo_callX st5 (agrees_fun hs ha hr hok hlc hx hlx hxs) rfl rfl rfl ?_
  intro v rr hf hv
  rw [hS] at hv
  simp only at hv
  obtain ⟨b, cb, rfl, hsl⟩ := hv
  obtain ⟨V6, st6, le6, le7⟩ := st5.callE hf
  replace hsl := hsl.le le7
  replace ha := ha.le le6
  replace hr := hr.le le6
  replace hx := hx.le le6
  replace hs := hs.le le6
  replace hR := hR.le le6
  replace hy := hy.le le6
  repeat (first | refine w_seq ?_ | refine w_region env ?_ | refine wo_nil ?_ | (refine wo_gate ?_ ?_; rfl; refine wo_pure rfl rfl (fun _ => rfl) rfl rfl ?_) | refine wo_not rfl rfl ?_ | refine wo_max rfl rfl rfl rfl ?_ | refine wo_min rfl rfl rfl rfl ?_)
  refine w_cond _ rfl (fun h => by cases h) (fun _ => ?_)
  refine w_skip ?_
  repeat (first | refine w_seq ?_ | refine w_region env ?_ | refine wo_nil ?_ | (refine wo_gate ?_ ?_; rfl; refine wo_pure rfl rfl (fun _ => rfl) rfl rfl ?_) | refine wo_not rfl rfl ?_ | refine wo_max rfl rfl rfl rfl ?_ | refine wo_min rfl rfl rfl rfl ?_ | refine wo_load rfl (hR.rdq st6.le 1 rfl) rfl rfl rfl rfl rfl ?_)
  refine wo_callX st6 (equal_fun hsl hy (by omega)) rfl rfl rfl ?_
  rintro v rr2 hf2 rfl
  rw [decide_eq_true rfl]
  obtain ⟨V7, st7, le7, _⟩ := st6.callE hf2
  replace ha := ha.le le7
  replace hr := hr.le le7
  replace hx := hx.le le7
  replace hs := hs.le le7
  replace hR := hR.le le7
  replace hy := hy.le le7
  replace hsl := hsl.le le7
  repeat (first | refine w_seq ?_ | refine w_region env ?_ | refine wo_nil ?_ | (refine wo_gate ?_ ?_; rfl; refine wo_pure rfl rfl (fun _ => rfl) rfl rfl ?_) | refine wo_not rfl rfl ?_ | refine wo_max rfl rfl rfl rfl ?_ | refine wo_min rfl rfl rfl rfl ?_)
  refine w_cond _ rfl (fun h => by cases h) (fun _ => ?_)
  refine w_skip ?_
  repeat (first | refine w_seq ?_ | refine w_region env ?_ | refine wo_nil ?_ | (refine wo_gate ?_ ?_; rfl; refine wo_pure rfl rfl (fun _ => rfl) rfl rfl ?_) | refine wo_not rfl rfl ?_ | refine wo_max rfl rfl rfl rfl ?_ | refine wo_min rfl rfl rfl rfl ?_)
  refine wo_makeS st7 cs.length rfl rfl (by omega) (by omega) (by omega) rfl rfl rfl rfl rfl rfl rfl rfl rfl rfl (fun iL V8 B8 st8 le8 => ?_)
  replace hx := hx.le le8
  replace hR := hR.le le8
  replace hsl := hsl.le le8
  repeat (first | refine w_seq ?_ | refine w_region env ?_ | refine wo_nil ?_ | (refine wo_gate ?_ ?_; rfl; refine wo_pure rfl rfl (fun _ => rfl) rfl rfl ?_) | refine wo_not rfl rfl ?_ | refine wo_max rfl rfl rfl rfl ?_ | refine wo_min rfl rfl rfl rfl ?_)
  refine w_block ?_
  refine w_loop (fun j m' B => ∃ (V : Hp) (G : List (Option Addr × List Int)), Sta V0 V B (.obj iL ⟨G.map fun g => .slice g.1 g.2.length g.2.length, false, false, 1, 0⟩ :: G.map fun g => .acc g.1 1 (ints g.2)) ∧ Le V8 V ∧ G.length = cs.length ∧
      ∃ i : Nat, j + i = r.length ∧ (∀ k (h : k < G.length), G[k].2 = partK k ((r.zip xs).take i)) ∧
      m' = [(34, .int .i64 i), (33, .int .i64 r.length), (32, .slice b r.length cb), (10, .slice (some ⟨iL, 0, some 0⟩) rows.length rows.length), (5, .pointer (some ⟨i5, 0, some 0⟩))]) r.length
    (by rw [la]; exact (Sub.cons rfl (Sub.cons rfl (Sub.cons rfl (Sub.cons rfl (Sub.cons rfl Sub.nil)))))) ⟨V8, List.replicate cs.length (none, []), ?_, .refl _, by simp, 0, by omega, by simp [partK], rfl⟩ ?_
  · simp only [List.map_replicate]
    have : ∀ n, Sta V0 V8 B8 (.obj iL ⟨List.replicate cs.length (.slice none 0 0), false, false, 1, 0⟩ :: List.replicate n (.acc none 1 [])) := by
      intro n
      induction n with
      | zero => exact st8
      | succ n ih => exact ih.addAccs 1
    exact this _
  rintro j m' B ⟨V, G, st, le1, hG, i, hji, hGp, rfl⟩
  replace hx := hx.le le1
  replace hR := hR.le le1
  replace hsl := hsl.le le1
  repeat (first | refine w_seq ?_ | refine w_region env ?_ | refine wo_nil ?_ | (refine wo_gate ?_ ?_; rfl; refine wo_pure rfl rfl (fun _ => rfl) rfl rfl ?_) | refine wo_not rfl rfl ?_ | refine wo_max rfl rfl rfl rfl ?_ | refine wo_min rfl rfl rfl rfl ?_)
  refine w_cond _ rfl (fun hlt => ?_) (fun hge => ?_)
  · have hir : i < r.length := by simpa using hlt
    obtain ⟨z1, z2⟩ := hrz r[i] (by simp)
    obtain ⟨c, hc⟩ : ∃ c : Nat, r[i] = (c : Int) := ⟨r[i].toNat, by omega⟩
    have hcG : c < G.length := by omega
    refine w_skip ?_
    refine w_seq (w_block ?_)
    repeat (first | refine w_seq ?_ | refine w_region env ?_ | refine wo_nil ?_ | (refine wo_gate ?_ ?_; rfl; refine wo_pure rfl rfl (fun _ => rfl) rfl rfl ?_) | refine wo_not rfl rfl ?_ | refine wo_max rfl rfl rfl rfl ?_ | refine wo_min rfl rfl rfl rfl ?_)
    refine wo_at _ rfl (hsl.le st.le) rfl rfl rfl rfl rfl (ints_len _).symm (by omega) (ints_get (by simpa using hir)) (fun p hp => ?_)
    refine wo_load rfl hp rfl rfl rfl rfl rfl ?_
    repeat (first | refine w_seq ?_ | refine w_region env ?_ | refine wo_nil ?_ | (refine wo_gate ?_ ?_; rfl; refine wo_pure rfl rfl (fun _ => rfl) rfl rfl ?_) | refine wo_not rfl rfl ?_ | refine wo_max rfl rfl rfl rfl ?_ | refine wo_min rfl rfl rfl rfl ?_)
    refine w_draw env 12 (by kernel_rfl) ?_
    repeat (first | refine w_seq ?_ | refine w_region env ?_ | refine wo_nil ?_ | (refine wo_gate ?_ ?_; rfl; refine wo_pure rfl rfl (fun _ => rfl) rfl rfl ?_) | refine wo_not rfl rfl ?_ | refine wo_max rfl rfl rfl rfl ?_ | refine wo_min rfl rfl rfl rfl ?_ | refine wo_load rfl (hR.rdq st.le 0 rfl) rfl rfl rfl rfl rfl ?_)
    have hri : r[(i : Int).toNat] = (c : Int) := hc
    refine wo_ix c 1 c rfl rfl hri (by omega) (by omega) rfl rfl rfl rfl ?_
    refine wo_load rfl (rd_one (st.obj (k := 0) rfl) rfl (v := .slice G[c].1 G[c].2.length G[c].2.length) (by simp [hcG])) rfl rfl rfl rfl rfl ?_
    repeat (first | refine w_seq ?_ | refine w_region env ?_ | refine wo_nil ?_ | (refine wo_gate ?_ ?_; rfl; refine wo_pure rfl rfl (fun _ => rfl) rfl rfl ?_) | refine wo_not rfl rfl ?_ | refine wo_max rfl rfl rfl rfl ?_ | refine wo_min rfl rfl rfl rfl ?_ | refine wo_load rfl (hR.rdq st.le 0 rfl) rfl rfl rfl rfl rfl ?_)
    refine wo_at _ rfl (hx.le st.le) rfl rfl rfl rfl rfl (ints_len _).symm (by omega) (ints_get (i := i) (by omega)) (fun p hp => ?_)
    refine wo_load rfl hp rfl rfl rfl rfl rfl ?_
    refine wo_mkF st (cs := [.int .i64 xs[i]]) 1 rfl rfl (fun _ => rfl) rfl rfl (fun iN V5 B5 st5 le5 f5 => ?_)
    refine wo_app1 st5 (c + 1) (rows := ints G[c].2) (by simp [hcG]) rfl rfl f5 rfl (by simp [ints]) (by simp [ints]) rfl ?_ rfl rfl rfl rfl rfl rfl rfl rfl rfl rfl (fun a3 V6 B6 st6 le6 => ?_)
    · have := partK_len c ((r.zip xs).take i)
      rw [← hGp c hcG] at this
      simp only [List.length_take, List.length_zip] at this
      rw [ints_len]; omega
    refine wo_ix c 1 c rfl rfl hri (by omega) (by omega) rfl rfl rfl rfl ?_
    refine wo_stO st6 0 rfl rfl rfl (by simp [hcG]) (fun _ => rfl) rfl rfl rfl rfl rfl (fun B7 st7 => ?_)
    repeat (first | refine w_seq ?_ | refine w_region env ?_ | refine wo_nil ?_ | (refine wo_gate ?_ ?_; rfl; refine wo_pure rfl rfl (fun _ => rfl) rfl rfl ?_) | refine wo_not rfl rfl ?_ | refine wo_max rfl rfl rfl rfl ?_ | refine wo_min rfl rfl rfl rfl ?_)
    have hzi : (r.zip xs)[i]? = some (r[i], xs[i]) := by
      rw [List.getElem?_zip_eq_some]
      exact ⟨by simp [hir], by simp⟩
    refine ⟨j - 1, [(34, _), (33, _), (32, _), (10, _), (5, _)], by omega, (Sub.cons rfl (Sub.cons rfl (Sub.cons rfl (Sub.cons rfl (Sub.cons rfl Sub.nil))))), V6, G.set c (a3, G[c].2 ++ [xs[i]]), ?_, le1.trans (le5.trans le6), by simpa using hG, i + 1, by omega, ?_, ?_⟩
    · have e : (ints G[c].2).length = G[c].2.length := ints_len _
      simp only [List.set_cons_succ, List.set_cons_zero, e] at st7
      simp only [map_set', List.length_append, List.length_singleton]
      rw [ints_app]
      exact st7
    · intro k hk
      simp only [List.length_set] at hk
      rw [List.take_add_one, hzi, Option.toList_some, hc, partK_snoc]
      by_cases hkc : c = k
      · subst hkc
        simp [hGp c hcG]
      · rw [List.getElem_set_ne hkc, hGp k hk, if_neg (by omega), List.append_nil]
    · rw [i64_nat (by omega)]
  · have hir : i = r.length := by
      have : ¬ (i : Int) < (r.length : Int) := by simpa using hge
      omega
    refine w_exit ?_
    repeat (first | refine w_seq ?_ | refine w_region env ?_ | refine wo_nil ?_ | (refine wo_gate ?_ ?_; rfl; refine wo_pure rfl rfl (fun _ => rfl) rfl rfl ?_) | refine wo_not rfl rfl ?_ | refine wo_max rfl rfl rfl rfl ?_ | refine wo_min rfl rfl rfl rfl ?_)
    refine w_ret ⟨.inr rfl, st.gr, _, rfl, some ⟨iL, 0, some 0⟩, (G.map fun g => .slice g.1 g.2.length g.2.length).map fun v => [v], by rw [la]; rfl, sl_of_at (sz := 1) (st.obj (k := 0) rfl) (ones_flat _).symm (ones_rows _) rfl, by simp [hG], ?_⟩
    intro k hk
    simp only [List.length_map, List.length_range] at hk
    have hkG : k < G.length := by omega
    have hGk := hGp k hkG
    rw [hir, List.take_of_length_le (by simp [List.length_zip]; omega)] at hGk
    simp only [List.getElem_map, List.getElem_range]
    rw [← hGk]
    exact ⟨G[k].1, G[k].2.length, by simp [hkG], st.acc (k := k + 1) (rows := ints G[k].2) (by simp [hkG])⟩
end Go.Proofs.YtdjcbpicdnhciaaGreat
