/- The program's walls: a line divided among cells (divide). -/
import Derived.Test.YtdjcbpicdnhciaaGreatMj
import Derived.Test.YtdjcbpicdnhciaaGreatEg
set_option linter.unusedVariables false
set_option linter.unusedSimpArgs false
open Go Go.Dx Go.Proofs
namespace Go.Proofs.YtdjcbpicdnhciaaGreat
set_option maxRecDepth 20000
-- NEW

theorem CellsR.le {A B : Hp} (h : Le A B) {rows : List (List Value)} {cs : List CellS} (hr : CellsR A rows cs) : CellsR B rows cs := by
  refine ⟨hr.1, fun i hi => ?_⟩
  obtain ⟨row, h1, a, cap, h2, h3, h4⟩ := hr.2 i hi
  exact ⟨row, h1, a, cap, h2, h3.le h, h4⟩

/-- Row q of the table. -/
def rowB (cs : List CellS) (xs : List Int) (q : Nat) : List Bool := (List.range (xs.length + 1)).map fun p => (stoodS (cs.drop q) (xs.drop p)).isSome

theorem rowB_len (cs : List CellS) (xs : List Int) (q : Nat) : (rowB cs xs q).length = xs.length + 1 := by simp [rowB]
theorem rowB_get (cs : List CellS) (xs : List Int) (q p : Nat) (h : p ≤ xs.length) : (rowB cs xs q).getD p false = (stoodS (cs.drop q) (xs.drop p)).isSome := by
  rw [List.getD_eq_getElem?_getD, rowB, List.getElem?_map, List.getElem?_range (by omega)]
  rfl

theorem bestsB_congr {c : CellS} {ys : List Int} {f g : Nat → Bool} : ∀ {n : Nat}, (∀ k, k < n → f k = g k) → bestsB c ys f n = bestsB c ys g n
  | 0, _ => rfl
  | n + 1, h => by
    simp only [bestsB]
    rw [h n (by omega), bestsB_congr (fun k hk => h k (by omega))]

theorem bestsB_lt {c : CellS} {ys : List Int} {f : Nat → Bool} : ∀ {n k : Nat}, bestsB c ys f n = some k → k < n ∧ f k = true ∧ c.mn ≤ k
  | 0, k, h => by cases h
  | n + 1, k, h => by
    simp only [bestsB] at h
    split at h
    · rename_i h1
      cases h
      simp only [Bool.and_eq_true, decide_eq_true_eq] at h1
      exact ⟨by omega, h1.2, h1.1.1⟩
    · obtain ⟨h1, h2⟩ := bestsB_lt h
      exact ⟨by omega, h2⟩

/-- What most says at a cell and a place. -/
def bestAt (cs : List CellS) (xs : List Int) (i p : Nat) (h : i < cs.length) : Option Nat :=
  bestsB cs[i] (xs.drop p) (fun n => (stoodS (cs.drop (i + 1)) ((xs.drop p).drop n)).isSome) (min cs[i].mx.toNat (xs.length - p) + 1)

theorem stoodS_at {cs : List CellS} {xs : List Int} {i p : Nat} (h : i < cs.length) : stoodS (cs.drop i) (xs.drop p) = match bestAt cs xs i p h with
    | some n => (stoodS (cs.drop (i + 1)) (xs.drop (p + n))).map fun r => List.replicate n 0 ++ r.map (· + 1)
    | none => none := by
  rw [List.drop_eq_getElem_cons h]
  simp only [stoodS, bestAt, List.length_drop, List.drop_drop]
  cases bestsB cs[i] (List.drop p xs) (fun n => (stoodS (List.drop (i + 1) cs) (List.drop (p + n) xs)).isSome) (min cs[i].mx.toNat (xs.length - p) + 1) <;> rfl

theorem bestAt_isSome {cs : List CellS} {xs : List Int} {i p : Nat} (h : i < cs.length) : (stoodS (cs.drop i) (xs.drop p)).isSome = (bestAt cs xs i p h).isSome := by
  rw [stoodS_at h]
  cases hb : bestAt cs xs i p h with
  | none => rfl
  | some n =>
    have := (bestsB_lt hb).2.1
    simp only [List.drop_drop] at this
    simpa using this

theorem mostI_at {cs : List CellS} {xs : List Int} {i p : Nat} (h : i < cs.length) (hp : p ≤ xs.length) (brow : List Bool) (hb : brow = rowB cs xs (i + 1)) :
    mostI cs[i] (xs.drop p) (fun n => brow.getD (p + n) false) (min cs[i].mx.toNat (xs.length - p) + 1) = (match bestAt cs xs i p h with
      | some n => (n : Int)
      | none => -1) := by
  subst hb
  simp only [mostI, bestAt]
  have e : bestsB cs[i] (xs.drop p) (fun n => (rowB cs xs (i + 1)).getD (p + n) false) (min cs[i].mx.toNat (xs.length - p) + 1) = bestsB cs[i] (xs.drop p) (fun n => (stoodS (cs.drop (i + 1)) ((xs.drop p).drop n)).isSome) (min cs[i].mx.toNat (xs.length - p) + 1) :=
    bestsB_congr fun k hk => by rw [rowB_get cs xs _ _ (by omega), List.drop_drop]
  rw [e]
  cases bestsB cs[i] (xs.drop p) (fun n => (stoodS (cs.drop (i + 1)) ((xs.drop p).drop n)).isSome) (min cs[i].mx.toNat (xs.length - p) + 1) <;> rfl

theorem bools_flat (bs : List Bool) : (bools bs).flatten = bs.map .bool := by
  induction bs with
  | nil => rfl
  | cons b bs ih => simp only [bools, List.map_cons, List.flatten_cons] at ih ⊢; rw [ih]; rfl

theorem bools_rows (bs : List Bool) : ∀ r ∈ bools bs, r.length = 1 := by
  intro r hr
  obtain ⟨b, _, rfl⟩ := List.mem_map.1 hr
  rfl

theorem ones_flat (M : List Value) : (M.map fun v => [v]).flatten = M := by
  induction M with
  | nil => rfl
  | cons v M ih => simp only [List.map_cons, List.flatten_cons, ih]; rfl

theorem ones_rows (M : List Value) : ∀ r ∈ (M.map fun v => [v]), r.length = 1 := by
  intro r hr
  obtain ⟨b, _, rfl⟩ := List.mem_map.1 hr
  rfl

theorem rowB_last (cs : List CellS) (xs : List Int) (n : Nat) (hn : n = cs.length) : rowB cs xs n = (List.replicate (xs.length + 1) false).set xs.length true := by
  subst hn
  apply List.ext_getElem (by simp [rowB])
  intro i h1 h2
  simp only [rowB, List.length_map, List.length_range] at h1
  simp only [rowB, List.drop_length, List.getElem_map, List.getElem_range, stoodS]
  rw [List.getElem_set]
  by_cases hi : xs.length = i
  · subst hi; simp
  · rw [if_neg hi, if_neg (by intro h; have := congrArg List.length h; simp at this; omega)]
    simp

theorem map_succ (z : List Int) (i : Int) : (z.map (· + 1)).map (· + i) = z.map (· + (i + 1)) := by
  rw [List.map_map]
  apply List.map_congr_left
  intro x _
  show x + 1 + i = x + (i + 1)
  omega

/-- F94 -/
theorem divide_fun {A : Hp} {a x : Option Addr} {rows : List (List Value)} {ca cx : Nat} {cs : List CellS} {xs : List Int} (ha : Sl A a 3 rows) (hr : CellsR A rows cs) (hx : Sl A x 1 (ints xs)) (hlx : xs.length ≤ 60) (hlc : cs.length ≤ 6) (hok : ∀ c ∈ cs, CellOK' 3 c) :
    Fun Tryz.prog 94 [.slice a rows.length ca, .slice x xs.length cx] A fun v B => match stoodS cs xs with
      | none => v = .tuple #[.slice none 0 0, .bool false]
      | some r => ∃ a' cap, v = .tuple #[.slice a' r.length cap, .bool true] ∧ Sl B a' 1 (ints r) := by
  have la : rows.length = cs.length := hr.1
  refine fun_walkV (fn := Tryz.f94) Tryz.func94 rfl rfl (fun V0 le0 st0 => ?_)
  replace ha := ha.le le0
  replace hr := hr.le le0
  replace hx := hx.le le0
  refine w_seq (w_region env ?_)
  refine wo_allocF st0 (cs := [.slice a rows.length ca]) 1 rfl rfl (fun _ => rfl) rfl rfl (fun i2 V2 B2 st2 le2 hc => ?_)
  refine wo_allocF st2 (cs := [.slice x xs.length cx]) 1 rfl rfl (fun _ => rfl) rfl rfl (fun i3 V3 B3 st3 le3 hv => ?_)
  replace ha := ha.le (le2.trans le3)
  replace hr := hr.le (le2.trans le3)
  replace hx := hx.le (le2.trans le3)
  replace hc := hc.le le3
  repeat (first | refine w_seq ?_ | refine w_region env ?_ | refine wo_nil ?_ | (refine wo_gate ?_ ?_; rfl; refine wo_pure rfl rfl (fun _ => rfl) rfl rfl ?_) | refine wo_not rfl rfl ?_ | refine wo_max rfl rfl rfl rfl ?_ | refine wo_min rfl rfl rfl rfl ?_ | refine wo_load rfl (hc.rd1 st3.le) rfl rfl rfl rfl rfl ?_ | refine wo_load rfl (hv.rd1 st3.le) rfl rfl rfl rfl rfl ?_)
  refine wo_makeS st3 (cs.length + 1) rfl rfl (by rw [i64_small (by omega) (by omega)]; omega) (by rw [i64_small (by omega) (by omega)]; omega) (by omega) rfl rfl rfl rfl rfl rfl rfl rfl rfl rfl (fun iF V4 B4 st4 le4 => ?_)
  refine wo_varF st4 rfl rfl (fun _ h => by cases h; rfl) rfl rfl rfl rfl rfl rfl rfl rfl rfl rfl rfl (fun i6 V6 B6 st6 le6 hm => ?_)
  replace ha := ha.le (le4.trans le6)
  replace hr := hr.le (le4.trans le6)
  replace hx := hx.le (le4.trans le6)
  replace hc := hc.le (le4.trans le6)
  replace hv := hv.le (le4.trans le6)
  refine wo_nil ?_
  -- the last row
  refine w_seq (w_draw env 7 (by kernel_rfl) ?_)
  repeat (first | refine w_seq ?_ | refine w_region env ?_ | refine wo_nil ?_ | (refine wo_gate ?_ ?_; rfl; refine wo_pure rfl rfl (fun _ => rfl) rfl rfl ?_) | refine wo_not rfl rfl ?_ | refine wo_max rfl rfl rfl rfl ?_ | refine wo_min rfl rfl rfl rfl ?_ | refine wo_load rfl (hc.rd1 st6.le) rfl rfl rfl rfl rfl ?_ | refine wo_load rfl (hv.rd1 st6.le) rfl rfl rfl rfl rfl ?_ | refine wo_load rfl (hm.rd1 st6.le) rfl rfl rfl rfl rfl ?_)
  refine wo_makeS st6 (xs.length + 1) rfl rfl (by rw [i64_small (by omega) (by omega)]; omega) (by rw [i64_small (by omega) (by omega)]; omega) (by omega) rfl rfl rfl rfl rfl rfl rfl rfl rfl rfl (fun iR V7 B7 st7 le7 => ?_)
  replace ha := ha.le le7
  replace hr := hr.le le7
  replace hx := hx.le le7
  replace hc := hc.le le7
  replace hv := hv.le le7
  replace hm := hm.le le7
  refine wo_ix cs.length 1 cs.length rfl rfl (by omega) (by omega) (by omega) rfl rfl rfl rfl ?_
  refine wo_stO st7 1 rfl rfl rfl (by simp) (fun _ => rfl) rfl rfl rfl rfl rfl (fun B8 st8 => ?_)
  refine wo_nil ?_
  refine w_seq (w_draw env 6 (by kernel_rfl) ?_)
  repeat (first | refine w_seq ?_ | refine w_region env ?_ | refine wo_nil ?_ | (refine wo_gate ?_ ?_; rfl; refine wo_pure rfl rfl (fun _ => rfl) rfl rfl ?_) | refine wo_not rfl rfl ?_ | refine wo_max rfl rfl rfl rfl ?_ | refine wo_min rfl rfl rfl rfl ?_ | refine wo_load rfl (hc.rd1 st8.le) rfl rfl rfl rfl rfl ?_ | refine wo_load rfl (hv.rd1 st8.le) rfl rfl rfl rfl rfl ?_ | refine wo_load rfl (hm.rd1 st8.le) rfl rfl rfl rfl rfl ?_)
  refine wo_ix cs.length 1 cs.length rfl rfl (by omega) (by omega) (by omega) rfl rfl rfl rfl ?_
  refine wo_load rfl (rd_one (st8.obj (k := 1) rfl) rfl (List.getElem?_set_self (by simp))) rfl rfl rfl rfl rfl ?_
  repeat (first | refine w_seq ?_ | refine w_region env ?_ | refine wo_nil ?_ | (refine wo_gate ?_ ?_; rfl; refine wo_pure rfl rfl (fun _ => rfl) rfl rfl ?_) | refine wo_not rfl rfl ?_ | refine wo_max rfl rfl rfl rfl ?_ | refine wo_min rfl rfl rfl rfl ?_ | refine wo_load rfl (hc.rd1 st8.le) rfl rfl rfl rfl rfl ?_ | refine wo_load rfl (hv.rd1 st8.le) rfl rfl rfl rfl rfl ?_ | refine wo_load rfl (hm.rd1 st8.le) rfl rfl rfl rfl rfl ?_)
  refine wo_ix xs.length 1 xs.length rfl rfl rfl (by omega) (by omega) rfl rfl rfl rfl ?_
  refine wo_stO st8 0 rfl rfl rfl (by simp) (fun _ => rfl) rfl rfl rfl rfl rfl (fun B9 st9 => ?_)
  obtain ⟨V9, st10, le9, f9⟩ := st9.frzO 0 rfl
  replace ha := ha.le le9
  replace hr := hr.le le9
  replace hx := hx.le le9
  replace hc := hc.le le9
  replace hv := hv.le le9
  replace hm := hm.le le9
  clear st9 le9 st8 st7 le7 st6 le6 st4 le4 st3 le3 st2 le2 st0 le0
  replace st10 : Sta V0 V9 B9 [.obj iF ⟨(List.replicate (cs.length + 1) (Value.slice none 0 0)).set cs.length (.slice (some ⟨iR, 0, some 0⟩) (xs.length + 1) (xs.length + 1)), false, false, 1, 0⟩] := st10
  have hrow : Sl V9 (some ⟨iR, 0, some 0⟩) 1 (bools (rowB cs xs cs.length)) := by
    refine sl_of_at (sz := 1) f9 ?_ (bools_rows _) rfl
    rw [bools_flat, rowB_last cs xs cs.length rfl, List.map_set, List.map_replicate]
  have hM : ∃ M : List Value, M = (List.replicate (cs.length + 1) (Value.slice none 0 0)).set cs.length (.slice (some ⟨iR, 0, some 0⟩) (xs.length + 1) (xs.length + 1)) := ⟨_, rfl⟩
  obtain ⟨M, hM⟩ := hM
  rw [← hM] at st10
  have hMl : M.length = cs.length + 1 := by rw [hM]; simp
  have hMr : ∀ q, cs.length ≤ q → q ≤ cs.length → ∃ iq, M[q]? = some (.slice (some ⟨iq, 0, some 0⟩) (xs.length + 1) (xs.length + 1)) ∧ Sl V9 (some ⟨iq, 0, some 0⟩) 1 (bools (rowB cs xs q)) := by
    intro q h1 h2
    have : q = cs.length := by omega
    subst this
    exact ⟨iR, by rw [hM]; exact List.getElem?_set_self (by simp), hrow⟩
  clear hM hrow f9
  repeat (first | refine w_seq ?_ | refine w_region env ?_ | refine wo_nil ?_ | (refine wo_gate ?_ ?_; rfl; refine wo_pure rfl rfl (fun _ => rfl) rfl rfl ?_) | refine wo_not rfl rfl ?_ | refine wo_max rfl rfl rfl rfl ?_ | refine wo_min rfl rfl rfl rfl ?_ | refine wo_load rfl (hc.rd1 st10.le) rfl rfl rfl rfl rfl ?_ | refine wo_load rfl (hv.rd1 st10.le) rfl rfl rfl rfl rfl ?_ | refine wo_load rfl (hm.rd1 st10.le) rfl rfl rfl rfl rfl ?_)
  refine w_block ?_
  refine w_loop (fun j m' B => ∃ V M, Sta V0 V B [.obj iF ⟨M, false, false, 1, 0⟩] ∧ Le V9 V ∧ M.length = cs.length + 1 ∧ j ≤ cs.length ∧
      (∀ q, j ≤ q → q ≤ cs.length → ∃ iq, M[q]? = some (.slice (some ⟨iq, 0, some 0⟩) (xs.length + 1) (xs.length + 1)) ∧ Sl V (some ⟨iq, 0, some 0⟩) 1 (bools (rowB cs xs q))) ∧
      ∃ z : Int, z = (j : Int) - 1 ∧ m' = [(8, .int .i64 z), (7, .func (.func 152) #[] #[.pointer (some ⟨i2, 0, some 0⟩), .pointer (some ⟨i3, 0, some 0⟩), .pointer (some ⟨i6, 0, some 0⟩)]), (6, .pointer (some ⟨i6, 0, some 0⟩)), (2, .pointer (some ⟨i2, 0, some 0⟩)), (3, .pointer (some ⟨i3, 0, some 0⟩)), (4, .slice none 0 0)]) cs.length
    (Sub.cons rfl (Sub.cons rfl (Sub.cons rfl (Sub.cons rfl (Sub.cons rfl (Sub.cons rfl Sub.nil)))))) ⟨V9, M, st10, .refl _, hMl, Nat.le_refl _, hMr, _, by rw [i64_small (by omega) (by omega)]; omega, rfl⟩ ?_
  clear st10 hMl hMr
  rintro j m' B ⟨V, M, st, le, hMl, hj, hMr, z, hz, rfl⟩
  replace ha := ha.le le
  replace hr := hr.le le
  replace hx := hx.le le
  replace hc := hc.le le
  replace hv := hv.le le
  replace hm := hm.le le
  repeat (first | refine w_seq ?_ | refine w_region env ?_ | refine wo_nil ?_ | (refine wo_gate ?_ ?_; rfl; refine wo_pure rfl rfl (fun _ => rfl) rfl rfl ?_) | refine wo_not rfl rfl ?_ | refine wo_max rfl rfl rfl rfl ?_ | refine wo_min rfl rfl rfl rfl ?_ | refine wo_load rfl (hc.rd1 st.le) rfl rfl rfl rfl rfl ?_ | refine wo_load rfl (hv.rd1 st.le) rfl rfl rfl rfl rfl ?_ | refine wo_load rfl (hm.rd1 st.le) rfl rfl rfl rfl rfl ?_)
  refine w_cond _ rfl (fun hge => ?_) (fun hlt => ?_)
  · have hj0 : 0 < j := by
      have : 0 ≤ z := by simpa using hge
      omega
    obtain ⟨i, rfl⟩ : ∃ i, j = i + 1 := ⟨j - 1, by omega⟩
    obtain rfl : z = (i : Int) := by omega
    refine w_skip ?_
    refine w_seq (w_block ?_)
    refine w_seq (w_draw env 6 (by kernel_rfl) ?_)
    repeat (first | refine w_seq ?_ | refine w_region env ?_ | refine wo_nil ?_ | (refine wo_gate ?_ ?_; rfl; refine wo_pure rfl rfl (fun _ => rfl) rfl rfl ?_) | refine wo_not rfl rfl ?_ | refine wo_max rfl rfl rfl rfl ?_ | refine wo_min rfl rfl rfl rfl ?_ | refine wo_load rfl (hc.rd1 st.le) rfl rfl rfl rfl rfl ?_ | refine wo_load rfl (hv.rd1 st.le) rfl rfl rfl rfl rfl ?_ | refine wo_load rfl (hm.rd1 st.le) rfl rfl rfl rfl rfl ?_)
    refine wo_makeS st (xs.length + 1) rfl rfl (by rw [i64_small (by omega) (by omega)]; omega) (by rw [i64_small (by omega) (by omega)]; omega) (by omega) rfl rfl rfl rfl rfl rfl rfl rfl rfl rfl (fun iR V1 B1 st1 le1 => ?_)
    refine wo_ix i 1 i rfl rfl rfl (by omega) (by omega) rfl rfl rfl rfl ?_
    refine wo_stO st1 1 rfl rfl rfl (by omega) (fun _ => rfl) rfl rfl rfl rfl rfl (fun B2 st2 => ?_)
    replace ha := ha.le le1
    replace hr := hr.le le1
    replace hx := hx.le le1
    replace hc := hc.le le1
    replace hv := hv.le le1
    replace hm := hm.le le1
    replace st2 : Sta V0 V1 B2 [.obj iR ⟨List.replicate (xs.length + 1) (.bool false), false, false, 1, 0⟩, .obj iF ⟨M.set i (.slice (some ⟨iR, 0, some 0⟩) (xs.length + 1) (xs.length + 1)), false, false, 1, 0⟩] := st2
    have hMi : (M.set i (.slice (some ⟨iR, 0, some 0⟩) (xs.length + 1) (xs.length + 1)))[i]? = some (.slice (some ⟨iR, 0, some 0⟩) (xs.length + 1) (xs.length + 1)) := List.getElem?_set_self (by omega)
    obtain ⟨iq, hq1, hq2⟩ := hMr (i + 1) (by omega) (by omega)
    have hMq : (M.set i (.slice (some ⟨iR, 0, some 0⟩) (xs.length + 1) (xs.length + 1)))[i + 1]? = some (.slice (some ⟨iq, 0, some 0⟩) (xs.length + 1) (xs.length + 1)) := by rw [List.getElem?_set_ne (by omega)]; exact hq1
    replace hq2 := hq2.le le1
    repeat (first | refine w_seq ?_ | refine w_region env ?_ | refine wo_nil ?_ | (refine wo_gate ?_ ?_; rfl; refine wo_pure rfl rfl (fun _ => rfl) rfl rfl ?_) | refine wo_not rfl rfl ?_ | refine wo_max rfl rfl rfl rfl ?_ | refine wo_min rfl rfl rfl rfl ?_ | refine wo_load rfl (hc.rd1 st2.le) rfl rfl rfl rfl rfl ?_ | refine wo_load rfl (hv.rd1 st2.le) rfl rfl rfl rfl rfl ?_ | refine wo_load rfl (hm.rd1 st2.le) rfl rfl rfl rfl rfl ?_)
    refine wo_ix i 1 i rfl rfl rfl (by omega) (by omega) rfl rfl rfl rfl ?_
    refine wo_load rfl (rd_one (st2.obj (k := 1) rfl) rfl hMi) rfl rfl rfl rfl rfl ?_
    repeat (first | refine w_seq ?_ | refine w_region env ?_ | refine wo_nil ?_ | (refine wo_gate ?_ ?_; rfl; refine wo_pure rfl rfl (fun _ => rfl) rfl rfl ?_) | refine wo_not rfl rfl ?_ | refine wo_max rfl rfl rfl rfl ?_ | refine wo_min rfl rfl rfl rfl ?_ | refine wo_load rfl (hc.rd1 st2.le) rfl rfl rfl rfl rfl ?_ | refine wo_load rfl (hv.rd1 st2.le) rfl rfl rfl rfl rfl ?_ | refine wo_load rfl (hm.rd1 st2.le) rfl rfl rfl rfl rfl ?_)
    refine w_block ?_
    refine w_loop (fun j' m' B => ∃ V R, Sta V0 V B [.obj iR ⟨R, false, false, 1, 0⟩, .obj iF ⟨M.set i (.slice (some ⟨iR, 0, some 0⟩) (xs.length + 1) (xs.length + 1)), false, false, 1, 0⟩] ∧ Le V1 V ∧
        ∃ p : Nat, j' + p = xs.length + 1 ∧ R = ((rowB cs xs i).take p).map .bool ++ List.replicate j' (.bool false) ∧
        m' = [(51, .int .i64 p), (50, .int .i64 ((xs.length + 1 : Nat) : Int)), (8, .int .i64 i), (7, .func (.func 152) #[] #[.pointer (some ⟨i2, 0, some 0⟩), .pointer (some ⟨i3, 0, some 0⟩), .pointer (some ⟨i6, 0, some 0⟩)]), (6, .pointer (some ⟨i6, 0, some 0⟩)), (2, .pointer (some ⟨i2, 0, some 0⟩)), (3, .pointer (some ⟨i3, 0, some 0⟩)), (4, .slice none 0 0)]) (xs.length + 1)
      (Sub.cons rfl (Sub.cons rfl (Sub.cons rfl (Sub.cons rfl (Sub.cons rfl (Sub.cons rfl (Sub.cons rfl (Sub.cons rfl Sub.nil)))))))) ⟨V1, _, st2, .refl _, 0, rfl, by simp, rfl⟩ ?_
    clear st2 st1 st
    rintro j' m' B ⟨V2, R, st, le2, p, hjp, hR, rfl⟩
    replace ha := ha.le le2
    replace hr := hr.le le2
    replace hx := hx.le le2
    replace hc := hc.le le2
    replace hv := hv.le le2
    replace hm := hm.le le2
    replace hq2 := hq2.le le2
    repeat (first | refine w_seq ?_ | refine w_region env ?_ | refine wo_nil ?_ | (refine wo_gate ?_ ?_; rfl; refine wo_pure rfl rfl (fun _ => rfl) rfl rfl ?_) | refine wo_not rfl rfl ?_ | refine wo_max rfl rfl rfl rfl ?_ | refine wo_min rfl rfl rfl rfl ?_ | refine wo_load rfl (hc.rd1 st.le) rfl rfl rfl rfl rfl ?_ | refine wo_load rfl (hv.rd1 st.le) rfl rfl rfl rfl rfl ?_ | refine wo_load rfl (hm.rd1 st.le) rfl rfl rfl rfl rfl ?_)
    refine w_cond _ rfl (fun hlt => ?_) (fun hge => ?_)
    · have hp : p ≤ xs.length := by
        have : (p : Int) < ((xs.length + 1 : Nat) : Int) := by simpa using hlt
        omega
      obtain ⟨j', rfl⟩ : ∃ k, j' = k + 1 := ⟨j' - 1, by omega⟩
      have hRp : (((rowB cs xs i).take p).map Value.bool).length = p := by simp [rowB_len]; omega
      have hRl : R.length = xs.length + 1 := by rw [hR, List.length_append, hRp]; simp; omega
      refine w_skip ?_
      refine w_seq (w_block ?_)
      repeat (first | refine w_seq ?_ | refine w_region env ?_ | refine wo_nil ?_ | (refine wo_gate ?_ ?_; rfl; refine wo_pure rfl rfl (fun _ => rfl) rfl rfl ?_) | refine wo_not rfl rfl ?_ | refine wo_max rfl rfl rfl rfl ?_ | refine wo_min rfl rfl rfl rfl ?_ | refine wo_load rfl (hc.rd1 st.le) rfl rfl rfl rfl rfl ?_ | refine wo_load rfl (hv.rd1 st.le) rfl rfl rfl rfl rfl ?_ | refine wo_load rfl (hm.rd1 st.le) rfl rfl rfl rfl rfl ?_)
      refine w_draw env 9 (by kernel_rfl) ?_
      repeat (first | refine w_seq ?_ | refine w_region env ?_ | refine wo_nil ?_ | (refine wo_gate ?_ ?_; rfl; refine wo_pure rfl rfl (fun _ => rfl) rfl rfl ?_) | refine wo_not rfl rfl ?_ | refine wo_max rfl rfl rfl rfl ?_ | refine wo_min rfl rfl rfl rfl ?_ | refine wo_load rfl (hc.rd1 st.le) rfl rfl rfl rfl rfl ?_ | refine wo_load rfl (hv.rd1 st.le) rfl rfl rfl rfl rfl ?_ | refine wo_load rfl (hm.rd1 st.le) rfl rfl rfl rfl rfl ?_)
      refine wo_ix i 1 i rfl rfl rfl (by omega) (by omega) rfl rfl rfl rfl ?_
      refine wo_load rfl (rd_one (st.obj (k := 1) rfl) rfl hMi) rfl rfl rfl rfl rfl ?_
      repeat (first | refine w_seq ?_ | refine w_region env ?_ | refine wo_nil ?_ | (refine wo_gate ?_ ?_; rfl; refine wo_pure rfl rfl (fun _ => rfl) rfl rfl ?_) | refine wo_not rfl rfl ?_ | refine wo_max rfl rfl rfl rfl ?_ | refine wo_min rfl rfl rfl rfl ?_ | refine wo_load rfl (hc.rd1 st.le) rfl rfl rfl rfl rfl ?_ | refine wo_load rfl (hv.rd1 st.le) rfl rfl rfl rfl rfl ?_ | refine wo_load rfl (hm.rd1 st.le) rfl rfl rfl rfl rfl ?_)
      obtain ⟨VF, stF, leF, fF⟩ := st.frzO 1 rfl
      have hfm : Sl VF (some ⟨iF, 0, some 0⟩) 1 ((M.set i (.slice (some ⟨iR, 0, some 0⟩) (xs.length + 1) (xs.length + 1))).map fun v => [v]) := sl_of_at (sz := 1) fF (ones_flat _).symm (ones_rows _) rfl
      refine wo_callX stF (most_fun (hc.le leF) (hv.le leF) (hm.le leF) (ha.le leF) (hr.le leF) (hx.le leF) hfm (by simp [hMl]) (by rw [List.getElem?_map, hMq]; rfl) (hq2.le leF) (rowB_len _ _ _) (by omega) hp hlx hlc hok) rfl rfl rfl ?_
      rintro v r hrf rfl
      rw [mostI_at (by omega) hp _ rfl]
      obtain ⟨V3, st3, le3, _⟩ := st.callE hrf
      clear stF leF fF hfm
      replace ha := ha.le le3
      replace hr := hr.le le3
      replace hx := hx.le le3
      replace hc := hc.le le3
      replace hv := hv.le le3
      replace hm := hm.le le3
      replace hq2 := hq2.le le3
      repeat (first | refine w_seq ?_ | refine w_region env ?_ | refine wo_nil ?_ | (refine wo_gate ?_ ?_; rfl; refine wo_pure rfl rfl (fun _ => rfl) rfl rfl ?_) | refine wo_not rfl rfl ?_ | refine wo_max rfl rfl rfl rfl ?_ | refine wo_min rfl rfl rfl rfl ?_ | refine wo_load rfl (hc.rd1 st3.le) rfl rfl rfl rfl rfl ?_ | refine wo_load rfl (hv.rd1 st3.le) rfl rfl rfl rfl rfl ?_ | refine wo_load rfl (hm.rd1 st3.le) rfl rfl rfl rfl rfl ?_)
      have hbit : (decide ((match bestAt cs xs i p (by omega) with
          | some n => (n : Int)
          | none => -1) ≥ 0)) = (rowB cs xs i).getD p false := by
        rw [rowB_get cs xs i p hp, bestAt_isSome (by omega)]
        cases bestAt cs xs i p (by omega) with
        | none => rfl
        | some n => simp
      rw [hbit]
      refine wo_ix p 1 p rfl rfl rfl (by omega) (by omega) rfl rfl rfl rfl ?_
      refine wo_stO st3 0 rfl rfl rfl (by omega) (fun _ => rfl) rfl rfl rfl rfl rfl (fun B4 st4 => ?_)
      have hRs : R.set p (.bool ((rowB cs xs i).getD p false)) = ((rowB cs xs i).take (p + 1)).map .bool ++ List.replicate j' (.bool false) := by
        have := set_snoc (((rowB cs xs i).take p).map Value.bool) (.bool false) (.bool ((rowB cs xs i).getD p false)) j'
        rw [hRp] at this
        rw [hR, this]
        congr 1
        have hpl : p < (rowB cs xs i).length := by rw [rowB_len]; omega
        rw [List.take_add_one, List.map_append]
        simp [List.getD_eq_getElem?_getD, hpl]
      rw [hRs] at st4
      repeat (first | refine w_seq ?_ | refine w_region env ?_ | refine wo_nil ?_ | (refine wo_gate ?_ ?_; rfl; refine wo_pure rfl rfl (fun _ => rfl) rfl rfl ?_) | refine wo_not rfl rfl ?_ | refine wo_max rfl rfl rfl rfl ?_ | refine wo_min rfl rfl rfl rfl ?_ | refine wo_load rfl (hc.rd1 st4.le) rfl rfl rfl rfl rfl ?_ | refine wo_load rfl (hv.rd1 st4.le) rfl rfl rfl rfl rfl ?_ | refine wo_load rfl (hm.rd1 st4.le) rfl rfl rfl rfl rfl ?_)
      refine ⟨j', [(51, .int .i64 ((p + 1 : Nat) : Int)), (50, .int .i64 ((xs.length + 1 : Nat) : Int)), (8, .int .i64 i), (7, .func (.func 152) #[] #[.pointer (some ⟨i2, 0, some 0⟩), .pointer (some ⟨i3, 0, some 0⟩), .pointer (some ⟨i6, 0, some 0⟩)]), (6, .pointer (some ⟨i6, 0, some 0⟩)), (2, .pointer (some ⟨i2, 0, some 0⟩)), (3, .pointer (some ⟨i3, 0, some 0⟩)), (4, .slice none 0 0)], by omega,
        Sub.cons (some_int (i64_nat (by omega))) (Sub.cons rfl (Sub.cons rfl (Sub.cons rfl (Sub.cons rfl (Sub.cons rfl (Sub.cons rfl (Sub.cons rfl Sub.nil))))))), V3, _, st4, le2.trans le3, p + 1, by omega, rfl, rfl⟩
    · have hp : p = xs.length + 1 := by
        have : ¬ (p : Int) < ((xs.length + 1 : Nat) : Int) := by simpa using hge
        omega
      obtain rfl : j' = 0 := by omega
      have hRe : R = (rowB cs xs i).map .bool := by
        rw [hR, List.take_of_length_le (by rw [rowB_len]; omega)]; simp
      rw [hRe] at st
      obtain ⟨V3, st3, le3, f3⟩ := st.frzO 0 rfl
      refine w_exit ?_
      have hrow : Sl V3 (some ⟨iR, 0, some 0⟩) 1 (bools (rowB cs xs i)) := sl_of_at (sz := 1) f3 (bools_flat _).symm (bools_rows _) rfl
      repeat (first | refine w_seq ?_ | refine w_region env ?_ | refine wo_nil ?_ | (refine wo_gate ?_ ?_; rfl; refine wo_pure rfl rfl (fun _ => rfl) rfl rfl ?_) | refine wo_not rfl rfl ?_ | refine wo_max rfl rfl rfl rfl ?_ | refine wo_min rfl rfl rfl rfl ?_ | refine wo_load rfl (hc.rd1 st3.le) rfl rfl rfl rfl rfl ?_ | refine wo_load rfl (hv.rd1 st3.le) rfl rfl rfl rfl rfl ?_ | refine wo_load rfl (hm.rd1 st3.le) rfl rfl rfl rfl rfl ?_)
      rw [i64_small (by omega) (by omega)]
      refine ⟨i, _, by omega, Sub.cons rfl (Sub.cons rfl (Sub.cons rfl (Sub.cons rfl (Sub.cons rfl (Sub.cons rfl Sub.nil))))), V3, M.set i (.slice (some ⟨iR, 0, some 0⟩) (xs.length + 1) (xs.length + 1)), st3, le.trans (le1.trans (le2.trans le3)), by simpa using hMl, by omega, ?_, (i : Int) - 1, by omega, rfl⟩
      intro q h1 h2
      by_cases hqi : q = i
      · subst hqi
        exact ⟨iR, hMi, hrow⟩
      · obtain ⟨iq', g1, g2⟩ := hMr q (by omega) h2
        exact ⟨iq', by rw [List.getElem?_set_ne (by omega)]; exact g1, g2.le (le1.trans (le2.trans le3))⟩
  · have hj0 : j = 0 := by
      have : ¬ 0 ≤ z := by simpa using hlt
      omega
    subst hj0
    refine w_exit ?_
    obtain ⟨iq, hq1, hq2⟩ := hMr 0 (by omega) (by omega)
    obtain ⟨VF, stF, leF, fF⟩ := st.frzO 0 rfl
    have hfm : Sl VF (some ⟨iF, 0, some 0⟩) 1 (M.map fun v => [v]) := sl_of_at (sz := 1) fF (ones_flat _).symm (ones_rows _) rfl
    replace hMr : ∀ q, q ≤ cs.length → ∃ iq, M[q]? = some (.slice (some ⟨iq, 0, some 0⟩) (xs.length + 1) (xs.length + 1)) ∧ Sl VF (some ⟨iq, 0, some 0⟩) 1 (bools (rowB cs xs q)) := by
      intro q hq
      obtain ⟨iq, g1, g2⟩ := hMr q (by omega) hq
      exact ⟨iq, g1, g2.le leF⟩
    replace ha := ha.le leF
    replace hr := hr.le leF
    replace hx := hx.le leF
    replace hc := hc.le leF
    replace hv := hv.le leF
    replace hm := hm.le leF
    replace hq2 := hq2.le leF
    repeat (first | refine w_seq ?_ | refine w_region env ?_ | refine wo_nil ?_ | (refine wo_gate ?_ ?_; rfl; refine wo_pure rfl rfl (fun _ => rfl) rfl rfl ?_) | refine wo_not rfl rfl ?_ | refine wo_max rfl rfl rfl rfl ?_ | refine wo_min rfl rfl rfl rfl ?_ | refine wo_load rfl (hc.rd1 stF.le) rfl rfl rfl rfl rfl ?_ | refine wo_load rfl (hv.rd1 stF.le) rfl rfl rfl rfl rfl ?_ | refine wo_load rfl (hm.rd1 stF.le) rfl rfl rfl rfl rfl ?_)
    refine wo_at _ rfl (hfm.le stF.le) rfl rfl rfl rfl rfl (by simp [hMl]) (by omega) (by rw [List.getElem?_map]; show (M[0]?).map _ = _; rw [hq1]; rfl) (fun p1 hp1 => ?_)
    refine wo_load rfl hp1 rfl rfl rfl rfl rfl ?_
    refine wo_at _ rfl (hq2.le stF.le) rfl rfl rfl rfl rfl (by simp [bools_len, rowB_len]) (by omega) (bools_get (by rw [rowB_len]; show (0 : Int).toNat < _; simp)) (fun p2 hp2 => ?_)
    refine wo_load rfl hp2 rfl rfl rfl rfl rfl ?_
    have h00 : ((rowB cs xs 0)[(0 : Int).toNat]'(by rw [rowB_len]; simp)) = (stoodS cs xs).isSome := by
      have := rowB_get cs xs 0 0 (by omega)
      rw [List.drop_zero, List.drop_zero, List.getD_eq_getElem?_getD, List.getElem?_eq_getElem (by rw [rowB_len]; omega)] at this
      exact this
    rw [h00]
    repeat (first | refine w_seq ?_ | refine w_region env ?_ | refine wo_nil ?_ | (refine wo_gate ?_ ?_; rfl; refine wo_pure rfl rfl (fun _ => rfl) rfl rfl ?_) | refine wo_not rfl rfl ?_ | refine wo_max rfl rfl rfl rfl ?_ | refine wo_min rfl rfl rfl rfl ?_ | refine wo_load rfl (hc.rd1 stF.le) rfl rfl rfl rfl rfl ?_ | refine wo_load rfl (hv.rd1 stF.le) rfl rfl rfl rfl rfl ?_ | refine wo_load rfl (hm.rd1 stF.le) rfl rfl rfl rfl rfl ?_)
    cases hS : stoodS cs xs with
    | none =>
      refine w_cond _ rfl (fun _ => ?_) (fun h => by cases h)
      repeat (first | refine w_seq ?_ | refine w_region env ?_ | refine wo_nil ?_ | (refine wo_gate ?_ ?_; rfl; refine wo_pure rfl rfl (fun _ => rfl) rfl rfl ?_) | refine wo_not rfl rfl ?_ | refine wo_max rfl rfl rfl rfl ?_ | refine wo_min rfl rfl rfl rfl ?_ | refine wo_load rfl (hc.rd1 stF.le) rfl rfl rfl rfl rfl ?_ | refine wo_load rfl (hv.rd1 stF.le) rfl rfl rfl rfl rfl ?_ | refine wo_load rfl (hm.rd1 stF.le) rfl rfl rfl rfl rfl ?_)
      exact w_ret ⟨.inr rfl, stF.gr, _, rfl, by simp [oneOf]⟩
    | some r =>
      refine w_cond _ rfl (fun h => by cases h) (fun _ => ?_)
      refine w_skip ?_
      repeat (first | refine w_seq ?_ | refine w_region env ?_ | refine wo_nil ?_ | (refine wo_gate ?_ ?_; rfl; refine wo_pure rfl rfl (fun _ => rfl) rfl rfl ?_) | refine wo_not rfl rfl ?_ | refine wo_max rfl rfl rfl rfl ?_ | refine wo_min rfl rfl rfl rfl ?_ | refine wo_load rfl (hc.rd1 stF.le) rfl rfl rfl rfl rfl ?_ | refine wo_load rfl (hv.rd1 stF.le) rfl rfl rfl rfl rfl ?_ | refine wo_load rfl (hm.rd1 stF.le) rfl rfl rfl rfl rfl ?_)
      refine w_block ?_
      refine w_loop (fun j m' B => ∃ V a' out, Sta V0 V B [.acc a' 1 (ints out)] ∧ Le VF V ∧ out.length ≤ xs.length ∧ ∃ i : Nat, j + i = cs.length ∧ (∃ r', stoodS (cs.drop i) (xs.drop out.length) = some r' ∧ r = out ++ r'.map (· + (i : Int))) ∧
          m' = [(74, .int .i64 i), (73, .int .i64 rows.length), (4, .slice a' out.length out.length), (7, .func (.func 152) #[] #[.pointer (some ⟨i2, 0, some 0⟩), .pointer (some ⟨i3, 0, some 0⟩), .pointer (some ⟨i6, 0, some 0⟩)])]) cs.length
        (Sub.cons rfl (Sub.cons rfl (Sub.cons rfl (Sub.cons rfl Sub.nil)))) ⟨VF, none, [], stF.addAcc 1, .refl _, by simp, 0, by omega, ⟨r, by simpa using hS, by simp⟩, rfl⟩ ?_
      clear stF leF st
      rintro j m' B ⟨V, a', out, st, le1, hol, i, hji, ⟨r', hr1, hr2⟩, rfl⟩
      repeat (first | refine w_seq ?_ | refine w_region env ?_ | refine wo_nil ?_ | (refine wo_gate ?_ ?_; rfl; refine wo_pure rfl rfl (fun _ => rfl) rfl rfl ?_) | refine wo_not rfl rfl ?_ | refine wo_max rfl rfl rfl rfl ?_ | refine wo_min rfl rfl rfl rfl ?_ | refine wo_load rfl (hc.rd1 st.le) rfl rfl rfl rfl rfl ?_ | refine wo_load rfl (hv.rd1 st.le) rfl rfl rfl rfl rfl ?_ | refine wo_load rfl (hm.rd1 st.le) rfl rfl rfl rfl rfl ?_)
      refine w_cond _ rfl (fun hlt => ?_) (fun hge => ?_)
      · have hi : i < cs.length := by
          have : (i : Int) < (rows.length : Int) := by simpa using hlt
          omega
        have hat := stoodS_at (xs := xs) (p := out.length) hi
        rw [hr1] at hat
        cases hb : bestAt cs xs i out.length hi with
        | none => rw [hb] at hat; cases hat
        | some nn =>
          rw [hb] at hat
          simp only at hat
          obtain ⟨r2, g1, g2⟩ := Option.map_eq_some_iff.1 hat.symm
          have hnn := (bestsB_lt hb).1
          refine w_skip ?_
          refine w_seq (w_block ?_)
          repeat (first | refine w_seq ?_ | refine w_region env ?_ | refine wo_nil ?_ | (refine wo_gate ?_ ?_; rfl; refine wo_pure rfl rfl (fun _ => rfl) rfl rfl ?_) | refine wo_not rfl rfl ?_ | refine wo_max rfl rfl rfl rfl ?_ | refine wo_min rfl rfl rfl rfl ?_ | refine wo_load rfl (hc.rd1 st.le) rfl rfl rfl rfl rfl ?_ | refine wo_load rfl (hv.rd1 st.le) rfl rfl rfl rfl rfl ?_ | refine wo_load rfl (hm.rd1 st.le) rfl rfl rfl rfl rfl ?_)
          obtain ⟨iq1, q1, q2⟩ := hMr (i + 1) (by omega)
          refine wo_callX st (most_fun (hc.le le1) (hv.le le1) (hm.le le1) (ha.le le1) (hr.le le1) (hx.le le1) (hfm.le le1) (by simp [hMl]) (by rw [List.getElem?_map, q1]; rfl) (q2.le le1) (rowB_len _ _ _) hi hol hlx hlc hok) rfl rfl rfl ?_
          rintro v rr hrf rfl
          rw [mostI_at hi hol _ rfl, hb]
          obtain ⟨V3, st3, le3, _⟩ := st.callE hrf
          repeat (first | refine w_seq ?_ | refine w_region env ?_ | refine wo_nil ?_ | (refine wo_gate ?_ ?_; rfl; refine wo_pure rfl rfl (fun _ => rfl) rfl rfl ?_) | refine wo_not rfl rfl ?_ | refine wo_max rfl rfl rfl rfl ?_ | refine wo_min rfl rfl rfl rfl ?_ | refine wo_load rfl (hc.rd1 st3.le) rfl rfl rfl rfl rfl ?_ | refine wo_load rfl (hv.rd1 st3.le) rfl rfl rfl rfl rfl ?_ | refine wo_load rfl (hm.rd1 st3.le) rfl rfl rfl rfl rfl ?_)
          refine w_block ?_
          refine w_loop (fun j' m' B => ∃ V a2, ∃ k : Nat, Sta V0 V B [.acc a2 1 (ints (out ++ List.replicate k (i : Int)))] ∧ Le V3 V ∧ j' + k = nn ∧ ∃ (z : Int) (l : Nat), z = k ∧ l = out.length + k ∧
              m' = [(82, .int .i64 z), (81, .int .i64 nn), (10, .int .i64 i), (74, .int .i64 i), (73, .int .i64 rows.length), (4, .slice a2 l l), (7, .func (.func 152) #[] #[.pointer (some ⟨i2, 0, some 0⟩), .pointer (some ⟨i3, 0, some 0⟩), .pointer (some ⟨i6, 0, some 0⟩)])]) nn
            (Sub.cons rfl (Sub.cons rfl (Sub.cons rfl (Sub.cons rfl (Sub.cons rfl (Sub.cons rfl (Sub.cons rfl Sub.nil))))))) ⟨V3, a', 0, by simpa using st3, .refl _, by omega, _, _, rfl, rfl, rfl⟩ ?_
          rintro j' m' B4 ⟨V4, a2, k, st4, le4, hjk, z4, l4, hz4, hl4, rfl⟩
          have hl4' : l4 = (ints (out ++ List.replicate k (i : Int))).length := by simp [ints, hl4]
          repeat (first | refine w_seq ?_ | refine w_region env ?_ | refine wo_nil ?_ | (refine wo_gate ?_ ?_; rfl; refine wo_pure rfl rfl (fun _ => rfl) rfl rfl ?_) | refine wo_not rfl rfl ?_ | refine wo_max rfl rfl rfl rfl ?_ | refine wo_min rfl rfl rfl rfl ?_ | refine wo_load rfl (hc.rd1 st4.le) rfl rfl rfl rfl rfl ?_ | refine wo_load rfl (hv.rd1 st4.le) rfl rfl rfl rfl rfl ?_ | refine wo_load rfl (hm.rd1 st4.le) rfl rfl rfl rfl rfl ?_)
          refine w_cond _ rfl (fun hlt2 => ?_) (fun hge2 => ?_)
          · have h0 : 0 < j' := by
              have : z4 < (nn : Int) := by simpa using hlt2
              omega
            refine w_skip ?_
            refine w_seq (w_block ?_)
            repeat (first | refine w_seq ?_ | refine w_region env ?_ | refine wo_nil ?_ | (refine wo_gate ?_ ?_; rfl; refine wo_pure rfl rfl (fun _ => rfl) rfl rfl ?_) | refine wo_not rfl rfl ?_ | refine wo_max rfl rfl rfl rfl ?_ | refine wo_min rfl rfl rfl rfl ?_ | refine wo_load rfl (hc.rd1 st4.le) rfl rfl rfl rfl rfl ?_ | refine wo_load rfl (hv.rd1 st4.le) rfl rfl rfl rfl rfl ?_ | refine wo_load rfl (hm.rd1 st4.le) rfl rfl rfl rfl rfl ?_)
            refine wo_mkF st4 (cs := [.int .i64 i]) 1 rfl rfl (fun _ => rfl) rfl rfl (fun iN V5 B5 st5 le5 f5 => ?_)
            refine wo_app1 st5 0 rfl rfl rfl f5 rfl hl4' hl4' rfl (by omega) rfl rfl rfl rfl rfl rfl rfl rfl rfl rfl (fun a3 V6 B6 st6 le6 => ?_)
            repeat (first | refine w_seq ?_ | refine w_region env ?_ | refine wo_nil ?_ | (refine wo_gate ?_ ?_; rfl; refine wo_pure rfl rfl (fun _ => rfl) rfl rfl ?_) | refine wo_not rfl rfl ?_ | refine wo_max rfl rfl rfl rfl ?_ | refine wo_min rfl rfl rfl rfl ?_ | refine wo_load rfl (hc.rd1 st6.le) rfl rfl rfl rfl rfl ?_ | refine wo_load rfl (hv.rd1 st6.le) rfl rfl rfl rfl rfl ?_ | refine wo_load rfl (hm.rd1 st6.le) rfl rfl rfl rfl rfl ?_)
            have e1 : ints (out ++ List.replicate (k + 1) (i : Int)) = ints (out ++ List.replicate k (i : Int)) ++ [[.int .i64 i]] := by
              rw [List.replicate_succ', ← List.append_assoc, ints_app _ [(i : Int)]]; rfl
            refine ⟨j' - 1, [(82, _), (81, _), (10, _), (74, _), (73, _), (4, _), (7, _)], by omega, (Sub.cons rfl (Sub.cons rfl (Sub.cons rfl (Sub.cons rfl (Sub.cons rfl (Sub.cons rfl (Sub.cons rfl Sub.nil))))))), V6, a3, k + 1, by rw [e1]; exact st6, le4.trans (le5.trans le6), by omega, _, _, ?_, ?_, rfl⟩
            · rw [hz4]; exact i64_nat (by omega)
            · omega
          · have h0 : k = nn := by
              have : ¬ z4 < (nn : Int) := by simpa using hge2
              omega
            subst h0
            refine w_exit ?_
            repeat (first | refine w_seq ?_ | refine w_region env ?_ | refine wo_nil ?_ | (refine wo_gate ?_ ?_; rfl; refine wo_pure rfl rfl (fun _ => rfl) rfl rfl ?_) | refine wo_not rfl rfl ?_ | refine wo_max rfl rfl rfl rfl ?_ | refine wo_min rfl rfl rfl rfl ?_ | refine wo_load rfl (hc.rd1 st4.le) rfl rfl rfl rfl rfl ?_ | refine wo_load rfl (hv.rd1 st4.le) rfl rfl rfl rfl rfl ?_ | refine wo_load rfl (hm.rd1 st4.le) rfl rfl rfl rfl rfl ?_)
            have e3 : l4 = (out ++ List.replicate k (i : Int)).length := by simp; omega
            subst e3
            refine ⟨j - 1, [(74, .int .i64 ((i + 1 : Nat) : Int)), (73, .int .i64 rows.length), (4, _), (7, .func (.func 152) #[] #[.pointer (some ⟨i2, 0, some 0⟩), .pointer (some ⟨i3, 0, some 0⟩), .pointer (some ⟨i6, 0, some 0⟩)])], by omega,
              Sub.cons (some_int (i64_nat (by omega))) (Sub.cons rfl (Sub.cons rfl (Sub.cons rfl Sub.nil))), V4, a2, _, st4, le1.trans (le3.trans le4), by simp; omega, i + 1, by omega, ⟨r2, by simpa using g1, ?_⟩, rfl⟩
            rw [hr2, ← g2, List.map_append, map_succ, List.map_replicate, List.append_assoc]
            simp
      · have hi : i = cs.length := by
          have : ¬ (i : Int) < (rows.length : Int) := by simpa using hge
          omega
        subst hi
        refine w_exit ?_
        repeat (first | refine w_seq ?_ | refine w_region env ?_ | refine wo_nil ?_ | (refine wo_gate ?_ ?_; rfl; refine wo_pure rfl rfl (fun _ => rfl) rfl rfl ?_) | refine wo_not rfl rfl ?_ | refine wo_max rfl rfl rfl rfl ?_ | refine wo_min rfl rfl rfl rfl ?_ | refine wo_load rfl (hc.rd1 st.le) rfl rfl rfl rfl rfl ?_ | refine wo_load rfl (hv.rd1 st.le) rfl rfl rfl rfl rfl ?_ | refine wo_load rfl (hm.rd1 st.le) rfl rfl rfl rfl rfl ?_)
        have hre : r = out := by
          rw [List.drop_length] at hr1
          simp only [stoodS] at hr1
          split at hr1
          · cases hr1; simpa using hr2
          · cases hr1
        subst hre
        exact w_ret ⟨.inr rfl, st.gr, _, rfl, _, _, rfl, st.acc (k := 0) rfl⟩
end Go.Proofs.YtdjcbpicdnhciaaGreat
