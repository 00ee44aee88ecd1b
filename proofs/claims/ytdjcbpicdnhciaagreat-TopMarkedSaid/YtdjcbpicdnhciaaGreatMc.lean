/- The program's walls: cells are right; the same cells. -/
import Derived.Test.YtdjcbpicdnhciaaGreatMb
set_option linter.unusedVariables false
set_option linter.unusedSimpArgs false
open Go Go.Dx Go.Proofs
namespace Go.Proofs.YtdjcbpicdnhciaaGreat
set_option maxRecDepth 20000

theorem CellsR.pre {A B : Hp} (h : Pre A B) {rows : List (List Value)} {cs : List CellS} (hr : CellsR A rows cs) : CellsR B rows cs := by
  refine ⟨hr.1, fun i hi => ?_⟩
  obtain ⟨row, h1, a, cap, h2, h3, h4⟩ := hr.2 i hi
  exact ⟨row, h1, a, cap, h2, h3.pre h, h4⟩

theorem CellsR.ro {A : Hp} {rows : List (List Value)} {cs : List CellS} (hr : CellsR A rows cs) : CellsR (roH A) rows cs := by
  refine ⟨hr.1, fun i hi => ?_⟩
  obtain ⟨row, h1, a, cap, h2, h3, h4⟩ := hr.2 i hi
  exact ⟨row, h1, a, cap, h2, h3.ro, h4⟩

theorem CellsR.unro {A r : Hp} {rows : List (List Value)} {cs : List CellS} (hr : CellsR (roH A ++ r) rows cs) : CellsR (A ++ r) rows cs := by
  refine ⟨hr.1, fun i hi => ?_⟩
  obtain ⟨row, h1, a, cap, h2, h3, h4⟩ := hr.2 i hi
  exact ⟨row, h1, a, cap, h2, h3.unro, h4⟩

def sumMx (cs : List CellS) : Int := (cs.map (·.mx)).sum

theorem sum_take {cs : List CellS} {i : Nat} (h : i < cs.length) : sumMx (cs.take (i + 1)) = sumMx (cs.take i) + cs[i].mx := by
  simp only [sumMx]
  rw [List.take_add_one, List.map_append, List.sum_append]
  simp [h]

theorem sum_bound {cs : List CellS} (h : ∀ c ∈ cs, 0 ≤ c.mx ∧ c.mx ≤ 9) : 0 ≤ sumMx cs ∧ sumMx cs ≤ 9 * cs.length := by
  induction cs with
  | nil => simp [sumMx]
  | cons c cs ih =>
    have h1 := ih (fun c hc => h c (by simp [hc]))
    have h2 := h c (by simp)
    simp only [sumMx, List.map_cons, List.sum_cons, List.length_cons] at h1 ⊢
    omega

/-- A cell that the program takes. -/
structure CellOK' (n : Int) (c : CellS) : Prop where
  lo : 0 ≤ c.mn
  le : c.mn ≤ c.mx
  hi : c.mx ≤ 9
  rise : Rise n c.sg
  len : c.sg.length ≤ 1000

theorem sum_ok {cs : List CellS} {n : Int} (h : ∀ c ∈ cs, CellOK' n c) (i : Nat) : 0 ≤ sumMx (cs.take i) ∧ sumMx (cs.take i) ≤ 9 * cs.length := by
  have h1 := sum_bound (cs := cs.take i) (fun c hc => by
    obtain ⟨h1, h2, h3, _, _⟩ := h c (List.mem_of_mem_take hc)
    exact ⟨by omega, h3⟩)
  have h2 : (cs.take i).length ≤ cs.length := by simp; omega
  omega

/-- F91 -/
theorem right_fun {A : Hp} {a : Option Addr} {rows : List (List Value)} {cs : List CellS} {ca : Nat} {n : Int} (ha : Sl A a 3 rows) (hr : CellsR A rows cs) (hok : ∀ c ∈ cs, CellOK' n c) (hn : 1 ≤ n ∧ n ≤ 1000) (hlen : cs.length ≤ 6) :
    Fun Tryz.prog 91 [.int .i64 n, .slice a rows.length ca] A fun v _ => v = .bool true := by
  replace ha := ha.ro
  replace hr := hr.ro
  have hrl : rows.length = cs.length := hr.1
  refine fun_walk (fn := Tryz.f91) Tryz.func91 rfl rfl ?_
  repeat (first | refine w_seq ?_ | refine w_region env ?_ | refine wo_nil ?_ | refine wo_max rfl rfl rfl rfl ?_ | refine wo_min rfl rfl rfl rfl ?_ | refine wo_pure rfl rfl (fun _ => rfl) rfl rfl ?_ | refine wo_not rfl rfl ?_ | refine wo_load rfl (rd_ver (by assumption) rfl _ 1 (Nat.le_of_ble_eq_true rfl)) rfl rfl rfl rfl rfl ?_)
  refine w_block ?_
  refine w_loop (fun j m' B => Gr (roH A) B ∧ ∃ i : Nat, j + i = rows.length ∧ m' = [(10, .int .i64 i), (9, .int .i64 rows.length), (8, .slice a rows.length ca), (5, .int .i64 (sumMx (cs.take i))), (0, .int .i64 n), (1, .slice a rows.length ca)]) rows.length
    (Sub.cons rfl (Sub.cons rfl (Sub.cons rfl (Sub.cons rfl (Sub.cons rfl (Sub.cons rfl Sub.nil)))))) ⟨.refl _, 0, by omega, rfl⟩ ?_
  rintro j m' B ⟨hg, i, hji, rfl⟩
  repeat (first | refine w_seq ?_ | refine w_region env ?_ | refine wo_nil ?_ | refine wo_max rfl rfl rfl rfl ?_ | refine wo_min rfl rfl rfl rfl ?_ | refine wo_pure rfl rfl (fun _ => rfl) rfl rfl ?_ | refine wo_not rfl rfl ?_ | refine wo_load rfl (rd_ver (by assumption) rfl _ 1 (Nat.le_of_ble_eq_true rfl)) rfl rfl rfl rfl rfl ?_)
  refine w_cond _ rfl ?_ ?_
  · intro hlt
    have hix : i < rows.length := by simpa using hlt
    have hic : i < cs.length := by omega
    obtain ⟨row, hrow, sa, sc, rfl, hsg, _⟩ := (hr.pre hg.pre).2 i hic
    obtain ⟨k0, k1, k2, k3, k4⟩ := hok cs[i] (by simp)
    refine w_skip ?_
    refine w_seq (w_block ?_)
    repeat (first | refine w_seq ?_ | refine w_region env ?_ | refine wo_nil ?_ | refine wo_max rfl rfl rfl rfl ?_ | refine wo_min rfl rfl rfl rfl ?_ | refine wo_pure rfl rfl (fun _ => rfl) rfl rfl ?_ | refine wo_not rfl rfl ?_ | refine wo_load rfl (rd_ver (by assumption) rfl _ 1 (Nat.le_of_ble_eq_true rfl)) rfl rfl rfl rfl rfl ?_)
    refine wo_at _ rfl (ha.pre hg.pre) rfl rfl rfl rfl rfl rfl (by omega) (by simpa using hrow) (fun p hp => ?_)
    refine wo_loads rfl hp rfl rfl rfl rfl rfl rfl ?_
    refine wo_varA rfl (fun _ h => by cases h; rfl) rfl rfl rfl rfl rfl rfl rfl rfl rfl rfl rfl (fun i1 B1 ⟨h1, g1, q1, p1, _, _⟩ => ?_)
    have hg1 := (g1 _ hg).1
    have e0 : decide (cs[i].mn < 0) = false := by simp; omega
    have e1 : decide (cs[i].mn > cs[i].mx) = false := by simp; omega
    have e2 : decide (cs[i].mx > 9) = false := by simp; omega
    have e3 : ((n : Int) == 0) = false := by simp; omega
    repeat (first | refine w_seq ?_ | refine w_region env ?_ | refine wo_nil ?_ | refine wo_max rfl rfl rfl rfl ?_ | refine wo_min rfl rfl rfl rfl ?_ | refine wo_pure rfl rfl (fun _ => rfl) rfl rfl ?_ | refine wo_not rfl rfl ?_ | refine wo_load rfl (rd_ver (by assumption) rfl _ 1 (Nat.le_of_ble_eq_true rfl)) rfl rfl rfl rfl rfl ?_)
    rw [e0]
    repeat (first | refine w_seq ?_ | refine w_region env ?_ | refine wo_nil ?_ | refine wo_max rfl rfl rfl rfl ?_ | refine wo_min rfl rfl rfl rfl ?_ | refine wo_pure rfl rfl (fun _ => rfl) rfl rfl ?_ | refine wo_not rfl rfl ?_ | refine wo_load rfl (rd_ver (by assumption) rfl _ 1 (Nat.le_of_ble_eq_true rfl)) rfl rfl rfl rfl rfl ?_)
    rw [e1]
    repeat (first | refine w_seq ?_ | refine w_region env ?_ | refine wo_nil ?_ | refine wo_max rfl rfl rfl rfl ?_ | refine wo_min rfl rfl rfl rfl ?_ | refine wo_pure rfl rfl (fun _ => rfl) rfl rfl ?_ | refine wo_not rfl rfl ?_ | refine wo_load rfl (rd_ver (by assumption) rfl _ 1 (Nat.le_of_ble_eq_true rfl)) rfl rfl rfl rfl rfl ?_)
    rw [e2]
    repeat (first | refine w_seq ?_ | refine w_region env ?_ | refine wo_nil ?_ | refine wo_max rfl rfl rfl rfl ?_ | refine wo_min rfl rfl rfl rfl ?_ | refine wo_pure rfl rfl (fun _ => rfl) rfl rfl ?_ | refine wo_not rfl rfl ?_ | refine wo_load rfl (rd_ver (by assumption) rfl _ 1 (Nat.le_of_ble_eq_true rfl)) rfl rfl rfl rfl rfl ?_)
    refine wo_call1 (rising_fun (hsg.pre p1) k3 (by omega) (by omega)) rfl rfl rfl ?_
    rintro v r hr rfl
    have hg2 := hg1.app hr
    have h2 := at_app h1 r
    repeat (first | refine w_seq ?_ | refine w_region env ?_ | refine wo_nil ?_ | refine wo_max rfl rfl rfl rfl ?_ | refine wo_min rfl rfl rfl rfl ?_ | refine wo_pure rfl rfl (fun _ => rfl) rfl rfl ?_ | refine wo_not rfl rfl ?_ | refine wo_load rfl (rd_ver (by assumption) rfl _ 1 (Nat.le_of_ble_eq_true rfl)) rfl rfl rfl rfl rfl ?_)
    rw [e3]
    repeat (first | refine w_seq ?_ | refine w_region env ?_ | refine wo_nil ?_ | refine wo_max rfl rfl rfl rfl ?_ | refine wo_min rfl rfl rfl rfl ?_ | refine wo_pure rfl rfl (fun _ => rfl) rfl rfl ?_ | refine wo_not rfl rfl ?_ | refine wo_load rfl (rd_ver (by assumption) rfl _ 1 (Nat.le_of_ble_eq_true rfl)) rfl rfl rfl rfl rfl ?_)
    refine w_cond _ rfl (fun h => by cases h) (fun _ => ?_)
    refine w_skip ?_
    repeat (first | refine w_seq ?_ | refine w_region env ?_ | refine wo_nil ?_ | refine wo_max rfl rfl rfl rfl ?_ | refine wo_min rfl rfl rfl rfl ?_ | refine wo_pure rfl rfl (fun _ => rfl) rfl rfl ?_ | refine wo_not rfl rfl ?_ | refine wo_load rfl (rd_ver (by assumption) rfl _ 1 (Nat.le_of_ble_eq_true rfl)) rfl rfl rfl rfl rfl ?_)
    have hs := sum_ok hok i
    exact ⟨j - 1, [(10, .int .i64 ((i + 1 : Nat) : Int)), (9, .int .i64 rows.length), (8, .slice a rows.length ca), (5, .int .i64 (sumMx (cs.take (i + 1)))), (0, .int .i64 n), (1, .slice a rows.length ca)], by omega,
      Sub.cons (some_int (i64_nat (by omega))) (Sub.cons rfl (Sub.cons rfl (Sub.cons (some_int (by rw [sum_take hic, i64_small (by omega) (by omega)])) (Sub.cons rfl (Sub.cons rfl Sub.nil))))), hg2, i + 1, by omega, rfl⟩
  · intro hge
    have hix : rows.length ≤ i := by simpa using hge
    refine w_exit ?_
    repeat (first | refine w_seq ?_ | refine w_region env ?_ | refine wo_nil ?_ | refine wo_max rfl rfl rfl rfl ?_ | refine wo_min rfl rfl rfl rfl ?_ | refine wo_pure rfl rfl (fun _ => rfl) rfl rfl ?_ | refine wo_not rfl rfl ?_ | refine wo_load rfl (rd_ver (by assumption) rfl _ 1 (Nat.le_of_ble_eq_true rfl)) rfl rfl rfl rfl rfl ?_)
    have hs := sum_ok hok i
    have e0 : decide ((rows.length : Int) ≤ 40) = true := by simp; omega
    rw [e0]
    repeat (first | refine w_seq ?_ | refine w_region env ?_ | refine wo_nil ?_ | refine wo_max rfl rfl rfl rfl ?_ | refine wo_min rfl rfl rfl rfl ?_ | refine wo_pure rfl rfl (fun _ => rfl) rfl rfl ?_ | refine wo_not rfl rfl ?_ | refine wo_load rfl (rd_ver (by assumption) rfl _ 1 (Nat.le_of_ble_eq_true rfl)) rfl rfl rfl rfl rfl ?_)
    refine w_ret ⟨.inr rfl, hg, _, rfl, ?_⟩
    simp only [oneOf, Value.bool.injEq, decide_eq_true_eq]
    omega
end Go.Proofs.YtdjcbpicdnhciaaGreat
