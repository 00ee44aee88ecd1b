/- The program's walls: how long a stretch of a cell may be (most, within divide). -/
import Derived.Test.YtdjcbpicdnhciaaGreatMi
set_option linter.unusedVariables false
set_option linter.unusedSimpArgs false
open Go Go.Dx Go.Proofs
namespace Go.Proofs.YtdjcbpicdnhciaaGreat
set_option maxRecDepth 20000

theorem bestsB_stop {c : CellS} {ys : List Int} {f : Nat → Bool} {n : Nat} (h : (ys.take n).all (allowsS c) = false) : ∀ m, n ≤ m → bestsB c ys f m = bestsB c ys f n
  | 0, hm => by have : n = 0 := by omega
                subst this; rfl
  | m + 1, hm => by
    rcases Nat.lt_or_ge n (m + 1) with h1 | h1
    · have h2 : (ys.take m).all (allowsS c) = false := by
        rw [Bool.eq_false_iff] at h ⊢
        intro h3
        apply h
        rw [List.all_eq_true] at h3 ⊢
        intro x hx
        refine h3 x ?_
        have : ys.take n = (ys.take m).take n := by rw [List.take_take, Nat.min_eq_left (by omega)]
        rw [this] at hx
        exact List.mem_of_mem_take hx
      simp only [bestsB, h2, Bool.and_false, Bool.false_and, Bool.false_eq_true, if_false]
      exact bestsB_stop h m (by omega)
    · have : n = m + 1 := by omega
      subst this; rfl

/-- The answer of 'most'. -/
def mostI (c : CellS) (ys : List Int) (f : Nat → Bool) (j : Nat) : Int :=
  match bestsB c ys f j with
  | some n => n
  | none => -1

def bools (bs : List Bool) : List (List Value) := bs.map fun b => [.bool b]

theorem bools_len (bs : List Bool) : (bools bs).length = bs.length := by simp [bools]
theorem bools_get {bs : List Bool} {i : Nat} (h : i < bs.length) : (bools bs)[i]? = some [.bool bs[i]] := by simp [bools, h]

/-- A value in memory. -/
def HasVal (A : Hp) (i : Nat) (v : Value) : Prop := ∃ b, A[i]? = some (.cells b) ∧ b.cs = [v] ∧ b.ver = 0

theorem HasVal.ro {A : Hp} {i : Nat} {v : Value} (h : HasVal A i v) : HasVal (roH A) i v := by
  obtain ⟨b, h1, h2, h3⟩ := h
  exact ⟨{ b with ro := true }, by rw [roH_at, h1]; rfl, h2, h3⟩

theorem HasVal.pre {A B : Hp} (hp : Pre A B) {i : Nat} {v : Value} (h : HasVal A i v) : HasVal B i v := by
  obtain ⟨b, h1, h2⟩ := h
  exact ⟨b, hp.at h1, h2⟩

theorem HasVal.rd {A : Hp} {i : Nat} {v : Value} (h : HasVal A i v) : Go.Dx.rd A ⟨i, 0, some 0⟩ 1 = some [v] := by
  obtain ⟨b, h1, h2, h3⟩ := h
  have := rd_ver h1 h3 0 1 (by rw [h2]; simp)
  rw [this, h2]; rfl

theorem mostI_succ {c : CellS} {ys : List Int} {f : Nat → Bool} {n : Nat} : mostI c ys f (n + 1) = if (decide (c.mn ≤ n) && (ys.take n).all (allowsS c) && f n) = true then (n : Int) else mostI c ys f n := by
  by_cases h : (decide (c.mn ≤ n) && (ys.take n).all (allowsS c) && f n) = true
  · simp only [mostI, bestsB, if_pos h]
  · simp only [mostI, bestsB, if_neg h]

/-- F152 -/
theorem most_fun {A : Hp} {ic ix im : Nat} {a x fm ra : Option Addr} {rows rowsM : List (List Value)} {ca cx cm cr lm i p : Nat} {cs : List CellS} {xs : List Int} {brow : List Bool}
    (hc : HasVal A ic (.slice a rows.length ca)) (hv : HasVal A ix (.slice x xs.length cx)) (hm : HasVal A im (.slice fm lm cm)) (ha : Sl A a 3 rows) (hr : CellsR A rows cs) (hx : Sl A x 1 (ints xs)) (hfm : Sl A fm 1 rowsM) (hlm : lm = rowsM.length)
    (hrow : rowsM[i + 1]? = some [.slice ra (xs.length + 1) cr]) (hra : Sl A ra 1 (bools brow)) (hbl : brow.length = xs.length + 1) (hi : i < cs.length) (hp : p ≤ xs.length) (hlx : xs.length ≤ 60) (hlc : cs.length ≤ 6) (hok : ∀ c ∈ cs, CellOK' 3 c) :
    Fun Tryz.prog 152 [.int .i64 i, .int .i64 p, .pointer (some ⟨ic, 0, some 0⟩), .pointer (some ⟨ix, 0, some 0⟩), .pointer (some ⟨im, 0, some 0⟩)] A fun v _ =>
      v = .int .i64 (mostI cs[i] (xs.drop p) (fun n => brow.getD (p + n) false) (min cs[i].mx.toNat (xs.length - p) + 1)) := by
  replace hc := hc.ro
  replace hv := hv.ro
  replace hm := hm.ro
  replace ha := ha.ro
  replace hr := hr.ro
  replace hx := hx.ro
  replace hfm := hfm.ro
  replace hra := hra.ro
  have hok1 := hok cs[i] (by simp)
  have hmn := hok1.lo
  have hle := hok1.le
  have hmx9 := hok1.hi
  have la : rows.length = cs.length := hr.1
  obtain ⟨F, hF⟩ : ∃ F : Nat → Bool, F = fun n => brow.getD (p + n) false := ⟨_, rfl⟩
  obtain ⟨top, htop⟩ : ∃ top : Nat, top = min cs[i].mx.toNat (xs.length - p) + 1 := ⟨_, rfl⟩
  rw [← hF, ← htop]
  refine fun_walk (fn := Tryz.f152) Tryz.func152 rfl rfl ?_
  repeat (first | refine w_seq ?_ | refine w_region env ?_ | refine wo_nil ?_ | refine wo_max rfl rfl rfl rfl ?_ | refine wo_min rfl rfl rfl rfl ?_ | refine wo_pure rfl rfl (fun _ => rfl) rfl rfl ?_ | refine wo_not rfl rfl ?_ | refine wo_load rfl (rd_ver (by assumption) rfl _ 1 (Nat.le_of_ble_eq_true rfl)) rfl rfl rfl rfl rfl ?_)
  refine w_block ?_
  refine w_loop (fun j m' B => Gr (roH A) B ∧ ∃ n : Nat, j + n = top ∧ (n = 0 ∨ ((xs.drop p).take (n - 1)).all (allowsS cs[i]) = true) ∧
    m' = [(9, .int .i64 n), (8, .int .i64 (mostI cs[i] (xs.drop p) F n)), (0, .int .i64 i), (1, .int .i64 p), (2, .pointer (some ⟨ic, 0, some 0⟩)), (3, .pointer (some ⟨ix, 0, some 0⟩)), (4, .pointer (some ⟨im, 0, some 0⟩))]) top
    (Sub.cons rfl (Sub.cons rfl (Sub.cons rfl (Sub.cons rfl (Sub.cons rfl (Sub.cons rfl (Sub.cons rfl Sub.nil))))))) ⟨.refl _, 0, by omega, .inl rfl, rfl⟩ ?_
  rintro j m' B ⟨hg, n, hjn, hpre, rfl⟩
  obtain ⟨row, hrw, sa, sc, rfl, hsg, _⟩ := (hr.pre hg.pre).2 i hi
  repeat (first | refine w_seq ?_ | refine w_region env ?_ | refine wo_nil ?_ | refine wo_max rfl rfl rfl rfl ?_ | refine wo_min rfl rfl rfl rfl ?_ | refine wo_pure rfl rfl (fun _ => rfl) rfl rfl ?_ | refine wo_not rfl rfl ?_ | refine wo_load rfl (rd_ver (by assumption) rfl _ 1 (Nat.le_of_ble_eq_true rfl)) rfl rfl rfl rfl rfl ?_)
  refine wo_load rfl (hc.pre hg.pre).rd rfl rfl rfl rfl rfl ?_
  repeat (first | refine w_seq ?_ | refine w_region env ?_ | refine wo_nil ?_ | refine wo_max rfl rfl rfl rfl ?_ | refine wo_min rfl rfl rfl rfl ?_ | refine wo_pure rfl rfl (fun _ => rfl) rfl rfl ?_ | refine wo_not rfl rfl ?_ | refine wo_load rfl (rd_ver (by assumption) rfl _ 1 (Nat.le_of_ble_eq_true rfl)) rfl rfl rfl rfl rfl ?_)
  refine wo_at _ rfl (ha.pre hg.pre) rfl rfl rfl rfl rfl rfl (by omega) (by simpa using hrw) (fun p1 hp1 => ?_)
  refine wo_field rfl hp1 rfl rfl rfl rfl rfl rfl (fun p2 hp2 => ?_)
  refine wo_load rfl hp2 rfl rfl rfl rfl rfl ?_
  repeat (first | refine w_seq ?_ | refine w_region env ?_ | refine wo_nil ?_ | refine wo_max rfl rfl rfl rfl ?_ | refine wo_min rfl rfl rfl rfl ?_ | refine wo_pure rfl rfl (fun _ => rfl) rfl rfl ?_ | refine wo_not rfl rfl ?_ | refine wo_load rfl (rd_ver (by assumption) rfl _ 1 (Nat.le_of_ble_eq_true rfl)) rfl rfl rfl rfl rfl ?_)
  cases h16 : decide ((n : Int) ≤ cs[i].mx) with
  | false =>
    have hnt : n = top := by
      have : ¬ (n : Int) ≤ cs[i].mx := by simpa using h16
      omega
    repeat (first | refine w_seq ?_ | refine w_region env ?_ | refine wo_nil ?_ | refine wo_max rfl rfl rfl rfl ?_ | refine wo_min rfl rfl rfl rfl ?_ | refine wo_pure rfl rfl (fun _ => rfl) rfl rfl ?_ | refine wo_not rfl rfl ?_ | refine wo_load rfl (rd_ver (by assumption) rfl _ 1 (Nat.le_of_ble_eq_true rfl)) rfl rfl rfl rfl rfl ?_)
    refine w_cond _ rfl (fun h => by cases h) (fun _ => ?_)
    refine w_exit ?_
    repeat (first | refine w_seq ?_ | refine w_region env ?_ | refine wo_nil ?_ | refine wo_max rfl rfl rfl rfl ?_ | refine wo_min rfl rfl rfl rfl ?_ | refine wo_pure rfl rfl (fun _ => rfl) rfl rfl ?_ | refine wo_not rfl rfl ?_ | refine wo_load rfl (rd_ver (by assumption) rfl _ 1 (Nat.le_of_ble_eq_true rfl)) rfl rfl rfl rfl rfl ?_)
    exact w_ret ⟨.inr rfl, hg, _, rfl, by rw [hnt]; rfl⟩
  | true =>
    have hnm : (n : Int) ≤ cs[i].mx := by simpa using h16
    repeat (first | refine w_seq ?_ | refine w_region env ?_ | refine wo_nil ?_ | refine wo_max rfl rfl rfl rfl ?_ | refine wo_min rfl rfl rfl rfl ?_ | refine wo_pure rfl rfl (fun _ => rfl) rfl rfl ?_ | refine wo_not rfl rfl ?_ | refine wo_load rfl (rd_ver (by assumption) rfl _ 1 (Nat.le_of_ble_eq_true rfl)) rfl rfl rfl rfl rfl ?_)
    refine wo_load rfl (hv.pre hg.pre).rd rfl rfl rfl rfl rfl ?_
    repeat (first | refine w_seq ?_ | refine w_region env ?_ | refine wo_nil ?_ | refine wo_max rfl rfl rfl rfl ?_ | refine wo_min rfl rfl rfl rfl ?_ | refine wo_pure rfl rfl (fun _ => rfl) rfl rfl ?_ | refine wo_not rfl rfl ?_ | refine wo_load rfl (rd_ver (by assumption) rfl _ 1 (Nat.le_of_ble_eq_true rfl)) rfl rfl rfl rfl rfl ?_)
    rw [i64_small (by omega) (by omega)]
    refine w_cond _ rfl (fun h23 => ?_) (fun h23 => ?_)
    · have hnp : p + n ≤ xs.length := by
        have : (p : Int) + n ≤ xs.length := by simpa using h23
        omega
      refine w_skip ?_
      refine w_seq (w_block ?_)
      refine w_seq (w_seq (w_draw env 14 (by kernel_rfl) ?_))
      repeat (first | refine w_seq ?_ | refine w_region env ?_ | refine wo_nil ?_ | refine wo_max rfl rfl rfl rfl ?_ | refine wo_min rfl rfl rfl rfl ?_ | refine wo_pure rfl rfl (fun _ => rfl) rfl rfl ?_ | refine wo_not rfl rfl ?_ | refine wo_load rfl (rd_ver (by assumption) rfl _ 1 (Nat.le_of_ble_eq_true rfl)) rfl rfl rfl rfl rfl ?_)
      cases hn0 : decide ((n : Int) > 0) with
      | false =>
        have hn0' : n = 0 := by
          have : ¬ (n : Int) > 0 := by simpa using hn0
          omega
        have hall : ((xs.drop p).take n).all (allowsS cs[i]) = true := by subst hn0'; simp
        repeat (first | refine w_seq ?_ | refine w_region env ?_ | refine wo_nil ?_ | refine wo_max rfl rfl rfl rfl ?_ | refine wo_min rfl rfl rfl rfl ?_ | refine wo_pure rfl rfl (fun _ => rfl) rfl rfl ?_ | refine wo_not rfl rfl ?_ | refine wo_load rfl (rd_ver (by assumption) rfl _ 1 (Nat.le_of_ble_eq_true rfl)) rfl rfl rfl rfl rfl ?_)
        refine w_cond _ rfl (fun h => by cases h) (fun _ => ?_)
        refine w_skip ?_
        repeat (first | refine w_seq ?_ | refine w_region env ?_ | refine wo_nil ?_ | refine wo_max rfl rfl rfl rfl ?_ | refine wo_min rfl rfl rfl rfl ?_ | refine wo_pure rfl rfl (fun _ => rfl) rfl rfl ?_ | refine wo_not rfl rfl ?_ | refine wo_load rfl (rd_ver (by assumption) rfl _ 1 (Nat.le_of_ble_eq_true rfl)) rfl rfl rfl rfl rfl ?_)
        refine wo_load rfl (hc.pre hg.pre).rd rfl rfl rfl rfl rfl ?_
        repeat (first | refine w_seq ?_ | refine w_region env ?_ | refine wo_nil ?_ | refine wo_max rfl rfl rfl rfl ?_ | refine wo_min rfl rfl rfl rfl ?_ | refine wo_pure rfl rfl (fun _ => rfl) rfl rfl ?_ | refine wo_not rfl rfl ?_ | refine wo_load rfl (rd_ver (by assumption) rfl _ 1 (Nat.le_of_ble_eq_true rfl)) rfl rfl rfl rfl rfl ?_)
        refine wo_at _ rfl (ha.pre hg.pre) rfl rfl rfl rfl rfl rfl (by omega) (by simpa using hrw) (fun p1 hp1 => ?_)
        refine wo_field rfl hp1 rfl rfl rfl rfl rfl rfl (fun p2 hp2 => ?_)
        refine wo_load rfl hp2 rfl rfl rfl rfl rfl ?_
        repeat (first | refine w_seq ?_ | refine w_region env ?_ | refine wo_nil ?_ | refine wo_max rfl rfl rfl rfl ?_ | refine wo_min rfl rfl rfl rfl ?_ | refine wo_pure rfl rfl (fun _ => rfl) rfl rfl ?_ | refine wo_not rfl rfl ?_ | refine wo_load rfl (rd_ver (by assumption) rfl _ 1 (Nat.le_of_ble_eq_true rfl)) rfl rfl rfl rfl rfl ?_)
        cases h50 : decide ((n : Int) ≥ cs[i].mn) with
        | false =>
          have e1 : mostI cs[i] (xs.drop p) F n = mostI cs[i] (xs.drop p) F (n + 1) := by
            rw [mostI_succ]
            have : ¬ cs[i].mn ≤ (n : Int) := by simpa using h50
            simp [this]
          repeat (first | refine w_seq ?_ | refine w_region env ?_ | refine wo_nil ?_ | refine wo_max rfl rfl rfl rfl ?_ | refine wo_min rfl rfl rfl rfl ?_ | refine wo_pure rfl rfl (fun _ => rfl) rfl rfl ?_ | refine wo_not rfl rfl ?_ | refine wo_load rfl (rd_ver (by assumption) rfl _ 1 (Nat.le_of_ble_eq_true rfl)) rfl rfl rfl rfl rfl ?_)
          refine w_cond _ rfl (fun h => by cases h) (fun _ => ?_)
          refine w_skip ?_
          repeat (first | refine w_seq ?_ | refine w_region env ?_ | refine wo_nil ?_ | refine wo_max rfl rfl rfl rfl ?_ | refine wo_min rfl rfl rfl rfl ?_ | refine wo_pure rfl rfl (fun _ => rfl) rfl rfl ?_ | refine wo_not rfl rfl ?_ | refine wo_load rfl (rd_ver (by assumption) rfl _ 1 (Nat.le_of_ble_eq_true rfl)) rfl rfl rfl rfl rfl ?_)
          exact ⟨j - 1, [(9, .int .i64 ((n + 1 : Nat) : Int)), (8, .int .i64 (mostI cs[i] (xs.drop p) F (n + 1))), (0, .int .i64 i), (1, .int .i64 p), (2, .pointer (some ⟨ic, 0, some 0⟩)), (3, .pointer (some ⟨ix, 0, some 0⟩)), (4, .pointer (some ⟨im, 0, some 0⟩))], by omega, Sub.cons (some_int (i64_nat (by omega))) (Sub.cons (some_int e1) (Sub.cons rfl (Sub.cons rfl (Sub.cons rfl (Sub.cons rfl (Sub.cons rfl Sub.nil)))))), hg, n + 1, by omega, .inr (by simpa using hall), rfl⟩
        | true =>
          have h50' : cs[i].mn ≤ (n : Int) := by simpa using h50
          repeat (first | refine w_seq ?_ | refine w_region env ?_ | refine wo_nil ?_ | refine wo_max rfl rfl rfl rfl ?_ | refine wo_min rfl rfl rfl rfl ?_ | refine wo_pure rfl rfl (fun _ => rfl) rfl rfl ?_ | refine wo_not rfl rfl ?_ | refine wo_load rfl (rd_ver (by assumption) rfl _ 1 (Nat.le_of_ble_eq_true rfl)) rfl rfl rfl rfl rfl ?_)
          refine wo_load rfl (hm.pre hg.pre).rd rfl rfl rfl rfl rfl ?_
          repeat (first | refine w_seq ?_ | refine w_region env ?_ | refine wo_nil ?_ | refine wo_max rfl rfl rfl rfl ?_ | refine wo_min rfl rfl rfl rfl ?_ | refine wo_pure rfl rfl (fun _ => rfl) rfl rfl ?_ | refine wo_not rfl rfl ?_ | refine wo_load rfl (rd_ver (by assumption) rfl _ 1 (Nat.le_of_ble_eq_true rfl)) rfl rfl rfl rfl rfl ?_)
          rw [i64_nat (by omega)]
          refine wo_at _ rfl (hfm.pre hg.pre) rfl rfl rfl rfl rfl hlm (by omega) (by simpa using hrow) (fun p3 hp3 => ?_)
          refine wo_load rfl hp3 rfl rfl rfl rfl rfl ?_
          repeat (first | refine w_seq ?_ | refine w_region env ?_ | refine wo_nil ?_ | refine wo_max rfl rfl rfl rfl ?_ | refine wo_min rfl rfl rfl rfl ?_ | refine wo_pure rfl rfl (fun _ => rfl) rfl rfl ?_ | refine wo_not rfl rfl ?_ | refine wo_load rfl (rd_ver (by assumption) rfl _ 1 (Nat.le_of_ble_eq_true rfl)) rfl rfl rfl rfl rfl ?_)
          have epn : dwrap .i64 ((p : Int) + n) = ((p + n : Nat) : Int) := by rw [i64_small (by omega) (by omega)]; omega
          rw [epn]
          refine wo_at _ rfl (hra.pre hg.pre) rfl rfl rfl rfl rfl (by rw [bools_len]; omega) (by omega) (bools_get (i := p + n) (by omega)) (fun p4 hp4 => ?_)
          refine wo_load rfl hp4 rfl rfl rfl rfl rfl ?_
          repeat (first | refine w_seq ?_ | refine w_region env ?_ | refine wo_nil ?_ | refine wo_max rfl rfl rfl rfl ?_ | refine wo_min rfl rfl rfl rfl ?_ | refine wo_pure rfl rfl (fun _ => rfl) rfl rfl ?_ | refine wo_not rfl rfl ?_ | refine wo_load rfl (rd_ver (by assumption) rfl _ 1 (Nat.le_of_ble_eq_true rfl)) rfl rfl rfl rfl rfl ?_)
          have hFn : F n = brow[p + n] := by rw [hF]; simp [List.getD_eq_getElem?_getD, show p + n < brow.length by omega]
          refine w_cond _ rfl (fun hb => ?_) (fun hb => ?_)
          · have hb' : brow[p + n] = true := by simpa using hb
            have e1 : (n : Int) = mostI cs[i] (xs.drop p) F (n + 1) := by
              rw [mostI_succ]
              simp [h50', hall, hFn, hb']
            repeat (first | refine w_seq ?_ | refine w_region env ?_ | refine wo_nil ?_ | refine wo_max rfl rfl rfl rfl ?_ | refine wo_min rfl rfl rfl rfl ?_ | refine wo_pure rfl rfl (fun _ => rfl) rfl rfl ?_ | refine wo_not rfl rfl ?_ | refine wo_load rfl (rd_ver (by assumption) rfl _ 1 (Nat.le_of_ble_eq_true rfl)) rfl rfl rfl rfl rfl ?_)
            exact ⟨j - 1, [(9, .int .i64 ((n + 1 : Nat) : Int)), (8, .int .i64 (mostI cs[i] (xs.drop p) F (n + 1))), (0, .int .i64 i), (1, .int .i64 p), (2, .pointer (some ⟨ic, 0, some 0⟩)), (3, .pointer (some ⟨ix, 0, some 0⟩)), (4, .pointer (some ⟨im, 0, some 0⟩))], by omega, Sub.cons (some_int (i64_nat (by omega))) (Sub.cons (some_int e1) (Sub.cons rfl (Sub.cons rfl (Sub.cons rfl (Sub.cons rfl (Sub.cons rfl Sub.nil)))))), hg, n + 1, by omega, .inr (by simpa using hall), rfl⟩
          · have hb' : brow[p + n] = false := by simpa using hb
            have e1 : mostI cs[i] (xs.drop p) F n = mostI cs[i] (xs.drop p) F (n + 1) := by
              rw [mostI_succ]
              simp [hFn, hb']
            refine w_skip ?_
            repeat (first | refine w_seq ?_ | refine w_region env ?_ | refine wo_nil ?_ | refine wo_max rfl rfl rfl rfl ?_ | refine wo_min rfl rfl rfl rfl ?_ | refine wo_pure rfl rfl (fun _ => rfl) rfl rfl ?_ | refine wo_not rfl rfl ?_ | refine wo_load rfl (rd_ver (by assumption) rfl _ 1 (Nat.le_of_ble_eq_true rfl)) rfl rfl rfl rfl rfl ?_)
            exact ⟨j - 1, [(9, .int .i64 ((n + 1 : Nat) : Int)), (8, .int .i64 (mostI cs[i] (xs.drop p) F (n + 1))), (0, .int .i64 i), (1, .int .i64 p), (2, .pointer (some ⟨ic, 0, some 0⟩)), (3, .pointer (some ⟨ix, 0, some 0⟩)), (4, .pointer (some ⟨im, 0, some 0⟩))], by omega, Sub.cons (some_int (i64_nat (by omega))) (Sub.cons (some_int e1) (Sub.cons rfl (Sub.cons rfl (Sub.cons rfl (Sub.cons rfl (Sub.cons rfl Sub.nil)))))), hg, n + 1, by omega, .inr (by simpa using hall), rfl⟩
      | true =>
        have hn1 : 0 < n := by
          have : (n : Int) > 0 := by simpa using hn0
          omega
        repeat (first | refine w_seq ?_ | refine w_region env ?_ | refine wo_nil ?_ | refine wo_max rfl rfl rfl rfl ?_ | refine wo_min rfl rfl rfl rfl ?_ | refine wo_pure rfl rfl (fun _ => rfl) rfl rfl ?_ | refine wo_not rfl rfl ?_ | refine wo_load rfl (rd_ver (by assumption) rfl _ 1 (Nat.le_of_ble_eq_true rfl)) rfl rfl rfl rfl rfl ?_)
        refine wo_load rfl (hc.pre hg.pre).rd rfl rfl rfl rfl rfl ?_
        repeat (first | refine w_seq ?_ | refine w_region env ?_ | refine wo_nil ?_ | refine wo_max rfl rfl rfl rfl ?_ | refine wo_min rfl rfl rfl rfl ?_ | refine wo_pure rfl rfl (fun _ => rfl) rfl rfl ?_ | refine wo_not rfl rfl ?_ | refine wo_load rfl (rd_ver (by assumption) rfl _ 1 (Nat.le_of_ble_eq_true rfl)) rfl rfl rfl rfl rfl ?_)
        refine wo_at _ rfl (ha.pre hg.pre) rfl rfl rfl rfl rfl rfl (by omega) (by simpa using hrw) (fun p1 hp1 => ?_)
        refine wo_loads rfl hp1 rfl rfl rfl rfl rfl rfl ?_
        refine wo_load rfl (hv.pre hg.pre).rd rfl rfl rfl rfl rfl ?_
        repeat (first | refine w_seq ?_ | refine w_region env ?_ | refine wo_nil ?_ | refine wo_max rfl rfl rfl rfl ?_ | refine wo_min rfl rfl rfl rfl ?_ | refine wo_pure rfl rfl (fun _ => rfl) rfl rfl ?_ | refine wo_not rfl rfl ?_ | refine wo_load rfl (rd_ver (by assumption) rfl _ 1 (Nat.le_of_ble_eq_true rfl)) rfl rfl rfl rfl rfl ?_)
        have epn : dwrap .i64 (dwrap .i64 ((p : Int) + n) - 1) = ((p + n - 1 : Nat) : Int) := by rw [i64_small (z := (p : Int) + n) (by omega) (by omega), i64_small (by omega) (by omega)]; omega
        rw [epn]
        refine wo_at _ rfl (hx.pre hg.pre) rfl rfl rfl rfl rfl (ints_len _).symm (by omega) (ints_get (i := p + n - 1) (by omega)) (fun p5 hp5 => ?_)
        refine wo_load rfl hp5 rfl rfl rfl rfl rfl ?_
        refine wo_call1 (allows_fun ⟨sa, sc, rfl, hsg, by assumption⟩ (by have := hok1.len; omega)) rfl rfl rfl ?_
        rintro v r hr2 rfl
        have hg2 := hg.app hr2
        generalize B ++ r = B2 at *
        have htk : ((xs.drop p).take n).all (allowsS cs[i]) = allowsS cs[i] (xs[p + n - 1]'(by omega)) := by
          rcases hpre with hpre | hpre
          · omega
          · obtain ⟨n1, rfl⟩ : ∃ n1, n = n1 + 1 := ⟨n - 1, by omega⟩
            simp only [Nat.add_sub_cancel] at hpre
            rw [List.take_add_one, List.all_append, hpre]
            have : (xs.drop p)[n1]? = some (xs[p + (n1 + 1) - 1]'(by omega)) := by
              rw [List.getElem?_drop]
              rw [List.getElem?_eq_getElem (by omega)]
              congr 1
            rw [this]
            simp
        repeat (first | refine w_seq ?_ | refine w_region env ?_ | refine wo_nil ?_ | refine wo_max rfl rfl rfl rfl ?_ | refine wo_min rfl rfl rfl rfl ?_ | refine wo_pure rfl rfl (fun _ => rfl) rfl rfl ?_ | refine wo_not rfl rfl ?_ | refine wo_load rfl (rd_ver (by assumption) rfl _ 1 (Nat.le_of_ble_eq_true rfl)) rfl rfl rfl rfl rfl ?_)
        refine w_cond _ rfl (fun hno => ?_) (fun hyes => ?_)
        · refine w_exit ?_
          repeat (first | refine w_seq ?_ | refine w_region env ?_ | refine wo_nil ?_ | refine wo_max rfl rfl rfl rfl ?_ | refine wo_min rfl rfl rfl rfl ?_ | refine wo_pure rfl rfl (fun _ => rfl) rfl rfl ?_ | refine wo_not rfl rfl ?_ | refine wo_load rfl (rd_ver (by assumption) rfl _ 1 (Nat.le_of_ble_eq_true rfl)) rfl rfl rfl rfl rfl ?_)
          have hall : ((xs.drop p).take n).all (allowsS cs[i]) = false := by rw [htk]; simpa using hno
          refine w_ret ⟨.inr rfl, hg2, _, rfl, ?_⟩
          simp only [oneOf, mostI, bestsB_stop hall top (by omega)]
        · have hall : ((xs.drop p).take n).all (allowsS cs[i]) = true := by rw [htk]; simpa using hyes
          refine w_skip ?_
          repeat (first | refine w_seq ?_ | refine w_region env ?_ | refine wo_nil ?_ | refine wo_max rfl rfl rfl rfl ?_ | refine wo_min rfl rfl rfl rfl ?_ | refine wo_pure rfl rfl (fun _ => rfl) rfl rfl ?_ | refine wo_not rfl rfl ?_ | refine wo_load rfl (rd_ver (by assumption) rfl _ 1 (Nat.le_of_ble_eq_true rfl)) rfl rfl rfl rfl rfl ?_)
          refine wo_load rfl (hc.pre hg2.pre).rd rfl rfl rfl rfl rfl ?_
          repeat (first | refine w_seq ?_ | refine w_region env ?_ | refine wo_nil ?_ | refine wo_max rfl rfl rfl rfl ?_ | refine wo_min rfl rfl rfl rfl ?_ | refine wo_pure rfl rfl (fun _ => rfl) rfl rfl ?_ | refine wo_not rfl rfl ?_ | refine wo_load rfl (rd_ver (by assumption) rfl _ 1 (Nat.le_of_ble_eq_true rfl)) rfl rfl rfl rfl rfl ?_)
          refine wo_at _ rfl (ha.pre hg2.pre) rfl rfl rfl rfl rfl rfl (by omega) (by simpa using hrw) (fun p1 hp1 => ?_)
          refine wo_field rfl hp1 rfl rfl rfl rfl rfl rfl (fun p2 hp2 => ?_)
          refine wo_load rfl hp2 rfl rfl rfl rfl rfl ?_
          repeat (first | refine w_seq ?_ | refine w_region env ?_ | refine wo_nil ?_ | refine wo_max rfl rfl rfl rfl ?_ | refine wo_min rfl rfl rfl rfl ?_ | refine wo_pure rfl rfl (fun _ => rfl) rfl rfl ?_ | refine wo_not rfl rfl ?_ | refine wo_load rfl (rd_ver (by assumption) rfl _ 1 (Nat.le_of_ble_eq_true rfl)) rfl rfl rfl rfl rfl ?_)
          cases h50 : decide ((n : Int) ≥ cs[i].mn) with
          | false =>
            have e1 : mostI cs[i] (xs.drop p) F n = mostI cs[i] (xs.drop p) F (n + 1) := by
              rw [mostI_succ]
              have : ¬ cs[i].mn ≤ (n : Int) := by simpa using h50
              simp [this]
            repeat (first | refine w_seq ?_ | refine w_region env ?_ | refine wo_nil ?_ | refine wo_max rfl rfl rfl rfl ?_ | refine wo_min rfl rfl rfl rfl ?_ | refine wo_pure rfl rfl (fun _ => rfl) rfl rfl ?_ | refine wo_not rfl rfl ?_ | refine wo_load rfl (rd_ver (by assumption) rfl _ 1 (Nat.le_of_ble_eq_true rfl)) rfl rfl rfl rfl rfl ?_)
            refine w_cond _ rfl (fun h => by cases h) (fun _ => ?_)
            refine w_skip ?_
            repeat (first | refine w_seq ?_ | refine w_region env ?_ | refine wo_nil ?_ | refine wo_max rfl rfl rfl rfl ?_ | refine wo_min rfl rfl rfl rfl ?_ | refine wo_pure rfl rfl (fun _ => rfl) rfl rfl ?_ | refine wo_not rfl rfl ?_ | refine wo_load rfl (rd_ver (by assumption) rfl _ 1 (Nat.le_of_ble_eq_true rfl)) rfl rfl rfl rfl rfl ?_)
            exact ⟨j - 1, [(9, .int .i64 ((n + 1 : Nat) : Int)), (8, .int .i64 (mostI cs[i] (xs.drop p) F (n + 1))), (0, .int .i64 i), (1, .int .i64 p), (2, .pointer (some ⟨ic, 0, some 0⟩)), (3, .pointer (some ⟨ix, 0, some 0⟩)), (4, .pointer (some ⟨im, 0, some 0⟩))], by omega, Sub.cons (some_int (i64_nat (by omega))) (Sub.cons (some_int e1) (Sub.cons rfl (Sub.cons rfl (Sub.cons rfl (Sub.cons rfl (Sub.cons rfl Sub.nil)))))), hg2, n + 1, by omega, .inr (by simpa using hall), rfl⟩
          | true =>
            have h50' : cs[i].mn ≤ (n : Int) := by simpa using h50
            repeat (first | refine w_seq ?_ | refine w_region env ?_ | refine wo_nil ?_ | refine wo_max rfl rfl rfl rfl ?_ | refine wo_min rfl rfl rfl rfl ?_ | refine wo_pure rfl rfl (fun _ => rfl) rfl rfl ?_ | refine wo_not rfl rfl ?_ | refine wo_load rfl (rd_ver (by assumption) rfl _ 1 (Nat.le_of_ble_eq_true rfl)) rfl rfl rfl rfl rfl ?_)
            refine wo_load rfl (hm.pre hg2.pre).rd rfl rfl rfl rfl rfl ?_
            repeat (first | refine w_seq ?_ | refine w_region env ?_ | refine wo_nil ?_ | refine wo_max rfl rfl rfl rfl ?_ | refine wo_min rfl rfl rfl rfl ?_ | refine wo_pure rfl rfl (fun _ => rfl) rfl rfl ?_ | refine wo_not rfl rfl ?_ | refine wo_load rfl (rd_ver (by assumption) rfl _ 1 (Nat.le_of_ble_eq_true rfl)) rfl rfl rfl rfl rfl ?_)
            rw [i64_nat (by omega)]
            refine wo_at _ rfl (hfm.pre hg2.pre) rfl rfl rfl rfl rfl hlm (by omega) (by simpa using hrow) (fun p3 hp3 => ?_)
            refine wo_load rfl hp3 rfl rfl rfl rfl rfl ?_
            repeat (first | refine w_seq ?_ | refine w_region env ?_ | refine wo_nil ?_ | refine wo_max rfl rfl rfl rfl ?_ | refine wo_min rfl rfl rfl rfl ?_ | refine wo_pure rfl rfl (fun _ => rfl) rfl rfl ?_ | refine wo_not rfl rfl ?_ | refine wo_load rfl (rd_ver (by assumption) rfl _ 1 (Nat.le_of_ble_eq_true rfl)) rfl rfl rfl rfl rfl ?_)
            have epn : dwrap .i64 ((p : Int) + n) = ((p + n : Nat) : Int) := by rw [i64_small (by omega) (by omega)]; omega
            rw [epn]
            refine wo_at _ rfl (hra.pre hg2.pre) rfl rfl rfl rfl rfl (by rw [bools_len]; omega) (by omega) (bools_get (i := p + n) (by omega)) (fun p4 hp4 => ?_)
            refine wo_load rfl hp4 rfl rfl rfl rfl rfl ?_
            repeat (first | refine w_seq ?_ | refine w_region env ?_ | refine wo_nil ?_ | refine wo_max rfl rfl rfl rfl ?_ | refine wo_min rfl rfl rfl rfl ?_ | refine wo_pure rfl rfl (fun _ => rfl) rfl rfl ?_ | refine wo_not rfl rfl ?_ | refine wo_load rfl (rd_ver (by assumption) rfl _ 1 (Nat.le_of_ble_eq_true rfl)) rfl rfl rfl rfl rfl ?_)
            have hFn : F n = brow[p + n] := by rw [hF]; simp [List.getD_eq_getElem?_getD, show p + n < brow.length by omega]
            refine w_cond _ rfl (fun hb => ?_) (fun hb => ?_)
            · have hb' : brow[p + n] = true := by simpa using hb
              have e1 : (n : Int) = mostI cs[i] (xs.drop p) F (n + 1) := by
                rw [mostI_succ]
                simp [h50', hall, hFn, hb']
              repeat (first | refine w_seq ?_ | refine w_region env ?_ | refine wo_nil ?_ | refine wo_max rfl rfl rfl rfl ?_ | refine wo_min rfl rfl rfl rfl ?_ | refine wo_pure rfl rfl (fun _ => rfl) rfl rfl ?_ | refine wo_not rfl rfl ?_ | refine wo_load rfl (rd_ver (by assumption) rfl _ 1 (Nat.le_of_ble_eq_true rfl)) rfl rfl rfl rfl rfl ?_)
              exact ⟨j - 1, [(9, .int .i64 ((n + 1 : Nat) : Int)), (8, .int .i64 (mostI cs[i] (xs.drop p) F (n + 1))), (0, .int .i64 i), (1, .int .i64 p), (2, .pointer (some ⟨ic, 0, some 0⟩)), (3, .pointer (some ⟨ix, 0, some 0⟩)), (4, .pointer (some ⟨im, 0, some 0⟩))], by omega, Sub.cons (some_int (i64_nat (by omega))) (Sub.cons (some_int e1) (Sub.cons rfl (Sub.cons rfl (Sub.cons rfl (Sub.cons rfl (Sub.cons rfl Sub.nil)))))), hg2, n + 1, by omega, .inr (by simpa using hall), rfl⟩
            · have hb' : brow[p + n] = false := by simpa using hb
              have e1 : mostI cs[i] (xs.drop p) F n = mostI cs[i] (xs.drop p) F (n + 1) := by
                rw [mostI_succ]
                simp [hFn, hb']
              refine w_skip ?_
              repeat (first | refine w_seq ?_ | refine w_region env ?_ | refine wo_nil ?_ | refine wo_max rfl rfl rfl rfl ?_ | refine wo_min rfl rfl rfl rfl ?_ | refine wo_pure rfl rfl (fun _ => rfl) rfl rfl ?_ | refine wo_not rfl rfl ?_ | refine wo_load rfl (rd_ver (by assumption) rfl _ 1 (Nat.le_of_ble_eq_true rfl)) rfl rfl rfl rfl rfl ?_)
              exact ⟨j - 1, [(9, .int .i64 ((n + 1 : Nat) : Int)), (8, .int .i64 (mostI cs[i] (xs.drop p) F (n + 1))), (0, .int .i64 i), (1, .int .i64 p), (2, .pointer (some ⟨ic, 0, some 0⟩)), (3, .pointer (some ⟨ix, 0, some 0⟩)), (4, .pointer (some ⟨im, 0, some 0⟩))], by omega, Sub.cons (some_int (i64_nat (by omega))) (Sub.cons (some_int e1) (Sub.cons rfl (Sub.cons rfl (Sub.cons rfl (Sub.cons rfl (Sub.cons rfl Sub.nil)))))), hg2, n + 1, by omega, .inr (by simpa using hall), rfl⟩
    · have hnt : n = top := by
        have : ¬ ((p : Int) + n ≤ xs.length) := by simpa using h23
        omega
      refine w_exit ?_
      repeat (first | refine w_seq ?_ | refine w_region env ?_ | refine wo_nil ?_ | refine wo_max rfl rfl rfl rfl ?_ | refine wo_min rfl rfl rfl rfl ?_ | refine wo_pure rfl rfl (fun _ => rfl) rfl rfl ?_ | refine wo_not rfl rfl ?_ | refine wo_load rfl (rd_ver (by assumption) rfl _ 1 (Nat.le_of_ble_eq_true rfl)) rfl rfl rfl rfl rfl ?_)
      exact w_ret ⟨.inr rfl, hg, _, rfl, by rw [hnt]; rfl⟩
end Go.Proofs.YtdjcbpicdnhciaaGreat
