/- The law's way to divide a line among cells (stood8). -/
import Derived.Test.YtdjcbpicdnhciaaGreatMh
set_option linter.unusedVariables false
set_option linter.unusedSimpArgs false
open Go Go.Dx Go.Proofs
namespace Go.Proofs.YtdjcbpicdnhciaaGreat
set_option maxRecDepth 20000

/-- The longest stretch below j. -/
def bestsB (c : CellS) (xs : List Int) (f : Nat → Bool) : Nat → Option Nat
  | 0 => none
  | n + 1 => if decide (c.mn ≤ n) && (xs.take n).all (allowsS c) && f n then some n else bestsB c xs f n

/-- A line divided among cells, the first stretch as long as possible. -/
def stoodS : List CellS → List Int → Option (List Int)
  | [], xs => if xs = [] then some [] else none
  | c :: cs, xs => match bestsB c xs (fun n => (stoodS cs (xs.drop n)).isSome) (min c.mx.toNat xs.length + 1) with
    | some n => (stoodS cs (xs.drop n)).map fun r => List.replicate n 0 ++ r.map (· + 1)
    | none => none

theorem bestsB_low {c : CellS} {xs : List Int} {f : Nat → Bool} : ∀ {j : Nat}, (j : Int) - 1 < c.mn → bestsB c xs f j = none
  | 0, _ => rfl
  | j + 1, h => by
    simp only [bestsB]
    rw [if_neg (by simp; intro h1; omega)]
    exact bestsB_low (by omega)

/-- A slice that lies well: its block is there, and its elements are of this size. -/
def Wel (A : Hp) (a : Option Addr) (sz : Nat) : Prop := ∀ p, a = some p → ∃ i off ver b, p = ⟨i, off, some ver⟩ ∧ A[i]? = some (.cells b) ∧ b.ver = ver ∧ b.es = sz

theorem Wel.pre {A B : Hp} (h : Pre A B) {a : Option Addr} {sz : Nat} (hw : Wel A a sz) : Wel B a sz := by
  intro p hp
  obtain ⟨i, off, ver, b, h1, h2, h3⟩ := hw p hp
  exact ⟨i, off, ver, b, h1, h.at h2, h3⟩

theorem Wel.ro {A : Hp} {a : Option Addr} {sz : Nat} (hw : Wel A a sz) : Wel (roH A) a sz := by
  intro p hp
  obtain ⟨i, off, ver, b, h1, h2, h3, h4⟩ := hw p hp
  exact ⟨i, off, ver, { b with ro := true }, h1, by rw [roH_at, h2]; rfl, h3, h4⟩

theorem CellsR.tail {A : Hp} {row : List Value} {rows : List (List Value)} {c : CellS} {cs : List CellS} (h : CellsR A (row :: rows) (c :: cs)) : CellsR A rows cs := by
  refine ⟨by simpa using h.1, fun i hi => ?_⟩
  obtain ⟨r, h1, h2⟩ := h.2 (i + 1) (by simp; omega)
  exact ⟨r, by simpa using h1, by simpa using h2⟩

theorem ints_take (xs : List Int) (n : Nat) : ints (xs.take n) = (ints xs).take n := by simp [ints, List.map_take]
theorem ints_drop (xs : List Int) (n : Nat) : ints (xs.drop n) = (ints xs).drop n := by simp [ints, List.map_drop]

theorem dBound_eq {k : IntKind} {z : Int} {d top l : Nat} (h : z = (l : Int)) (h2 : l ≤ top) : dBound (some (.int k z)) d top = some l := by
  subst h
  simp only [dBound]
  rw [if_pos ⟨by omega, by omega⟩]
  simp

/-- F39 -/
theorem stood_fun : ∀ (cs : List CellS) {A : Hp} {a x : Option Addr} {rows : List (List Value)} {ca cx : Nat} {xs : List Int}, Sl A a 3 rows → CellsR A rows cs → rows.length ≤ ca → Wel A a 3 → Sl A x 1 (ints xs) → xs.length ≤ cx → Wel A x 1 →
    xs.length ≤ 60 → cs.length ≤ 6 → (∀ c ∈ cs, CellOK' 3 c) →
    Fun Tryz.prog 39 [.slice a rows.length ca, .slice x xs.length cx] A fun v B => match stoodS cs xs with
      | none => v = .tuple #[.slice none 0 0, .bool false]
      | some r => ∃ a' cap, v = .tuple #[.slice a' r.length cap, .bool true] ∧ Sl B a' 1 (ints r) ∧ r.length = xs.length ∧ ∀ z ∈ r, 0 ≤ z ∧ z < (cs.length : Int)
  | [], A, a, x, rows, ca, cx, xs, ha, hr, _, _, hx, _, _, _, _, _ => by
    have hr0 : rows = [] := List.eq_nil_of_length_eq_zero (by simpa using hr.1)
    subst hr0
    refine fun_walk (fn := Tryz.f39) Tryz.func39 rfl rfl ?_
    repeat (first | refine w_seq ?_ | refine w_region env ?_ | refine wo_nil ?_ | refine wo_max rfl rfl rfl rfl ?_ | refine wo_min rfl rfl rfl rfl ?_ | refine wo_pure rfl rfl (fun _ => rfl) rfl rfl ?_ | refine wo_not rfl rfl ?_ | refine wo_load rfl (rd_ver (by assumption) rfl _ 1 (Nat.le_of_ble_eq_true rfl)) rfl rfl rfl rfl rfl ?_)
    refine w_cond _ rfl (fun _ => ?_) (fun h => by cases h)
    repeat (first | refine w_seq ?_ | refine w_region env ?_ | refine wo_nil ?_ | refine wo_max rfl rfl rfl rfl ?_ | refine wo_min rfl rfl rfl rfl ?_ | refine wo_pure rfl rfl (fun _ => rfl) rfl rfl ?_ | refine wo_not rfl rfl ?_ | refine wo_load rfl (rd_ver (by assumption) rfl _ 1 (Nat.le_of_ble_eq_true rfl)) rfl rfl rfl rfl rfl ?_)
    refine w_ret ⟨.inr rfl, .refl _, _, rfl, ?_⟩
    by_cases h0 : xs = []
    · subst h0
      exact ⟨none, 0, rfl, .inl rfl, by simp⟩
    · simp only [stoodS, h0, if_false]
      have : ((xs.length : Int) == 0) = false := by simpa using h0
      simp only [oneOf, this]
  | c :: cs, A, a, x, rows, ca, cx, xs, ha, hr, hca, hwa, hx, hcx, hwx, hlx, hlc, hok => by
    have la : rows.length = cs.length + 1 := by simpa using hr.1
    obtain ⟨row, rows, rfl⟩ : ∃ r rs, rows = r :: rs := by
      cases rows with
      | nil => simp at la
      | cons r rs => exact ⟨r, rs, rfl⟩
    have hok1 := hok c (by simp)
    have hca' : rows.length + 1 ≤ ca := by simpa using hca
    have la' : rows.length = cs.length := by simpa using la
    replace ha := ha.ro
    replace hr := hr.ro
    replace hx := hx.ro
    replace hwa := hwa.ro
    replace hwx := hwx.ro
    obtain ⟨row', hrow, sa, sc, he, hsg, _⟩ := hr.2 0 (by simp)
    simp at hrow
    subst hrow
    simp only [List.getElem_cons_zero] at he hsg
    subst he
    refine fun_walk (fn := Tryz.f39) Tryz.func39 rfl rfl ?_
    repeat (first | refine w_seq ?_ | refine w_region env ?_ | refine wo_nil ?_ | refine wo_max rfl rfl rfl rfl ?_ | refine wo_min rfl rfl rfl rfl ?_ | refine wo_pure rfl rfl (fun _ => rfl) rfl rfl ?_ | refine wo_not rfl rfl ?_ | refine wo_load rfl (rd_ver (by assumption) rfl _ 1 (Nat.le_of_ble_eq_true rfl)) rfl rfl rfl rfl rfl ?_)
    have e0 : (((([Value.int .i64 c.mn, .int .i64 c.mx, .slice sa c.sg.length sc] :: rows).length : Nat) : Int) == 0) = false := by simp; omega
    rw [e0]
    refine w_cond _ rfl (fun h => by cases h) (fun _ => ?_)
    refine w_skip ?_
    repeat (first | refine w_seq ?_ | refine w_region env ?_ | refine wo_nil ?_ | refine wo_max rfl rfl rfl rfl ?_ | refine wo_min rfl rfl rfl rfl ?_ | refine wo_pure rfl rfl (fun _ => rfl) rfl rfl ?_ | refine wo_not rfl rfl ?_ | refine wo_load rfl (rd_ver (by assumption) rfl _ 1 (Nat.le_of_ble_eq_true rfl)) rfl rfl rfl rfl rfl ?_)
    refine wo_at _ rfl ha rfl rfl rfl rfl rfl rfl (by omega) rfl (fun p hp => ?_)
    refine wo_loads rfl hp rfl rfl rfl rfl rfl rfl ?_
    refine wo_varA rfl (fun _ h => by cases h; rfl) rfl rfl rfl rfl rfl rfl rfl rfl rfl rfl rfl (fun i1 B1 ⟨h1, g1, q1, p1, x1, l1⟩ => ?_)
    have hg1 := (g1 _ (.refl _)).1
    repeat (first | refine w_seq ?_ | refine w_region env ?_ | refine wo_nil ?_ | refine wo_max rfl rfl rfl rfl ?_ | refine wo_min rfl rfl rfl rfl ?_ | refine wo_pure rfl rfl (fun _ => rfl) rfl rfl ?_ | refine wo_not rfl rfl ?_ | refine wo_load rfl (rd_ver (by assumption) rfl _ 1 (Nat.le_of_ble_eq_true rfl)) rfl rfl rfl rfl rfl ?_)
    have hF : ∃ F : Nat → Bool, F = fun n => (stoodS cs (xs.drop n)).isSome := ⟨_, rfl⟩
    obtain ⟨F, hF⟩ := hF
    have hmx : 0 ≤ c.mx := Int.le_trans hok1.lo hok1.le
    have hmx9 := hok1.hi
    have hsl := hok1.len
    refine w_block ?_
    refine w_loop (fun j m' B => Gr (roH A) B ∧ B[i1]? = some (.cells ⟨[.int .i64 c.mn, .int .i64 c.mx, .slice sa c.sg.length sc], false, false, 1, 0⟩) ∧ j ≤ xs.length + 1 ∧ j ≤ 11 ∧
      bestsB c xs F (min c.mx.toNat xs.length + 1) = bestsB c xs F j ∧ ∃ v7 : Int, v7 = (j : Int) - 1 ∧
      m' = [(7, .int .i64 v7), (6, .pointer (some ⟨i1, 0, some 0⟩)), (0, .slice a (rows.length + 1) ca), (1, .slice x xs.length cx)]) (min c.mx.toNat xs.length + 1)
      (Sub.cons rfl (Sub.cons rfl (Sub.cons rfl (Sub.cons rfl Sub.nil)))) ⟨hg1, h1, by omega, by omega, rfl, _, by omega, rfl⟩ ?_
    clear h1 hg1
    rintro j m' B ⟨hg, h1, hj1, hj2, hbest, v7, hv7, rfl⟩
    repeat (first | refine w_seq ?_ | refine w_region env ?_ | refine wo_nil ?_ | refine wo_max rfl rfl rfl rfl ?_ | refine wo_min rfl rfl rfl rfl ?_ | refine wo_pure rfl rfl (fun _ => rfl) rfl rfl ?_ | refine wo_not rfl rfl ?_ | refine wo_load rfl (rd_ver h1 rfl _ 1 (Nat.le_of_ble_eq_true rfl)) rfl rfl rfl rfl rfl ?_)
    refine w_cond _ rfl (fun hge => ?_) (fun hlt => ?_)
    · have hge' : c.mn ≤ v7 := by simpa using hge
      have hmn := hok1.lo
      obtain ⟨n, rfl⟩ : ∃ n, j = n + 1 := ⟨j - 1, by omega⟩
      have hn7 : v7 = (n : Int) := by omega
      subst hn7
      refine w_skip ?_
      refine w_seq (w_block ?_)
      repeat (first | refine w_seq ?_ | refine w_region env ?_ | refine wo_nil ?_ | refine wo_max rfl rfl rfl rfl ?_ | refine wo_min rfl rfl rfl rfl ?_ | refine wo_pure rfl rfl (fun _ => rfl) rfl rfl ?_ | refine wo_not rfl rfl ?_ | refine wo_load rfl (rd_ver (by assumption) rfl _ 1 (Nat.le_of_ble_eq_true rfl)) rfl rfl rfl rfl rfl ?_)
      refine wo_slice (h := n) (l := 0) rfl (hx.pre hg.pre) (ints_len _).symm hcx rfl rfl rfl rfl rfl rfl (hwx.pre hg.pre) ?_ rfl (Nat.zero_le _) (by rw [ints_len]; omega) (fun a2 hs2 hn2 hw2 => ?_)
      · simp only [dBound]
        rw [if_pos ⟨by omega, by omega⟩]
        simp
      rw [List.drop_zero, ← ints_take] at hs2
      repeat (first | refine w_seq ?_ | refine w_region env ?_ | refine wo_nil ?_ | refine wo_max rfl rfl rfl rfl ?_ | refine wo_min rfl rfl rfl rfl ?_ | refine wo_pure rfl rfl (fun _ => rfl) rfl rfl ?_ | refine wo_not rfl rfl ?_ | refine wo_load rfl (rd_ver (by assumption) rfl _ 1 (Nat.le_of_ble_eq_true rfl)) rfl rfl rfl rfl rfl ?_)
      refine w_block ?_
      refine w_loop (fun j1 m' B => Gr (roH A) B ∧ B[i1]? = some (.cells ⟨[.int .i64 c.mn, .int .i64 c.mx, .slice sa c.sg.length sc], false, false, 1, 0⟩) ∧ Sl B a2 1 (ints (xs.take n)) ∧ ∃ i : Nat, j1 + i = n ∧
        m' = [(43, .int .i64 i), (42, .int .i64 n), (41, .slice a2 n cx), (8, .bool ((xs.take i).all (allowsS c))), (7, .int .i64 n), (6, .pointer (some ⟨i1, 0, some 0⟩)), (0, .slice a (rows.length + 1) ca), (1, .slice x xs.length cx)]) n
        (Sub.cons rfl (Sub.cons rfl (Sub.cons rfl (Sub.cons rfl (Sub.cons rfl (Sub.cons rfl (Sub.cons rfl (Sub.cons rfl Sub.nil)))))))) ⟨hg, h1, hs2, 0, by omega, rfl⟩ ?_
      clear hg h1 hs2 hn2 hw2
      rintro j1 m' B ⟨hg, h1, hs2, i, hji, rfl⟩
      repeat (first | refine w_seq ?_ | refine w_region env ?_ | refine wo_nil ?_ | refine wo_max rfl rfl rfl rfl ?_ | refine wo_min rfl rfl rfl rfl ?_ | refine wo_pure rfl rfl (fun _ => rfl) rfl rfl ?_ | refine wo_not rfl rfl ?_ | refine wo_load rfl (rd_ver (by assumption) rfl _ 1 (Nat.le_of_ble_eq_true rfl)) rfl rfl rfl rfl rfl ?_)
      refine w_cond _ rfl (fun hlt => ?_) (fun hge2 => ?_)
      · have hin : i < n := by simpa using hlt
        have hix : i < xs.length := by omega
        have hln : n = (ints (xs.take n)).length := by rw [ints_len]; simp; omega
        refine w_skip ?_
        refine w_seq (w_block ?_)
        repeat (first | refine w_seq ?_ | refine w_region env ?_ | refine wo_nil ?_ | refine wo_max rfl rfl rfl rfl ?_ | refine wo_min rfl rfl rfl rfl ?_ | refine wo_pure rfl rfl (fun _ => rfl) rfl rfl ?_ | refine wo_not rfl rfl ?_ | refine wo_load rfl (rd_ver (by assumption) rfl _ 1 (Nat.le_of_ble_eq_true rfl)) rfl rfl rfl rfl rfl ?_)
        refine wo_at _ rfl hs2 rfl rfl rfl rfl rfl hln (by omega) (ints_get (i := i) (by simp; omega)) (fun p hp => ?_)
        refine wo_load rfl hp rfl rfl rfl rfl rfl ?_
        repeat (first | refine w_seq ?_ | refine w_region env ?_ | refine wo_nil ?_ | refine wo_max rfl rfl rfl rfl ?_ | refine wo_min rfl rfl rfl rfl ?_ | refine wo_pure rfl rfl (fun _ => rfl) rfl rfl ?_ | refine wo_not rfl rfl ?_ | refine wo_load rfl (rd_ver h1 rfl _ 1 (Nat.le_of_ble_eq_true rfl)) rfl rfl rfl rfl rfl ?_)
        refine w_block ?_
        have hsi : ∃ s : Int, s = xs[i] := ⟨_, rfl⟩
        obtain ⟨s, hsi⟩ := hsi
        have hz : (((c.sg.length : Nat) : Int) == 0) = (decide (c.sg = []) || decide (s ∈ c.sg.take 0)) := by
          rw [Bool.eq_iff_iff]; simp
        have hgs : (xs.take n)[i]'(by simp; omega) = s := by simp [hsi]
        refine w_loop (fun j2 m' B => Gr (roH A) B ∧ B[i1]? = some (.cells ⟨[.int .i64 c.mn, .int .i64 c.mx, .slice sa c.sg.length sc], false, false, 1, 0⟩) ∧ Sl B a2 1 (ints (xs.take n)) ∧ ∃ k : Nat, j2 + k = c.sg.length ∧
          m' = [(54, .int .i64 k), (53, .int .i64 c.sg.length), (52, .slice sa c.sg.length sc), (11, .bool (decide (c.sg = []) || decide (s ∈ c.sg.take k))), (10, .int .i64 s),
            (43, .int .i64 i), (42, .int .i64 n), (41, .slice a2 n cx), (8, .bool ((xs.take i).all (allowsS c))), (7, .int .i64 n), (6, .pointer (some ⟨i1, 0, some 0⟩)), (0, .slice a (rows.length + 1) ca), (1, .slice x xs.length cx)]) c.sg.length
          ?_ ⟨hg, h1, hs2, 0, by omega, rfl⟩ ?_
        · exact (Sub.cons rfl (Sub.cons rfl (Sub.cons rfl (Sub.cons (some_bool hz) (Sub.cons (some_int hgs) (Sub.cons rfl (Sub.cons rfl (Sub.cons rfl (Sub.cons rfl (Sub.cons rfl (Sub.cons rfl (Sub.cons rfl (Sub.cons rfl Sub.nil)))))))))))))
        clear hg h1 hs2 hp
        rintro j2 m' B ⟨hg, h1, hs2, k, hjk, rfl⟩
        repeat (first | refine w_seq ?_ | refine w_region env ?_ | refine wo_nil ?_ | refine wo_max rfl rfl rfl rfl ?_ | refine wo_min rfl rfl rfl rfl ?_ | refine wo_pure rfl rfl (fun _ => rfl) rfl rfl ?_ | refine wo_not rfl rfl ?_ | refine wo_load rfl (rd_ver (by assumption) rfl _ 1 (Nat.le_of_ble_eq_true rfl)) rfl rfl rfl rfl rfl ?_)
        refine w_cond _ rfl (fun hlt2 => ?_) (fun hge2 => ?_)
        · have hk : k < c.sg.length := by simpa using hlt2
          refine w_skip ?_
          refine w_seq (w_block ?_)
          repeat (first | refine w_seq ?_ | refine w_region env ?_ | refine wo_nil ?_ | refine wo_max rfl rfl rfl rfl ?_ | refine wo_min rfl rfl rfl rfl ?_ | refine wo_pure rfl rfl (fun _ => rfl) rfl rfl ?_ | refine wo_not rfl rfl ?_ | refine wo_load rfl (rd_ver (by assumption) rfl _ 1 (Nat.le_of_ble_eq_true rfl)) rfl rfl rfl rfl rfl ?_)
          refine wo_at _ rfl (hsg.pre hg.pre) rfl rfl rfl rfl rfl (ints_len _).symm (by omega) (ints_get (i := k) hk) (fun p hp => ?_)
          refine wo_load rfl hp rfl rfl rfl rfl rfl ?_
          repeat (first | refine w_seq ?_ | refine w_region env ?_ | refine wo_nil ?_ | refine wo_max rfl rfl rfl rfl ?_ | refine wo_min rfl rfl rfl rfl ?_ | refine wo_pure rfl rfl (fun _ => rfl) rfl rfl ?_ | refine wo_not rfl rfl ?_ | refine wo_load rfl (rd_ver (by assumption) rfl _ 1 (Nat.le_of_ble_eq_true rfl)) rfl rfl rfl rfl rfl ?_)
          have hsn : (decide (c.sg = []) || decide (s ∈ c.sg.take (k + 1))) = ((decide (c.sg = []) || decide (s ∈ c.sg.take k)) || (s == c.sg[k])) := by
            rw [Bool.eq_iff_iff]
            simp only [Bool.or_eq_true, decide_eq_true_eq, take_succ_mem hk, beq_iff_eq, or_assoc]
          cases hq : (decide (c.sg = []) || decide (s ∈ c.sg.take k)) with
          | true =>
            repeat (first | refine w_seq ?_ | refine w_region env ?_ | refine wo_nil ?_ | refine wo_max rfl rfl rfl rfl ?_ | refine wo_min rfl rfl rfl rfl ?_ | refine wo_pure rfl rfl (fun _ => rfl) rfl rfl ?_ | refine wo_not rfl rfl ?_ | refine wo_load rfl (rd_ver (by assumption) rfl _ 1 (Nat.le_of_ble_eq_true rfl)) rfl rfl rfl rfl rfl ?_)
            exact ⟨j2 - 1, [(54, .int .i64 ((k + 1 : Nat) : Int)), (53, .int .i64 c.sg.length), (52, .slice sa c.sg.length sc), (11, .bool (decide (c.sg = []) || decide (s ∈ c.sg.take (k + 1)))), (10, .int .i64 s),
              (43, .int .i64 i), (42, .int .i64 n), (41, .slice a2 n cx), (8, .bool ((xs.take i).all (allowsS c))), (7, .int .i64 n), (6, .pointer (some ⟨i1, 0, some 0⟩)), (0, .slice a (rows.length + 1) ca), (1, .slice x xs.length cx)], by omega,
              Sub.cons (some_int (i64_nat (by omega))) (Sub.cons rfl (Sub.cons rfl (Sub.cons (some_bool (by rw [hsn, hq]; rfl)) (Sub.cons rfl (Sub.cons rfl (Sub.cons rfl (Sub.cons rfl (Sub.cons rfl (Sub.cons rfl (Sub.cons rfl (Sub.cons rfl (Sub.cons rfl Sub.nil)))))))))))), hg, h1, hs2, k + 1, by omega, rfl⟩
          | false =>
            repeat (first | refine w_seq ?_ | refine w_region env ?_ | refine wo_nil ?_ | refine wo_max rfl rfl rfl rfl ?_ | refine wo_min rfl rfl rfl rfl ?_ | refine wo_pure rfl rfl (fun _ => rfl) rfl rfl ?_ | refine wo_not rfl rfl ?_ | refine wo_load rfl (rd_ver (by assumption) rfl _ 1 (Nat.le_of_ble_eq_true rfl)) rfl rfl rfl rfl rfl ?_)
            exact ⟨j2 - 1, [(54, .int .i64 ((k + 1 : Nat) : Int)), (53, .int .i64 c.sg.length), (52, .slice sa c.sg.length sc), (11, .bool (decide (c.sg = []) || decide (s ∈ c.sg.take (k + 1)))), (10, .int .i64 s),
              (43, .int .i64 i), (42, .int .i64 n), (41, .slice a2 n cx), (8, .bool ((xs.take i).all (allowsS c))), (7, .int .i64 n), (6, .pointer (some ⟨i1, 0, some 0⟩)), (0, .slice a (rows.length + 1) ca), (1, .slice x xs.length cx)], by omega,
              Sub.cons (some_int (i64_nat (by omega))) (Sub.cons rfl (Sub.cons rfl (Sub.cons (some_bool (by rw [hsn, hq]; simp)) (Sub.cons rfl (Sub.cons rfl (Sub.cons rfl (Sub.cons rfl (Sub.cons rfl (Sub.cons rfl (Sub.cons rfl (Sub.cons rfl (Sub.cons rfl Sub.nil)))))))))))), hg, h1, hs2, k + 1, by omega, rfl⟩
        · have hk : c.sg.length ≤ k := by simpa using hge2
          rw [List.take_of_length_le hk]
          have hal : (decide (c.sg = []) || decide (s ∈ c.sg)) = allowsS c s := rfl
          rw [hal]
          refine w_exit ?_
          have hsn : (xs.take (i + 1)).all (allowsS c) = ((xs.take i).all (allowsS c) && allowsS c s) := by
            rw [List.take_add_one, List.all_append]
            simp [hix, hsi]
          repeat (first | refine w_seq ?_ | refine w_region env ?_ | refine wo_nil ?_ | refine wo_max rfl rfl rfl rfl ?_ | refine wo_min rfl rfl rfl rfl ?_ | refine wo_pure rfl rfl (fun _ => rfl) rfl rfl ?_ | refine wo_not rfl rfl ?_ | refine wo_load rfl (rd_ver (by assumption) rfl _ 1 (Nat.le_of_ble_eq_true rfl)) rfl rfl rfl rfl rfl ?_)
          cases hq : (xs.take i).all (allowsS c) with
          | true =>
            repeat (first | refine w_seq ?_ | refine w_region env ?_ | refine wo_nil ?_ | refine wo_max rfl rfl rfl rfl ?_ | refine wo_min rfl rfl rfl rfl ?_ | refine wo_pure rfl rfl (fun _ => rfl) rfl rfl ?_ | refine wo_not rfl rfl ?_ | refine wo_load rfl (rd_ver (by assumption) rfl _ 1 (Nat.le_of_ble_eq_true rfl)) rfl rfl rfl rfl rfl ?_)
            exact ⟨j1 - 1, [(43, .int .i64 ((i + 1 : Nat) : Int)), (42, .int .i64 n), (41, .slice a2 n cx), (8, .bool ((xs.take (i + 1)).all (allowsS c))), (7, .int .i64 n), (6, .pointer (some ⟨i1, 0, some 0⟩)), (0, .slice a (rows.length + 1) ca), (1, .slice x xs.length cx)], by omega, Sub.cons (some_int (i64_nat (by omega))) (Sub.cons rfl (Sub.cons rfl (Sub.cons (some_bool (by rw [hsn, hq]; rfl)) (Sub.cons rfl (Sub.cons rfl (Sub.cons rfl (Sub.cons rfl Sub.nil))))))), hg, h1, hs2, i + 1, by omega, rfl⟩
          | false =>
            repeat (first | refine w_seq ?_ | refine w_region env ?_ | refine wo_nil ?_ | refine wo_max rfl rfl rfl rfl ?_ | refine wo_min rfl rfl rfl rfl ?_ | refine wo_pure rfl rfl (fun _ => rfl) rfl rfl ?_ | refine wo_not rfl rfl ?_ | refine wo_load rfl (rd_ver (by assumption) rfl _ 1 (Nat.le_of_ble_eq_true rfl)) rfl rfl rfl rfl rfl ?_)
            exact ⟨j1 - 1, [(43, .int .i64 ((i + 1 : Nat) : Int)), (42, .int .i64 n), (41, .slice a2 n cx), (8, .bool ((xs.take (i + 1)).all (allowsS c))), (7, .int .i64 n), (6, .pointer (some ⟨i1, 0, some 0⟩)), (0, .slice a (rows.length + 1) ca), (1, .slice x xs.length cx)], by omega, Sub.cons (some_int (i64_nat (by omega))) (Sub.cons rfl (Sub.cons rfl (Sub.cons (some_bool (by rw [hsn, hq]; rfl)) (Sub.cons rfl (Sub.cons rfl (Sub.cons rfl (Sub.cons rfl Sub.nil))))))), hg, h1, hs2, i + 1, by omega, rfl⟩
      · have hin : i = n := by
          have : n ≤ i := by simpa using hge2
          omega
        subst hin
        refine w_exit ?_
        repeat (first | refine w_seq ?_ | refine w_region env ?_ | refine wo_nil ?_ | refine wo_max rfl rfl rfl rfl ?_ | refine wo_min rfl rfl rfl rfl ?_ | refine wo_pure rfl rfl (fun _ => rfl) rfl rfl ?_ | refine wo_not rfl rfl ?_ | refine wo_load rfl (rd_ver (by assumption) rfl _ 1 (Nat.le_of_ble_eq_true rfl)) rfl rfl rfl rfl rfl ?_)
        have next : ∀ (m' : TF) (B : Hp), Gr (roH A) B → B[i1]? = some (.cells ⟨[.int .i64 c.mn, .int .i64 c.mx, .slice sa c.sg.length sc], false, false, 1, 0⟩) → bestsB c xs F (i + 1) = bestsB c xs F i →
            Go.Dx.look m' 7 = some (.int .i64 (dwrap .i64 ((i : Int) - 1))) → Go.Dx.look m' 6 = some (.pointer (some ⟨i1, 0, some 0⟩)) → Go.Dx.look m' 0 = some (.slice a (rows.length + 1) ca) → Go.Dx.look m' 1 = some (.slice x xs.length cx) →
            ∃ (j : Nat) (m0 : TF), j < i + 1 ∧ Sub m0 m' ∧ Gr (roH A) B ∧ B[i1]? = some (.cells ⟨[.int .i64 c.mn, .int .i64 c.mx, .slice sa c.sg.length sc], false, false, 1, 0⟩) ∧ j ≤ xs.length + 1 ∧ j ≤ 11 ∧
              bestsB c xs F (min c.mx.toNat xs.length + 1) = bestsB c xs F j ∧ ∃ v7 : Int, v7 = (j : Int) - 1 ∧
              m0 = [(7, .int .i64 v7), (6, .pointer (some ⟨i1, 0, some 0⟩)), (0, .slice a (rows.length + 1) ca), (1, .slice x xs.length cx)] := by
          intro m' B hg h1 hb k7 k6 k0 k1
          rw [i64_small (by omega) (by omega)] at k7
          exact ⟨i, _, by omega, Sub.cons k7 (Sub.cons k6 (Sub.cons k0 (Sub.cons k1 Sub.nil))), hg, h1, by omega, by omega, hbest.trans hb, _, rfl, rfl⟩
        cases hall : (xs.take i).all (allowsS c) with
        | false =>
          repeat (first | refine w_seq ?_ | refine w_region env ?_ | refine wo_nil ?_ | refine wo_max rfl rfl rfl rfl ?_ | refine wo_min rfl rfl rfl rfl ?_ | refine wo_pure rfl rfl (fun _ => rfl) rfl rfl ?_ | refine wo_not rfl rfl ?_ | refine wo_load rfl (rd_ver (by assumption) rfl _ 1 (Nat.le_of_ble_eq_true rfl)) rfl rfl rfl rfl rfl ?_)
          refine w_cond _ rfl (fun _ => ?_) (fun h => by cases h)
          refine w_exit ?_
          repeat (first | refine w_seq ?_ | refine w_region env ?_ | refine wo_nil ?_ | refine wo_max rfl rfl rfl rfl ?_ | refine wo_min rfl rfl rfl rfl ?_ | refine wo_pure rfl rfl (fun _ => rfl) rfl rfl ?_ | refine wo_not rfl rfl ?_ | refine wo_load rfl (rd_ver (by assumption) rfl _ 1 (Nat.le_of_ble_eq_true rfl)) rfl rfl rfl rfl rfl ?_)
          refine next _ _ hg h1 ?_ rfl rfl rfl rfl
          simp [bestsB, hall]
        | true =>
          repeat (first | refine w_seq ?_ | refine w_region env ?_ | refine wo_nil ?_ | refine wo_max rfl rfl rfl rfl ?_ | refine wo_min rfl rfl rfl rfl ?_ | refine wo_pure rfl rfl (fun _ => rfl) rfl rfl ?_ | refine wo_not rfl rfl ?_ | refine wo_load rfl (rd_ver (by assumption) rfl _ 1 (Nat.le_of_ble_eq_true rfl)) rfl rfl rfl rfl rfl ?_)
          refine w_cond _ rfl (fun h => by cases h) (fun _ => ?_)
          refine w_skip ?_
          refine w_seq (w_draw env 5 (by kernel_rfl) ?_)
          repeat (first | refine w_seq ?_ | refine w_region env ?_ | refine wo_nil ?_ | refine wo_max rfl rfl rfl rfl ?_ | refine wo_min rfl rfl rfl rfl ?_ | refine wo_pure rfl rfl (fun _ => rfl) rfl rfl ?_ | refine wo_not rfl rfl ?_ | refine wo_load rfl (rd_ver (by assumption) rfl _ 1 (Nat.le_of_ble_eq_true rfl)) rfl rfl rfl rfl rfl ?_)
          refine wo_slice (h := rows.length + 1) (l := 1) rfl (ha.pre hg.pre) rfl hca rfl rfl rfl rfl rfl rfl (hwa.pre hg.pre) rfl (dBound_eq rfl (by omega)) (by omega) (Nat.le_refl _) (fun a3 hs3 hn3 hw3 => ?_)
          repeat (first | refine w_seq ?_ | refine w_region env ?_ | refine wo_nil ?_ | refine wo_max rfl rfl rfl rfl ?_ | refine wo_min rfl rfl rfl rfl ?_ | refine wo_pure rfl rfl (fun _ => rfl) rfl rfl ?_ | refine wo_not rfl rfl ?_ | refine wo_load rfl (rd_ver (by assumption) rfl _ 1 (Nat.le_of_ble_eq_true rfl)) rfl rfl rfl rfl rfl ?_)
          refine wo_slice (h := xs.length) (l := i) rfl (hx.pre hg.pre) (ints_len _).symm hcx rfl rfl rfl rfl rfl rfl (hwx.pre hg.pre) rfl ?_ (by omega) (by rw [ints_len]; exact Nat.le_refl _) (fun a4 hs4 hn4 hw4 => ?_)
          · simp only [dBound]
            rw [if_pos ⟨by omega, by omega⟩]
            simp
          rw [List.take_of_length_le (by rw [ints_len]; exact Nat.le_refl _), ← ints_drop] at hs4
          have hs3' : Sl B a3 3 rows := by simpa using hs3
          have hd : xs.length - i = (xs.drop i).length := by simp
          rw [hd]
          refine wo_call1 (stood_fun cs hs3' (hr.pre hg.pre).tail (by omega) hw3 hs4 (by simp; omega) hw4 (by simp; omega) (by simp at hlc; omega) (fun c' hc' => hok c' (by simp [hc']))) rfl rfl rfl ?_
          rintro v r hr2 hv
          have hg5 := hg.app hr2
          have h15 := at_app h1 r
          cases hst : stoodS cs (xs.drop i) with
          | none =>
            rw [hst] at hv
            subst hv
            repeat (first | refine w_seq ?_ | refine w_region env ?_ | refine wo_nil ?_ | refine wo_max rfl rfl rfl rfl ?_ | refine wo_min rfl rfl rfl rfl ?_ | refine wo_pure rfl rfl (fun _ => rfl) rfl rfl ?_ | refine wo_not rfl rfl ?_ | refine wo_load rfl (rd_ver (by assumption) rfl _ 1 (Nat.le_of_ble_eq_true rfl)) rfl rfl rfl rfl rfl ?_)
            refine w_cond _ rfl (fun h => by cases h) (fun _ => ?_)
            refine w_skip ?_
            repeat (first | refine w_seq ?_ | refine w_region env ?_ | refine wo_nil ?_ | refine wo_max rfl rfl rfl rfl ?_ | refine wo_min rfl rfl rfl rfl ?_ | refine wo_pure rfl rfl (fun _ => rfl) rfl rfl ?_ | refine wo_not rfl rfl ?_ | refine wo_load rfl (rd_ver (by assumption) rfl _ 1 (Nat.le_of_ble_eq_true rfl)) rfl rfl rfl rfl rfl ?_)
            refine next _ _ hg5 h15 ?_ rfl rfl rfl rfl
            simp [bestsB, hF, hst]
          | some r1 =>
            rw [hst] at hv
            obtain ⟨a5, c5, rfl, hs5, hl5, hb5⟩ := hv
            have hl5' : r1.length = xs.length - i := by rw [hl5]; simp
            have hlc' : cs.length ≤ 5 := by simp at hlc; omega
            have hs5' := hs5.unro
            have hbi : bestsB c xs F (i + 1) = some i := by
              have : c.mn ≤ (i : Int) := hge'
              simp only [bestsB]
              rw [if_pos (by simp [this, hall, hF, hst])]
            have hres : stoodS (c :: cs) xs = some (List.replicate i 0 ++ r1.map (· + 1)) := by
              simp only [stoodS]
              rw [← hF, hbest, hbi]
              simp only [hst, Option.map_some]
            clear hs5 next h1 h15 hs2 hg hs3 hs3' hn3 hw3 hs4 hn4 hw4
            generalize B ++ r = B5 at *
            repeat (first | refine w_seq ?_ | refine w_region env ?_ | refine wo_nil ?_ | refine wo_max rfl rfl rfl rfl ?_ | refine wo_min rfl rfl rfl rfl ?_ | refine wo_pure rfl rfl (fun _ => rfl) rfl rfl ?_ | refine wo_not rfl rfl ?_ | refine wo_load rfl (rd_ver (by assumption) rfl _ 1 (Nat.le_of_ble_eq_true rfl)) rfl rfl rfl rfl rfl ?_)
            refine w_cond _ rfl (fun _ => ?_) (fun h => by cases h)
            repeat (first | refine w_seq ?_ | refine w_region env ?_ | refine wo_nil ?_ | refine wo_max rfl rfl rfl rfl ?_ | refine wo_min rfl rfl rfl rfl ?_ | refine wo_pure rfl rfl (fun _ => rfl) rfl rfl ?_ | refine wo_not rfl rfl ?_ | refine wo_load rfl (rd_ver (by assumption) rfl _ 1 (Nat.le_of_ble_eq_true rfl)) rfl rfl rfl rfl rfl ?_)
            refine w_block ?_
            refine w_loop (fun j m' B => Gr B5 B ∧ ∃ (k : Nat) (o : Option Nat) (ao : Option Addr), j + k = i ∧ Own B o ao 1 (ints (List.replicate k 0)) ∧ (∀ q, o = some q → B5.length ≤ q) ∧
              m' = [(83, .int .i64 k), (82, .int .i64 i), (16, .slice ao (ints (List.replicate k 0)).length (ints (List.replicate k 0)).length), (14, .slice a5 r1.length c5)]) i
              (Sub.cons rfl (Sub.cons rfl (Sub.cons rfl (Sub.cons rfl Sub.nil)))) ⟨.refl _, 0, none, none, by omega, own_nil, (fun q h => by cases h), rfl⟩ ?_
            rintro j m' B ⟨hg, k, o, ao, hjk, hown, hoi, rfl⟩
            have hrl : (ints (List.replicate k 0)).length = k := by rw [ints_len]; simp
            repeat (first | refine w_seq ?_ | refine w_region env ?_ | refine wo_nil ?_ | refine wo_max rfl rfl rfl rfl ?_ | refine wo_min rfl rfl rfl rfl ?_ | refine wo_pure rfl rfl (fun _ => rfl) rfl rfl ?_ | refine wo_not rfl rfl ?_ | refine wo_load rfl (rd_ver (by assumption) rfl _ 1 (Nat.le_of_ble_eq_true rfl)) rfl rfl rfl rfl rfl ?_)
            refine w_cond _ rfl (fun hlt3 => ?_) (fun hge3 => ?_)
            · have hki : k < i := by simpa using hlt3
              refine w_skip ?_
              repeat (first | refine w_seq ?_ | refine w_region env ?_ | refine wo_nil ?_ | refine wo_max rfl rfl rfl rfl ?_ | refine wo_min rfl rfl rfl rfl ?_ | refine wo_pure rfl rfl (fun _ => rfl) rfl rfl ?_ | refine wo_not rfl rfl ?_ | refine wo_load rfl (rd_ver (by assumption) rfl _ 1 (Nat.le_of_ble_eq_true rfl)) rfl rfl rfl rfl rfl ?_)
              refine w_block ?_
              repeat (first | refine w_seq ?_ | refine w_region env ?_ | refine wo_nil ?_ | refine wo_max rfl rfl rfl rfl ?_ | refine wo_min rfl rfl rfl rfl ?_ | refine wo_pure rfl rfl (fun _ => rfl) rfl rfl ?_ | refine wo_not rfl rfl ?_ | refine wo_load rfl (rd_ver (by assumption) rfl _ 1 (Nat.le_of_ble_eq_true rfl)) rfl rfl rfl rfl rfl ?_)
              refine wo_mk (b := ⟨[.int .i64 0], false, false, 1, 0⟩) rfl rfl (fun _ => rfl) rfl rfl rfl (fun i6 B6 ⟨h6, g6, q6, p6, x6, l6⟩ => ?_)
              refine wo_append (rows := ints (List.replicate k 0)) (xrows := [[.int .i64 0]]) rfl rfl (hown.keep fun _ _ _ hx => (q6 _ _ hx).1) (sl_of_at h6 rfl (by simp) rfl) rfl rfl rfl rfl ?_ ?_ rfl rfl rfl rfl rfl rfl rfl rfl (.inl rfl) ?_
              · show ((ints (List.replicate k 0)).length + 1) * 8 ≤ 1000000000
                omega
              · show (ints (List.replicate k 0)).length + 1 ≤ 1000000000
                omega
              intro o7 a7 B7 hown7 st7
              have e7 : ints (List.replicate k 0) ++ [[Value.int .i64 0]] = ints (List.replicate (k + 1) 0) := by
                rw [List.replicate_succ', ints_app]; rfl
              rw [e7] at hown7
              rw [e7]
              obtain ⟨hg7, hoi7⟩ := st7.gr _ (g6 _ hg).1 (fun q hq => hoi q hq)
              repeat (first | refine w_seq ?_ | refine w_region env ?_ | refine wo_nil ?_ | refine wo_max rfl rfl rfl rfl ?_ | refine wo_min rfl rfl rfl rfl ?_ | refine wo_pure rfl rfl (fun _ => rfl) rfl rfl ?_ | refine wo_not rfl rfl ?_ | refine wo_load rfl (rd_ver (by assumption) rfl _ 1 (Nat.le_of_ble_eq_true rfl)) rfl rfl rfl rfl rfl ?_)
              exact ⟨j - 1, [(83, .int .i64 ((k + 1 : Nat) : Int)), (82, .int .i64 i), (16, .slice a7 (ints (List.replicate (k + 1) 0)).length (ints (List.replicate (k + 1) 0)).length), (14, .slice a5 r1.length c5)], by omega,
                Sub.cons (some_int (i64_nat (by omega))) (Sub.cons rfl (Sub.cons rfl (Sub.cons rfl Sub.nil))), hg7, k + 1, o7, a7, by omega, hown7, hoi7, rfl⟩
            · have hki : k = i := by
                have : i ≤ k := by simpa using hge3
                omega
              subst hki
              refine w_exit ?_
              repeat (first | refine w_seq ?_ | refine w_region env ?_ | refine wo_nil ?_ | refine wo_max rfl rfl rfl rfl ?_ | refine wo_min rfl rfl rfl rfl ?_ | refine wo_pure rfl rfl (fun _ => rfl) rfl rfl ?_ | refine wo_not rfl rfl ?_ | refine wo_load rfl (rd_ver (by assumption) rfl _ 1 (Nat.le_of_ble_eq_true rfl)) rfl rfl rfl rfl rfl ?_)
              refine w_block ?_
              refine w_loop (fun j m' B => Gr B5 B ∧ ∃ (t : Nat) (o : Option Nat) (ao : Option Addr), j + t = r1.length ∧ Own B o ao 1 (ints (List.replicate k 0 ++ (r1.take t).map (· + 1))) ∧ (∀ q, o = some q → B5.length ≤ q) ∧
                m' = [(91, .int .i64 t), (90, .int .i64 r1.length), (89, .slice a5 r1.length c5), (16, .slice ao (ints (List.replicate k 0 ++ (r1.take t).map (· + 1))).length (ints (List.replicate k 0 ++ (r1.take t).map (· + 1))).length)]) r1.length
                ?_ ⟨hg, 0, o, ao, by omega, by simpa using hown, hoi, rfl⟩ ?_
              · have e0 : ints (List.replicate k 0 ++ (r1.take 0).map (· + 1)) = ints (List.replicate k 0) := by simp
                exact Sub.cons rfl (Sub.cons rfl (Sub.cons rfl (Sub.cons (by rw [e0]; rfl) Sub.nil)))
              clear hown hoi hg hrl
              rintro j m' B ⟨hg, t, o, ao, hjt, hown, hoi, rfl⟩
              have hrl : (ints (List.replicate k 0 ++ (r1.take t).map (· + 1))).length ≤ 200 := by rw [ints_len]; simp; omega
              repeat (first | refine w_seq ?_ | refine w_region env ?_ | refine wo_nil ?_ | refine wo_max rfl rfl rfl rfl ?_ | refine wo_min rfl rfl rfl rfl ?_ | refine wo_pure rfl rfl (fun _ => rfl) rfl rfl ?_ | refine wo_not rfl rfl ?_ | refine wo_load rfl (rd_ver (by assumption) rfl _ 1 (Nat.le_of_ble_eq_true rfl)) rfl rfl rfl rfl rfl ?_)
              refine w_cond _ rfl (fun hlt4 => ?_) (fun hge4 => ?_)
              · have ht : t < r1.length := by simpa using hlt4
                refine w_skip ?_
                repeat (first | refine w_seq ?_ | refine w_region env ?_ | refine wo_nil ?_ | refine wo_max rfl rfl rfl rfl ?_ | refine wo_min rfl rfl rfl rfl ?_ | refine wo_pure rfl rfl (fun _ => rfl) rfl rfl ?_ | refine wo_not rfl rfl ?_ | refine wo_load rfl (rd_ver (by assumption) rfl _ 1 (Nat.le_of_ble_eq_true rfl)) rfl rfl rfl rfl rfl ?_)
                refine w_block ?_
                repeat (first | refine w_seq ?_ | refine w_region env ?_ | refine wo_nil ?_ | refine wo_max rfl rfl rfl rfl ?_ | refine wo_min rfl rfl rfl rfl ?_ | refine wo_pure rfl rfl (fun _ => rfl) rfl rfl ?_ | refine wo_not rfl rfl ?_ | refine wo_load rfl (rd_ver (by assumption) rfl _ 1 (Nat.le_of_ble_eq_true rfl)) rfl rfl rfl rfl rfl ?_)
                refine wo_at _ rfl (hs5'.pre hg.pre) rfl rfl rfl rfl rfl (ints_len _).symm (by omega) (ints_get (i := t) ht) (fun p hp => ?_)
                refine wo_load rfl hp rfl rfl rfl rfl rfl ?_
                repeat (first | refine w_seq ?_ | refine w_region env ?_ | refine wo_nil ?_ | refine wo_max rfl rfl rfl rfl ?_ | refine wo_min rfl rfl rfl rfl ?_ | refine wo_pure rfl rfl (fun _ => rfl) rfl rfl ?_ | refine wo_not rfl rfl ?_ | refine wo_load rfl (rd_ver (by assumption) rfl _ 1 (Nat.le_of_ble_eq_true rfl)) rfl rfl rfl rfl rfl ?_)
                refine wo_mk (b := ⟨[.int .i64 (dwrap .i64 (r1[t] + 1))], false, false, 1, 0⟩) rfl rfl (fun _ => rfl) rfl rfl rfl (fun i6 B6 ⟨h6, g6, q6, p6, x6, l6⟩ => ?_)
                refine wo_append (rows := ints (List.replicate k 0 ++ (r1.take t).map (· + 1))) (xrows := [[.int .i64 (dwrap .i64 (r1[t] + 1))]]) rfl rfl (hown.keep fun _ _ _ hx => (q6 _ _ hx).1) (sl_of_at h6 rfl (by simp) rfl) rfl rfl rfl rfl ?_ ?_ rfl rfl rfl rfl rfl rfl rfl rfl (.inl rfl) ?_
                · show ((ints (List.replicate k 0 ++ (r1.take t).map (· + 1))).length + 1) * 8 ≤ 1000000000
                  omega
                · show (ints (List.replicate k 0 ++ (r1.take t).map (· + 1))).length + 1 ≤ 1000000000
                  omega
                intro o7 a7 B7 hown7 st7
                have e7 : ints (List.replicate k 0 ++ (r1.take t).map (· + 1)) ++ [[Value.int .i64 (dwrap .i64 (r1[t] + 1))]] = ints (List.replicate k 0 ++ (r1.take (t + 1)).map (· + 1)) := by
                  rw [i64_small (by have := hb5 r1[t] (by simp); omega) (by have := hb5 r1[t] (by simp); omega), List.take_add_one, List.map_append, ← List.append_assoc, ints_app (List.replicate k 0 ++ (r1.take t).map (· + 1))]
                  simp [ht, ints]
                rw [e7] at hown7
                rw [e7]
                obtain ⟨hg7, hoi7⟩ := st7.gr _ (g6 _ hg).1 (fun q hq => hoi q hq)
                repeat (first | refine w_seq ?_ | refine w_region env ?_ | refine wo_nil ?_ | refine wo_max rfl rfl rfl rfl ?_ | refine wo_min rfl rfl rfl rfl ?_ | refine wo_pure rfl rfl (fun _ => rfl) rfl rfl ?_ | refine wo_not rfl rfl ?_ | refine wo_load rfl (rd_ver (by assumption) rfl _ 1 (Nat.le_of_ble_eq_true rfl)) rfl rfl rfl rfl rfl ?_)
                exact ⟨j - 1, [(91, .int .i64 ((t + 1 : Nat) : Int)), (90, .int .i64 r1.length), (89, .slice a5 r1.length c5), (16, .slice a7 (ints (List.replicate k 0 ++ (r1.take (t + 1)).map (· + 1))).length (ints (List.replicate k 0 ++ (r1.take (t + 1)).map (· + 1))).length)], by omega,
                  Sub.cons (some_int (i64_nat (by omega))) (Sub.cons rfl (Sub.cons rfl (Sub.cons rfl Sub.nil))), hg7, t + 1, o7, a7, by omega, hown7, hoi7, rfl⟩
              · have ht : r1.length ≤ t := by simpa using hge4
                rw [List.take_of_length_le ht] at hown
                rw [List.take_of_length_le ht]
                refine w_exit ?_
                repeat (first | refine w_seq ?_ | refine w_region env ?_ | refine wo_nil ?_ | refine wo_max rfl rfl rfl rfl ?_ | refine wo_min rfl rfl rfl rfl ?_ | refine wo_pure rfl rfl (fun _ => rfl) rfl rfl ?_ | refine wo_not rfl rfl ?_ | refine wo_load rfl (rd_ver (by assumption) rfl _ 1 (Nat.le_of_ble_eq_true rfl)) rfl rfl rfl rfl rfl ?_)
                refine w_ret ⟨.inr rfl, ?_, _, rfl, ?_⟩
                · obtain ⟨r5, e5, f5⟩ := hg5
                  obtain ⟨r6, e6, f6⟩ := hg
                  exact ⟨r5 ++ r6, by rw [e6, e5, List.append_assoc], f5.app f6⟩
                · rw [hres]
                  refine ⟨ao, (ints (List.replicate k 0 ++ r1.map (· + 1))).length, ?_, hown.sl, ?_⟩
                  · simp [oneOf, ints_len]
                  · refine ⟨by simp; omega, fun z hz => ?_⟩
                    rcases List.mem_append.1 hz with hz | hz
                    · have := (List.mem_replicate.1 hz).2
                      subst this
                      simp
                    · obtain ⟨z1, h1, h2⟩ := List.mem_map.1 hz
                      have := hb5 z1 h1
                      simp only [List.length_cons]
                      omega
    · refine w_exit ?_
      repeat (first | refine w_seq ?_ | refine w_region env ?_ | refine wo_nil ?_ | refine wo_max rfl rfl rfl rfl ?_ | refine wo_min rfl rfl rfl rfl ?_ | refine wo_pure rfl rfl (fun _ => rfl) rfl rfl ?_ | refine wo_not rfl rfl ?_ | refine wo_load rfl (rd_ver (by assumption) rfl _ 1 (Nat.le_of_ble_eq_true rfl)) rfl rfl rfl rfl rfl ?_)
      have hnone : stoodS (c :: cs) xs = none := by
        have hlow : bestsB c xs F j = none := bestsB_low (by
          have : ¬ c.mn ≤ v7 := by simpa using hlt
          omega)
        simp only [stoodS]
        rw [← hF, hbest, hlow]
      refine w_ret ⟨.inr rfl, hg, _, rfl, ?_⟩
      rw [hnone]
      rfl
end Go.Proofs.YtdjcbpicdnhciaaGreat
