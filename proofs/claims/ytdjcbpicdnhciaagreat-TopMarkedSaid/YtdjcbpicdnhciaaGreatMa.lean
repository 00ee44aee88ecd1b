/- The program's small functions over numbers and rows of numbers. -/
import Derived.Test.YtdjcbpicdnhciaaGreatEe
import Derived.Test.YtdjcbpicdnhciaaGreatRa
set_option linter.unusedVariables false
set_option linter.unusedSimpArgs false
open Go Go.Dx Go.Proofs
namespace Go.Proofs.YtdjcbpicdnhciaaGreat
set_option maxRecDepth 20000

def ints (xs : List Int) : List (List Value) := xs.map fun x => [.int .i64 x]

theorem ints_len (xs : List Int) : (ints xs).length = xs.length := by simp [ints]
theorem ints_get {xs : List Int} {i : Nat} (h : i < xs.length) : (ints xs)[i]? = some [.int .i64 xs[i]] := by simp [ints, h]
theorem ints_cells (xs : List Int) : (ints xs).flatten.all isCell = true := by
  induction xs with
  | nil => rfl
  | cons x xs ih => simp [ints, isCell]

theorem i64_small {z : Int} (h : -2000000000000 ≤ z) (h2 : z ≤ 2000000000000) : dwrap .i64 z = z := by
  simp only [dwrap]
  rw [if_pos (by omega)]
theorem i64_nat {n : Nat} (h : n ≤ 1000000000000) : dwrap .i64 ((n : Int) + 1) = ((n + 1 : Nat) : Int) := by
  have h1 : dwrap .i64 ((n : Int) + 1) = (n : Int) + 1 := i64_small (by omega) (by omega)
  rw [h1]; omega

theorem some_int {k : IntKind} {a b : Int} (h : a = b) : some (Value.int k a) = some (Value.int k b) := by rw [h]
theorem some_bool {a b : Bool} (h : a = b) : some (Value.bool a) = some (Value.bool b) := by rw [h]

/-- F12 -/
theorem sameInts_fun {A : Hp} {a b : Option Addr} {xs ys : List Int} {ca cb : Nat} (ha : Sl A a 1 (ints xs)) (hb : Sl A b 1 (ints ys)) (hbig : xs.length ≤ 1000000000000) :
    Fun Tryz.prog 12 [.slice a xs.length ca, .slice b ys.length cb] A fun v _ => v = .bool (decide (xs = ys)) := by
  replace ha := ha.ro
  replace hb := hb.ro
  refine fun_walk (fn := Tryz.f12) Tryz.func12 rfl rfl ?_
  repeat (first | refine w_seq ?_ | refine w_region env ?_ | refine wo_nil ?_ | refine wo_max rfl rfl rfl rfl ?_ | refine wo_min rfl rfl rfl rfl ?_ | refine wo_pure rfl rfl (fun _ => rfl) rfl rfl ?_ | refine wo_not rfl rfl ?_ | refine wo_load rfl (rd_ver (by assumption) rfl _ 1 (Nat.le_of_ble_eq_true rfl)) rfl rfl rfl rfl rfl ?_)
  refine w_cond _ rfl ?_ ?_
  · intro hne
    repeat (first | refine w_seq ?_ | refine w_region env ?_ | refine wo_nil ?_ | refine wo_max rfl rfl rfl rfl ?_ | refine wo_min rfl rfl rfl rfl ?_ | refine wo_pure rfl rfl (fun _ => rfl) rfl rfl ?_ | refine wo_not rfl rfl ?_ | refine wo_load rfl (rd_ver (by assumption) rfl _ 1 (Nat.le_of_ble_eq_true rfl)) rfl rfl rfl rfl rfl ?_)
    refine w_ret ?_
    refine ⟨.inr rfl, .refl _, _, rfl, ?_⟩
    simp only [oneOf, Value.bool.injEq]
    have : xs ≠ ys := fun h => by subst h; simp at hne
    simp [this]
  · intro heq
    have hlen : xs.length = ys.length := by simp at heq; omega
    refine w_skip ?_
    repeat (first | refine w_seq ?_ | refine w_region env ?_ | refine wo_nil ?_ | refine wo_max rfl rfl rfl rfl ?_ | refine wo_min rfl rfl rfl rfl ?_ | refine wo_pure rfl rfl (fun _ => rfl) rfl rfl ?_ | refine wo_not rfl rfl ?_ | refine wo_load rfl (rd_ver (by assumption) rfl _ 1 (Nat.le_of_ble_eq_true rfl)) rfl rfl rfl rfl rfl ?_)
    refine w_block ?_
    refine w_loop (fun j m' A' => A' = roH A ∧ ∃ i : Nat, j + i = xs.length ∧ xs.take i = ys.take i ∧ m' = [(5, .int .i64 i), (0, .slice a xs.length ca), (1, .slice b ys.length cb)]) xs.length
      (Sub.cons rfl (Sub.cons rfl (Sub.cons rfl Sub.nil))) ⟨rfl, 0, by omega, rfl, rfl⟩ ?_
    rintro j m' A' ⟨rfl, i, hji, hpre, rfl⟩
    repeat (first | refine w_seq ?_ | refine w_region env ?_ | refine wo_nil ?_ | refine wo_max rfl rfl rfl rfl ?_ | refine wo_min rfl rfl rfl rfl ?_ | refine wo_pure rfl rfl (fun _ => rfl) rfl rfl ?_ | refine wo_not rfl rfl ?_ | refine wo_load rfl (rd_ver (by assumption) rfl _ 1 (Nat.le_of_ble_eq_true rfl)) rfl rfl rfl rfl rfl ?_)
    refine w_cond _ rfl ?_ ?_
    · intro hlt
      have hix : i < xs.length := by simpa using hlt
      have hiy : i < ys.length := by omega
      refine w_skip ?_
      refine w_seq ?_
      refine w_block ?_
      refine w_seq ?_
      refine w_draw env 8 (by kernel_rfl) ?_
      repeat (first | refine w_seq ?_ | refine w_region env ?_ | refine wo_nil ?_ | refine wo_max rfl rfl rfl rfl ?_ | refine wo_min rfl rfl rfl rfl ?_ | refine wo_pure rfl rfl (fun _ => rfl) rfl rfl ?_ | refine wo_not rfl rfl ?_ | refine wo_load rfl (rd_ver (by assumption) rfl _ 1 (Nat.le_of_ble_eq_true rfl)) rfl rfl rfl rfl rfl ?_)
      refine wo_at _ rfl ha rfl rfl rfl rfl rfl (ints_len _).symm (by omega) (ints_get (by simpa using hix)) (fun p hp => ?_)
      refine wo_load rfl hp rfl rfl rfl rfl rfl ?_
      repeat (first | refine w_seq ?_ | refine w_region env ?_ | refine wo_nil ?_ | refine wo_max rfl rfl rfl rfl ?_ | refine wo_min rfl rfl rfl rfl ?_ | refine wo_pure rfl rfl (fun _ => rfl) rfl rfl ?_ | refine wo_not rfl rfl ?_ | refine wo_load rfl (rd_ver (by assumption) rfl _ 1 (Nat.le_of_ble_eq_true rfl)) rfl rfl rfl rfl rfl ?_)
      refine wo_at _ rfl hb rfl rfl rfl rfl rfl (ints_len _).symm (by omega) (ints_get (by simpa using hiy)) (fun p hp => ?_)
      refine wo_load rfl hp rfl rfl rfl rfl rfl ?_
      repeat (first | refine w_seq ?_ | refine w_region env ?_ | refine wo_nil ?_ | refine wo_max rfl rfl rfl rfl ?_ | refine wo_min rfl rfl rfl rfl ?_ | refine wo_pure rfl rfl (fun _ => rfl) rfl rfl ?_ | refine wo_not rfl rfl ?_ | refine wo_load rfl (rd_ver (by assumption) rfl _ 1 (Nat.le_of_ble_eq_true rfl)) rfl rfl rfl rfl rfl ?_)
      refine w_cond _ rfl ?_ ?_
      · intro hne
        repeat (first | refine w_seq ?_ | refine w_region env ?_ | refine wo_nil ?_ | refine wo_max rfl rfl rfl rfl ?_ | refine wo_min rfl rfl rfl rfl ?_ | refine wo_pure rfl rfl (fun _ => rfl) rfl rfl ?_ | refine wo_not rfl rfl ?_ | refine wo_load rfl (rd_ver (by assumption) rfl _ 1 (Nat.le_of_ble_eq_true rfl)) rfl rfl rfl rfl rfl ?_)
        refine w_ret ?_
        refine ⟨.inr rfl, .refl _, _, rfl, ?_⟩
        simp only [oneOf, Value.bool.injEq]
        have : xs ≠ ys := fun h => by subst h; simp at hne
        simp [this]
      · intro heq
        have hxy : xs[i] = ys[i] := by simpa using heq
        refine w_skip ?_
        repeat (first | refine w_seq ?_ | refine w_region env ?_ | refine wo_nil ?_ | refine wo_max rfl rfl rfl rfl ?_ | refine wo_min rfl rfl rfl rfl ?_ | refine wo_pure rfl rfl (fun _ => rfl) rfl rfl ?_ | refine wo_not rfl rfl ?_ | refine wo_load rfl (rd_ver (by assumption) rfl _ 1 (Nat.le_of_ble_eq_true rfl)) rfl rfl rfl rfl rfl ?_)
        refine ⟨j - 1, [(5, .int .i64 ((i + 1 : Nat) : Int)), (0, .slice a xs.length ca), (1, .slice b ys.length cb)], by omega, Sub.cons (some_int (i64_nat (by omega))) (Sub.cons rfl (Sub.cons rfl Sub.nil)), rfl, i + 1, by omega, ?_, rfl⟩
        rw [List.take_add_one, List.take_add_one, hpre]
        simp [hix, hiy, hxy]
    · intro hge
      have hix : xs.length ≤ i := by simpa using hge
      refine w_exit ?_
      repeat (first | refine w_seq ?_ | refine w_region env ?_ | refine wo_nil ?_ | refine wo_max rfl rfl rfl rfl ?_ | refine wo_min rfl rfl rfl rfl ?_ | refine wo_pure rfl rfl (fun _ => rfl) rfl rfl ?_ | refine wo_not rfl rfl ?_ | refine wo_load rfl (rd_ver (by assumption) rfl _ 1 (Nat.le_of_ble_eq_true rfl)) rfl rfl rfl rfl rfl ?_)
      refine w_ret ?_
      refine ⟨.inr rfl, .refl _, _, rfl, ?_⟩
      simp only [oneOf, Value.bool.injEq]
      have : xs = ys := by rw [← List.take_of_length_le hix, hpre, List.take_of_length_le (by omega)]
      simp [this]

/-- F89 -/
theorem within_fun {A : Hp} (x lo hi : Int) : Fun Tryz.prog 89 [.int .i64 x, .int .i64 lo, .int .i64 hi] A fun v _ => v = .bool (decide (lo ≤ x) && decide (x ≤ hi)) := by
  refine fun_walk (fn := Tryz.f89) Tryz.func89 rfl rfl ?_
  repeat (first | refine w_seq ?_ | refine w_region env ?_ | refine wo_nil ?_ | refine wo_max rfl rfl rfl rfl ?_ | refine wo_min rfl rfl rfl rfl ?_ | refine wo_pure rfl rfl (fun _ => rfl) rfl rfl ?_ | refine wo_not rfl rfl ?_ | refine wo_load rfl (rd_ver (by assumption) rfl _ 1 (Nat.le_of_ble_eq_true rfl)) rfl rfl rfl rfl rfl ?_)
  cases h : decide (x ≥ lo) with
  | true =>
    repeat (first | refine w_seq ?_ | refine w_region env ?_ | refine wo_nil ?_ | refine wo_max rfl rfl rfl rfl ?_ | refine wo_min rfl rfl rfl rfl ?_ | refine wo_pure rfl rfl (fun _ => rfl) rfl rfl ?_ | refine wo_not rfl rfl ?_ | refine wo_load rfl (rd_ver (by assumption) rfl _ 1 (Nat.le_of_ble_eq_true rfl)) rfl rfl rfl rfl rfl ?_)
    refine w_ret ⟨.inr rfl, .refl _, _, rfl, ?_⟩
    simp [oneOf]
  | false =>
    repeat (first | refine w_seq ?_ | refine w_region env ?_ | refine wo_nil ?_ | refine wo_max rfl rfl rfl rfl ?_ | refine wo_min rfl rfl rfl rfl ?_ | refine wo_pure rfl rfl (fun _ => rfl) rfl rfl ?_ | refine wo_not rfl rfl ?_ | refine wo_load rfl (rd_ver (by assumption) rfl _ 1 (Nat.le_of_ble_eq_true rfl)) rfl rfl rfl rfl rfl ?_)
    refine w_ret ⟨.inr rfl, .refl _, _, rfl, ?_⟩
    simp [oneOf]

/-- F36, F91: what is asked of cells. -/
structure CellS where
  mn : Int
  mx : Int
  sg : List Int
  deriving DecidableEq

def CellR (A : Hp) (row : List Value) (c : CellS) : Prop := ∃ a cap, row = [.int .i64 c.mn, .int .i64 c.mx, .slice a c.sg.length cap] ∧ Sl A a 1 (ints c.sg) ∧ (c.sg = [] → a = none)

def CellsR (A : Hp) (rows : List (List Value)) (cs : List CellS) : Prop := rows.length = cs.length ∧ ∀ (i : Nat) (h : i < cs.length), ∃ row, rows[i]? = some row ∧ CellR A row cs[i]

def subs3 : List (List Int) := [[], [0], [1], [0, 1], [2], [0, 2], [1, 2], [0, 1, 2]]

structure CellOK (c : CellS) : Prop where
  lo : 0 ≤ c.mn
  le : c.mn ≤ c.mx
  hi : c.mx ≤ 9
  sg : c.sg ∈ subs3

/-- Strictly ascending, from 0 to below n. -/
def Rise (n : Int) (xs : List Int) : Prop := ∀ (i : Nat) (h : i < xs.length), 0 ≤ xs[i] ∧ xs[i] ≤ n - 1 ∧ (∀ h0 : 0 < i, xs[i - 1]'(by omega) < xs[i])

/-- F148 -/
theorem rising_fun {A : Hp} {a : Option Addr} {xs : List Int} {ca : Nat} {n : Int} (ha : Sl A a 1 (ints xs)) (hx : Rise n xs) (hn : 0 ≤ n ∧ n ≤ 1000000) (hbig : xs.length ≤ 1000000) :
    Fun Tryz.prog 148 [.slice a xs.length ca, .int .i64 n] A fun v _ => v = .bool true := by
  replace ha := ha.ro
  refine fun_walk (fn := Tryz.f148) Tryz.func148 rfl rfl ?_
  repeat (first | refine w_seq ?_ | refine w_region env ?_ | refine wo_nil ?_ | refine wo_max rfl rfl rfl rfl ?_ | refine wo_min rfl rfl rfl rfl ?_ | refine wo_pure rfl rfl (fun _ => rfl) rfl rfl ?_ | refine wo_not rfl rfl ?_ | refine wo_load rfl (rd_ver (by assumption) rfl _ 1 (Nat.le_of_ble_eq_true rfl)) rfl rfl rfl rfl rfl ?_)
  refine w_block ?_
  refine w_loop (fun j m' B => Gr (roH A) B ∧ ∃ i : Nat, j + i = xs.length ∧ m' = [(9, .int .i64 i), (8, .int .i64 xs.length), (7, .slice a xs.length ca), (0, .slice a xs.length ca), (1, .int .i64 n)]) xs.length
    (Sub.cons rfl (Sub.cons rfl (Sub.cons rfl (Sub.cons rfl (Sub.cons rfl Sub.nil))))) ⟨.refl _, 0, by omega, rfl⟩ ?_
  rintro j m' B ⟨hg, i, hji, rfl⟩
  repeat (first | refine w_seq ?_ | refine w_region env ?_ | refine wo_nil ?_ | refine wo_max rfl rfl rfl rfl ?_ | refine wo_min rfl rfl rfl rfl ?_ | refine wo_pure rfl rfl (fun _ => rfl) rfl rfl ?_ | refine wo_not rfl rfl ?_ | refine wo_load rfl (rd_ver (by assumption) rfl _ 1 (Nat.le_of_ble_eq_true rfl)) rfl rfl rfl rfl rfl ?_)
  refine w_cond _ rfl ?_ ?_
  · intro hlt
    have hix : i < xs.length := by simpa using hlt
    have haB : Sl B a 1 (ints xs) := ha.pre hg.pre
    obtain ⟨x0, x1, x2⟩ := hx i hix
    refine w_skip ?_
    refine w_seq (w_block ?_)
    repeat (first | refine w_seq ?_ | refine w_region env ?_ | refine wo_nil ?_ | refine wo_max rfl rfl rfl rfl ?_ | refine wo_min rfl rfl rfl rfl ?_ | refine wo_pure rfl rfl (fun _ => rfl) rfl rfl ?_ | refine wo_not rfl rfl ?_ | refine wo_load rfl (rd_ver (by assumption) rfl _ 1 (Nat.le_of_ble_eq_true rfl)) rfl rfl rfl rfl rfl ?_)
    refine wo_at _ rfl haB rfl rfl rfl rfl rfl (ints_len _).symm (by omega) (ints_get (by simpa using hix)) (fun p hp => ?_)
    refine wo_load rfl hp rfl rfl rfl rfl rfl ?_
    repeat (first | refine w_seq ?_ | refine w_region env ?_ | refine wo_nil ?_ | refine wo_max rfl rfl rfl rfl ?_ | refine wo_min rfl rfl rfl rfl ?_ | refine wo_pure rfl rfl (fun _ => rfl) rfl rfl ?_ | refine wo_not rfl rfl ?_ | refine wo_load rfl (rd_ver (by assumption) rfl _ 1 (Nat.le_of_ble_eq_true rfl)) rfl rfl rfl rfl rfl ?_)
    refine wo_call1 (within_fun _ _ _) rfl rfl rfl ?_
    · rintro v r hr rfl
      have hg' := hg.app hr
      have e : (decide (0 ≤ xs[(i : Int).toNat]) && decide (xs[(i : Int).toNat] ≤ dwrap .i64 (n - 1))) = true := by
        rw [i64_small (by omega) (by omega)]
        have e : ((i : Int).toNat) = i := by omega
        simp only [e]
        simp [x0, x1]
      rw [e]
      repeat (first | refine w_seq ?_ | refine w_region env ?_ | refine wo_nil ?_ | refine wo_max rfl rfl rfl rfl ?_ | refine wo_min rfl rfl rfl rfl ?_ | refine wo_pure rfl rfl (fun _ => rfl) rfl rfl ?_ | refine wo_not rfl rfl ?_ | refine wo_load rfl (rd_ver (by assumption) rfl _ 1 (Nat.le_of_ble_eq_true rfl)) rfl rfl rfl rfl rfl ?_)
      cases h0 : decide ((i : Int) > 0) with
      | false =>
        repeat (first | refine w_seq ?_ | refine w_region env ?_ | refine wo_nil ?_ | refine wo_max rfl rfl rfl rfl ?_ | refine wo_min rfl rfl rfl rfl ?_ | refine wo_pure rfl rfl (fun _ => rfl) rfl rfl ?_ | refine wo_not rfl rfl ?_ | refine wo_load rfl (rd_ver (by assumption) rfl _ 1 (Nat.le_of_ble_eq_true rfl)) rfl rfl rfl rfl rfl ?_)
        refine w_cond _ rfl (fun h => by cases h) (fun _ => ?_)
        refine w_skip ?_
        repeat (first | refine w_seq ?_ | refine w_region env ?_ | refine wo_nil ?_ | refine wo_max rfl rfl rfl rfl ?_ | refine wo_min rfl rfl rfl rfl ?_ | refine wo_pure rfl rfl (fun _ => rfl) rfl rfl ?_ | refine wo_not rfl rfl ?_ | refine wo_load rfl (rd_ver (by assumption) rfl _ 1 (Nat.le_of_ble_eq_true rfl)) rfl rfl rfl rfl rfl ?_)
        exact ⟨j - 1, [(9, .int .i64 ((i + 1 : Nat) : Int)), (8, .int .i64 xs.length), (7, .slice a xs.length ca), (0, .slice a xs.length ca), (1, .int .i64 n)], by omega,
          Sub.cons (some_int (i64_nat (by omega))) (Sub.cons rfl (Sub.cons rfl (Sub.cons rfl (Sub.cons rfl Sub.nil)))), hg', i + 1, by omega, rfl⟩
      | true =>
        have hi0 : 0 < i := by simpa using h0
        have e1 : dwrap .i64 ((i : Int) - 1) = ((i - 1 : Nat) : Int) := by rw [i64_small (by omega) (by omega)]; omega
        repeat (first | refine w_seq ?_ | refine w_region env ?_ | refine wo_nil ?_ | refine wo_max rfl rfl rfl rfl ?_ | refine wo_min rfl rfl rfl rfl ?_ | refine wo_pure rfl rfl (fun _ => rfl) rfl rfl ?_ | refine wo_not rfl rfl ?_ | refine wo_load rfl (rd_ver (by assumption) rfl _ 1 (Nat.le_of_ble_eq_true rfl)) rfl rfl rfl rfl rfl ?_)
        rw [e1]
        refine wo_at _ rfl (haB.pre ((Pre.refl B).app r)) rfl rfl rfl rfl rfl (ints_len _).symm (by omega) (ints_get (i := i - 1) (by omega)) (fun p hp => ?_)
        refine wo_load rfl hp rfl rfl rfl rfl rfl ?_
        repeat (first | refine w_seq ?_ | refine w_region env ?_ | refine wo_nil ?_ | refine wo_max rfl rfl rfl rfl ?_ | refine wo_min rfl rfl rfl rfl ?_ | refine wo_pure rfl rfl (fun _ => rfl) rfl rfl ?_ | refine wo_not rfl rfl ?_ | refine wo_load rfl (rd_ver (by assumption) rfl _ 1 (Nat.le_of_ble_eq_true rfl)) rfl rfl rfl rfl rfl ?_)
        refine w_cond _ rfl (fun h => ?_) (fun _ => ?_)
        · exfalso
          have := x2 hi0
          have h : xs[i] ≤ xs[i - 1] := by simpa using h
          omega
        refine w_skip ?_
        repeat (first | refine w_seq ?_ | refine w_region env ?_ | refine wo_nil ?_ | refine wo_max rfl rfl rfl rfl ?_ | refine wo_min rfl rfl rfl rfl ?_ | refine wo_pure rfl rfl (fun _ => rfl) rfl rfl ?_ | refine wo_not rfl rfl ?_ | refine wo_load rfl (rd_ver (by assumption) rfl _ 1 (Nat.le_of_ble_eq_true rfl)) rfl rfl rfl rfl rfl ?_)
        exact ⟨j - 1, [(9, .int .i64 ((i + 1 : Nat) : Int)), (8, .int .i64 xs.length), (7, .slice a xs.length ca), (0, .slice a xs.length ca), (1, .int .i64 n)], by omega,
          Sub.cons (some_int (i64_nat (by omega))) (Sub.cons rfl (Sub.cons rfl (Sub.cons rfl (Sub.cons rfl Sub.nil)))), hg', i + 1, by omega, rfl⟩
  · intro hge
    refine w_exit ?_
    repeat (first | refine w_seq ?_ | refine w_region env ?_ | refine wo_nil ?_ | refine wo_max rfl rfl rfl rfl ?_ | refine wo_min rfl rfl rfl rfl ?_ | refine wo_pure rfl rfl (fun _ => rfl) rfl rfl ?_ | refine wo_not rfl rfl ?_ | refine wo_load rfl (rd_ver (by assumption) rfl _ 1 (Nat.le_of_ble_eq_true rfl)) rfl rfl rfl rfl rfl ?_)
    exact w_ret ⟨.inr rfl, hg, _, rfl, rfl⟩
end Go.Proofs.YtdjcbpicdnhciaaGreat
