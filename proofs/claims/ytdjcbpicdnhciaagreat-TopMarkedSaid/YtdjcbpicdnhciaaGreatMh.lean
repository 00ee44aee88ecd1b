/- The program's walls: lines are right. -/
import Derived.Test.YtdjcbpicdnhciaaGreatMg
set_option linter.unusedVariables false
set_option linter.unusedSimpArgs false
open Go Go.Dx Go.Proofs
namespace Go.Proofs.YtdjcbpicdnhciaaGreat
set_option maxRecDepth 20000

/-- F146, where the function says no of all -/
theorem indexFunc_fun {A : Hp} {a : Option Addr} {xs : List Int} {ca : Nat} {g : FuncId} {cv : Value} (ha : Sl A a 1 (ints xs)) (hbig : xs.length ≤ 1000000)
    (hg : ∀ B, Pre (roH A) B → ∀ x ∈ xs, Fun Tryz.prog g [.int .i64 x, cv] B fun v _ => v = .bool false) :
    Fun Tryz.prog 146 [.slice a xs.length ca, .func (.func g) #[] #[cv]] A fun v _ => v = .int .i64 (-1) := by
  replace ha := ha.ro
  refine fun_walk (fn := Tryz.f146) Tryz.func146 rfl rfl ?_
  repeat (first | refine w_seq ?_ | refine w_region env ?_ | refine wo_nil ?_ | refine wo_max rfl rfl rfl rfl ?_ | refine wo_min rfl rfl rfl rfl ?_ | refine wo_pure rfl rfl (fun _ => rfl) rfl rfl ?_ | refine wo_not rfl rfl ?_ | refine wo_load rfl (rd_ver (by assumption) rfl _ 1 (Nat.le_of_ble_eq_true rfl)) rfl rfl rfl rfl rfl ?_)
  refine w_block ?_
  refine w_loop (fun j m' B => Gr (roH A) B ∧ ∃ i : Nat, j + i = xs.length ∧ m' = [(8, .int .i64 i), (7, .int .i64 xs.length), (0, .slice a xs.length ca), (1, .func (.func g) #[] #[cv])]) xs.length
    (Sub.cons rfl (Sub.cons rfl (Sub.cons rfl (Sub.cons rfl Sub.nil)))) ⟨.refl _, 0, by omega, rfl⟩ ?_
  rintro j m' B ⟨hgr, i, hji, rfl⟩
  repeat (first | refine w_seq ?_ | refine w_region env ?_ | refine wo_nil ?_ | refine wo_max rfl rfl rfl rfl ?_ | refine wo_min rfl rfl rfl rfl ?_ | refine wo_pure rfl rfl (fun _ => rfl) rfl rfl ?_ | refine wo_not rfl rfl ?_ | refine wo_load rfl (rd_ver (by assumption) rfl _ 1 (Nat.le_of_ble_eq_true rfl)) rfl rfl rfl rfl rfl ?_)
  refine w_cond _ rfl ?_ ?_
  · intro hlt
    have hix : i < xs.length := by simpa using hlt
    refine w_skip ?_
    refine w_seq (w_block ?_)
    repeat (first | refine w_seq ?_ | refine w_region env ?_ | refine wo_nil ?_ | refine wo_max rfl rfl rfl rfl ?_ | refine wo_min rfl rfl rfl rfl ?_ | refine wo_pure rfl rfl (fun _ => rfl) rfl rfl ?_ | refine wo_not rfl rfl ?_ | refine wo_load rfl (rd_ver (by assumption) rfl _ 1 (Nat.le_of_ble_eq_true rfl)) rfl rfl rfl rfl rfl ?_)
    refine wo_at _ rfl (ha.pre hgr.pre) rfl rfl rfl rfl rfl (ints_len _).symm (by omega) (ints_get (by simpa using hix)) (fun p hp => ?_)
    refine wo_load rfl hp rfl rfl rfl rfl rfl ?_
    refine wo_call1 (hg B hgr.pre xs[i] (by simp)) rfl rfl rfl ?_
    rintro v r hr rfl
    repeat (first | refine w_seq ?_ | refine w_region env ?_ | refine wo_nil ?_ | refine wo_max rfl rfl rfl rfl ?_ | refine wo_min rfl rfl rfl rfl ?_ | refine wo_pure rfl rfl (fun _ => rfl) rfl rfl ?_ | refine wo_not rfl rfl ?_ | refine wo_load rfl (rd_ver (by assumption) rfl _ 1 (Nat.le_of_ble_eq_true rfl)) rfl rfl rfl rfl rfl ?_)
    refine w_cond _ rfl (fun h => by cases h) (fun _ => ?_)
    refine w_skip ?_
    repeat (first | refine w_seq ?_ | refine w_region env ?_ | refine wo_nil ?_ | refine wo_max rfl rfl rfl rfl ?_ | refine wo_min rfl rfl rfl rfl ?_ | refine wo_pure rfl rfl (fun _ => rfl) rfl rfl ?_ | refine wo_not rfl rfl ?_ | refine wo_load rfl (rd_ver (by assumption) rfl _ 1 (Nat.le_of_ble_eq_true rfl)) rfl rfl rfl rfl rfl ?_)
    exact ⟨j - 1, [(8, .int .i64 ((i + 1 : Nat) : Int)), (7, .int .i64 xs.length), (0, .slice a xs.length ca), (1, .func (.func g) #[] #[cv])], by omega,
      Sub.cons (some_int (i64_nat (by omega))) (Sub.cons rfl (Sub.cons rfl (Sub.cons rfl Sub.nil))), hgr.app hr, i + 1, by omega, rfl⟩
  · intro hge
    refine w_exit ?_
    repeat (first | refine w_seq ?_ | refine w_region env ?_ | refine wo_nil ?_ | refine wo_max rfl rfl rfl rfl ?_ | refine wo_min rfl rfl rfl rfl ?_ | refine wo_pure rfl rfl (fun _ => rfl) rfl rfl ?_ | refine wo_not rfl rfl ?_ | refine wo_load rfl (rd_ver (by assumption) rfl _ 1 (Nat.le_of_ble_eq_true rfl)) rfl rfl rfl rfl rfl ?_)
    exact w_ret ⟨.inr rfl, hgr, _, rfl, rfl⟩

/-- F87, where the function says no of all -/
theorem containsFunc_fun {A : Hp} {a : Option Addr} {xs : List Int} {ca : Nat} {g : FuncId} {cv : Value} (ha : Sl A a 1 (ints xs)) (hbig : xs.length ≤ 1000000)
    (hg : ∀ B, Pre (roH A) B → ∀ x ∈ xs, Fun Tryz.prog g [.int .i64 x, cv] B fun v _ => v = .bool false) :
    Fun Tryz.prog 87 [.slice a xs.length ca, .func (.func g) #[] #[cv]] A fun v _ => v = .bool false := by
  refine fun_walk (fn := Tryz.f87) Tryz.func87 rfl rfl ?_
  repeat (first | refine w_seq ?_ | refine w_region env ?_ | refine wo_nil ?_ | refine wo_max rfl rfl rfl rfl ?_ | refine wo_min rfl rfl rfl rfl ?_ | refine wo_pure rfl rfl (fun _ => rfl) rfl rfl ?_ | refine wo_not rfl rfl ?_ | refine wo_load rfl (rd_ver (by assumption) rfl _ 1 (Nat.le_of_ble_eq_true rfl)) rfl rfl rfl rfl rfl ?_)
  refine wo_call1 (indexFunc_fun ha.ro hbig (fun B hB x hx => hg B (Pre.trans ?_ hB) x hx)) rfl rfl rfl ?_
  · have : roH (roH A) = roH A := by
      simp only [roH, List.map_map]
      congr 1
      funext o
      cases o <;> rfl
    rw [this]; exact .refl _
  rintro v r hr rfl
  repeat (first | refine w_seq ?_ | refine w_region env ?_ | refine wo_nil ?_ | refine wo_max rfl rfl rfl rfl ?_ | refine wo_min rfl rfl rfl rfl ?_ | refine wo_pure rfl rfl (fun _ => rfl) rfl rfl ?_ | refine wo_not rfl rfl ?_ | refine wo_load rfl (rd_ver (by assumption) rfl _ 1 (Nat.le_of_ble_eq_true rfl)) rfl rfl rfl rfl rfl ?_)
  exact w_ret ⟨.inr rfl, (Gr.refl _).app hr, _, rfl, rfl⟩

/-- A number in memory. -/
def HasInt (A : Hp) (i : Nat) (n : Int) : Prop := ∃ b, A[i]? = some (.cells b) ∧ b.cs = [.int .i64 n] ∧ b.ver = 0

theorem HasInt.ro {A : Hp} {i : Nat} {n : Int} (h : HasInt A i n) : HasInt (roH A) i n := by
  obtain ⟨b, h1, h2, h3⟩ := h
  exact ⟨{ b with ro := true }, by rw [roH_at, h1]; rfl, h2, h3⟩

theorem HasInt.pre {A B : Hp} (hp : Pre A B) {i : Nat} {n : Int} (h : HasInt A i n) : HasInt B i n := by
  obtain ⟨b, h1, h2⟩ := h
  exact ⟨b, hp.at h1, h2⟩

theorem HasInt.rd {A : Hp} {i : Nat} {n : Int} (h : HasInt A i n) : rd A ⟨i, 0, some 0⟩ 1 = some [.int .i64 n] := by
  obtain ⟨b, h1, h2, h3⟩ := h
  have := rd_ver h1 h3 0 1 (by rw [h2]; simp)
  rw [this, h2]; rfl

/-- F88 -/
theorem ofOut_fun {A : Hp} {i : Nat} {x n : Int} (h : HasInt A i n) (hn : 0 ≤ n ∧ n ≤ 1000000) (hx : 0 ≤ x ∧ x ≤ n - 1) :
    Fun Tryz.prog 88 [.int .i64 x, .pointer (some ⟨i, 0, some 0⟩)] A fun v _ => v = .bool false := by
  replace h := h.ro
  refine fun_walk (fn := Tryz.f88) Tryz.func88 rfl rfl ?_
  repeat (first | refine w_seq ?_ | refine w_region env ?_ | refine wo_nil ?_ | refine wo_max rfl rfl rfl rfl ?_ | refine wo_min rfl rfl rfl rfl ?_ | refine wo_pure rfl rfl (fun _ => rfl) rfl rfl ?_ | refine wo_not rfl rfl ?_ | refine wo_load rfl (rd_ver (by assumption) rfl _ 1 (Nat.le_of_ble_eq_true rfl)) rfl rfl rfl rfl rfl ?_)
  refine wo_load rfl h.rd rfl rfl rfl rfl rfl ?_
  repeat (first | refine w_seq ?_ | refine w_region env ?_ | refine wo_nil ?_ | refine wo_max rfl rfl rfl rfl ?_ | refine wo_min rfl rfl rfl rfl ?_ | refine wo_pure rfl rfl (fun _ => rfl) rfl rfl ?_ | refine wo_not rfl rfl ?_ | refine wo_load rfl (rd_ver (by assumption) rfl _ 1 (Nat.le_of_ble_eq_true rfl)) rfl rfl rfl rfl rfl ?_)
  refine wo_call1 (within_fun _ _ _) rfl rfl rfl ?_
  rintro v r hr rfl
  have e : (decide (0 ≤ x) && decide (x ≤ dwrap .i64 (n - 1))) = true := by
    rw [i64_small (by omega) (by omega)]
    simp [hx.1, hx.2]
  rw [e]
  repeat (first | refine w_seq ?_ | refine w_region env ?_ | refine wo_nil ?_ | refine wo_max rfl rfl rfl rfl ?_ | refine wo_min rfl rfl rfl rfl ?_ | refine wo_pure rfl rfl (fun _ => rfl) rfl rfl ?_ | refine wo_not rfl rfl ?_ | refine wo_load rfl (rd_ver (by assumption) rfl _ 1 (Nat.le_of_ble_eq_true rfl)) rfl rfl rfl rfl rfl ?_)
  exact w_ret ⟨.inr rfl, (Gr.refl _).app hr, _, rfl, rfl⟩

/-- F210 -/
theorem lineOut_fun {A : Hp} {i : Nat} {x n : Int} (h : HasInt A i n) (hn : 0 ≤ n ∧ n ≤ 1000000) (hx : 0 ≤ x ∧ x ≤ n - 1) :
    Fun Tryz.prog 210 [.int .i64 x, .pointer (some ⟨i, 0, some 0⟩)] A fun v _ => v = .bool false := by
  replace h := h.ro
  refine fun_walk (fn := Tryz.f210) Tryz.func210 rfl rfl ?_
  repeat (first | refine w_seq ?_ | refine w_region env ?_ | refine wo_nil ?_ | refine wo_max rfl rfl rfl rfl ?_ | refine wo_min rfl rfl rfl rfl ?_ | refine wo_pure rfl rfl (fun _ => rfl) rfl rfl ?_ | refine wo_not rfl rfl ?_ | refine wo_load rfl (rd_ver (by assumption) rfl _ 1 (Nat.le_of_ble_eq_true rfl)) rfl rfl rfl rfl rfl ?_)
  refine wo_load rfl h.rd rfl rfl rfl rfl rfl ?_
  repeat (first | refine w_seq ?_ | refine w_region env ?_ | refine wo_nil ?_ | refine wo_max rfl rfl rfl rfl ?_ | refine wo_min rfl rfl rfl rfl ?_ | refine wo_pure rfl rfl (fun _ => rfl) rfl rfl ?_ | refine wo_not rfl rfl ?_ | refine wo_load rfl (rd_ver (by assumption) rfl _ 1 (Nat.le_of_ble_eq_true rfl)) rfl rfl rfl rfl rfl ?_)
  refine wo_call1 (within_fun _ _ _) rfl rfl rfl ?_
  rintro v r hr rfl
  have e : (decide (0 ≤ x) && decide (x ≤ dwrap .i64 (n - 1))) = true := by
    rw [i64_small (by omega) (by omega)]
    simp [hx.1, hx.2]
  rw [e]
  repeat (first | refine w_seq ?_ | refine w_region env ?_ | refine wo_nil ?_ | refine wo_max rfl rfl rfl rfl ?_ | refine wo_min rfl rfl rfl rfl ?_ | refine wo_pure rfl rfl (fun _ => rfl) rfl rfl ?_ | refine wo_not rfl rfl ?_ | refine wo_load rfl (rd_ver (by assumption) rfl _ 1 (Nat.le_of_ble_eq_true rfl)) rfl rfl rfl rfl rfl ?_)
  exact w_ret ⟨.inr rfl, (Gr.refl _).app hr, _, rfl, rfl⟩

/-- F151, of one line -/
theorem checkLines_fun {A : Hp} {l a : Option Addr} {xs : List Int} {cl ca : Nat} {n : Int} (hl : Sl A l 1 [[.slice a xs.length ca]]) (ha : Sl A a 1 (ints xs)) (hbig : xs.length ≤ 60) (hn : 0 ≤ n ∧ n ≤ 1000000) (hx : ∀ x ∈ xs, 0 ≤ x ∧ x ≤ n - 1) :
    Fun Tryz.prog 151 [.int .i64 n, .slice l 1 cl] A fun v _ => v = .int .i64 0 := by
  replace hl := hl.ro
  replace ha := ha.ro
  refine fun_walk (fn := Tryz.f151) Tryz.func151 rfl rfl ?_
  refine w_seq (w_region env ?_)
  refine wo_alloc (b := ⟨[.int .i64 n], false, false, 1, 0⟩) rfl rfl (fun _ => rfl) rfl rfl rfl (fun i1 B1 ⟨h1, g1, q1, p1, x1, l1⟩ => ?_)
  have hg1 := (g1 _ (.refl _)).1
  repeat (first | refine w_seq ?_ | refine w_region env ?_ | refine wo_nil ?_ | refine wo_max rfl rfl rfl rfl ?_ | refine wo_min rfl rfl rfl rfl ?_ | refine wo_pure rfl rfl (fun _ => rfl) rfl rfl ?_ | refine wo_not rfl rfl ?_ | refine wo_load rfl (rd_ver (by assumption) rfl _ 1 (Nat.le_of_ble_eq_true rfl)) rfl rfl rfl rfl rfl ?_)
  refine w_block ?_
  refine w_loop (fun j m' B => Gr (roH A) B ∧ HasInt B i1 n ∧ ∃ i : Nat, j + i = 1 ∧ m' = [(9, .int .i64 i), (8, .int .i64 1), (7, .slice l 1 cl), (2, .pointer (some ⟨i1, 0, some 0⟩)), (0, .int .i64 n), (1, .slice l 1 cl)]) 1
    (Sub.cons rfl (Sub.cons rfl (Sub.cons rfl (Sub.cons rfl (Sub.cons rfl (Sub.cons rfl Sub.nil)))))) ⟨hg1, ⟨_, h1, rfl, rfl⟩, 0, by omega, rfl⟩ ?_
  rintro j m' B ⟨hgr, hint, i, hji, rfl⟩
  repeat (first | refine w_seq ?_ | refine w_region env ?_ | refine wo_nil ?_ | refine wo_max rfl rfl rfl rfl ?_ | refine wo_min rfl rfl rfl rfl ?_ | refine wo_pure rfl rfl (fun _ => rfl) rfl rfl ?_ | refine wo_not rfl rfl ?_ | refine wo_load rfl (rd_ver (by assumption) rfl _ 1 (Nat.le_of_ble_eq_true rfl)) rfl rfl rfl rfl rfl ?_)
  refine w_cond _ rfl ?_ ?_
  · intro hlt
    have hi0 : i = 0 := by simp at hlt; omega
    subst hi0
    refine w_skip ?_
    refine w_seq (w_block ?_)
    repeat (first | refine w_seq ?_ | refine w_region env ?_ | refine wo_nil ?_ | refine wo_max rfl rfl rfl rfl ?_ | refine wo_min rfl rfl rfl rfl ?_ | refine wo_pure rfl rfl (fun _ => rfl) rfl rfl ?_ | refine wo_not rfl rfl ?_ | refine wo_load rfl (rd_ver (by assumption) rfl _ 1 (Nat.le_of_ble_eq_true rfl)) rfl rfl rfl rfl rfl ?_)
    refine wo_at [.slice a xs.length ca] rfl (hl.pre hgr.pre) rfl rfl rfl rfl rfl rfl (by omega) rfl (fun p hp => ?_)
    refine wo_load rfl hp rfl rfl rfl rfl rfl ?_
    repeat (first | refine w_seq ?_ | refine w_region env ?_ | refine wo_nil ?_ | refine wo_max rfl rfl rfl rfl ?_ | refine wo_min rfl rfl rfl rfl ?_ | refine wo_pure rfl rfl (fun _ => rfl) rfl rfl ?_ | refine wo_not rfl rfl ?_ | refine wo_load rfl (rd_ver (by assumption) rfl _ 1 (Nat.le_of_ble_eq_true rfl)) rfl rfl rfl rfl rfl ?_)
    refine w_cond _ rfl (fun h => by simp at h; omega) (fun _ => ?_)
    refine w_skip ?_
    repeat (first | refine w_seq ?_ | refine w_region env ?_ | refine wo_nil ?_ | refine wo_max rfl rfl rfl rfl ?_ | refine wo_min rfl rfl rfl rfl ?_ | refine wo_pure rfl rfl (fun _ => rfl) rfl rfl ?_ | refine wo_not rfl rfl ?_ | refine wo_load rfl (rd_ver (by assumption) rfl _ 1 (Nat.le_of_ble_eq_true rfl)) rfl rfl rfl rfl rfl ?_)
    refine wo_call1 (containsFunc_fun (ha.pre hgr.pre) (by omega) (fun B2 hB2 x hxm => lineOut_fun (hint.ro.pre hB2) hn (hx x hxm))) rfl rfl rfl ?_
    rintro v r hr rfl
    repeat (first | refine w_seq ?_ | refine w_region env ?_ | refine wo_nil ?_ | refine wo_max rfl rfl rfl rfl ?_ | refine wo_min rfl rfl rfl rfl ?_ | refine wo_pure rfl rfl (fun _ => rfl) rfl rfl ?_ | refine wo_not rfl rfl ?_ | refine wo_load rfl (rd_ver (by assumption) rfl _ 1 (Nat.le_of_ble_eq_true rfl)) rfl rfl rfl rfl rfl ?_)
    refine w_cond _ rfl (fun h => by cases h) (fun _ => ?_)
    refine w_skip ?_
    repeat (first | refine w_seq ?_ | refine w_region env ?_ | refine wo_nil ?_ | refine wo_max rfl rfl rfl rfl ?_ | refine wo_min rfl rfl rfl rfl ?_ | refine wo_pure rfl rfl (fun _ => rfl) rfl rfl ?_ | refine wo_not rfl rfl ?_ | refine wo_load rfl (rd_ver (by assumption) rfl _ 1 (Nat.le_of_ble_eq_true rfl)) rfl rfl rfl rfl rfl ?_)
    exact ⟨0, [(9, .int .i64 ((1 : Nat) : Int)), (8, .int .i64 1), (7, .slice l 1 cl), (2, .pointer (some ⟨i1, 0, some 0⟩)), (0, .int .i64 n), (1, .slice l 1 cl)], by omega,
      Sub.cons rfl (Sub.cons rfl (Sub.cons rfl (Sub.cons rfl (Sub.cons rfl (Sub.cons rfl Sub.nil))))), hgr.app hr, hint.pre ((Pre.refl B).app r), 1, by omega, rfl⟩
  · intro hge
    refine w_exit ?_
    repeat (first | refine w_seq ?_ | refine w_region env ?_ | refine wo_nil ?_ | refine wo_max rfl rfl rfl rfl ?_ | refine wo_min rfl rfl rfl rfl ?_ | refine wo_pure rfl rfl (fun _ => rfl) rfl rfl ?_ | refine wo_not rfl rfl ?_ | refine wo_load rfl (rd_ver (by assumption) rfl _ 1 (Nat.le_of_ble_eq_true rfl)) rfl rfl rfl rfl rfl ?_)
    exact w_ret ⟨.inr rfl, hgr, _, rfl, rfl⟩

/-- F93, of one line -/
theorem wcheck_fun {A : Hp} {i : Nat} {a l x : Option Addr} {rows : List (List Value)} {cs : List CellS} {ca cl cx : Nat} {xs : List Int} (hs : HasSigns A i) (ha : Sl A a 3 rows) (hr : CellsR A rows cs) (hok : ∀ c ∈ cs, CellOK' 3 c) (hlen : cs.length ≤ 6)
    (hl : Sl A l 1 [[.slice x xs.length cx]]) (hx : Sl A x 1 (ints xs)) (hbig : xs.length ≤ 60) (hxs : ∀ x ∈ xs, 0 ≤ x ∧ x ≤ 2) :
    Fun Tryz.prog 93 [listV i, .slice a rows.length ca, .slice l 1 cl] A fun v _ => v = .int .i64 0 := by
  replace hs := hs.ro
  replace ha := ha.ro
  replace hr := hr.ro
  replace hl := hl.ro
  replace hx := hx.ro
  refine fun_walk (fn := Tryz.f93) Tryz.func93 rfl rfl ?_
  refine w_seq (w_region env ?_)
  refine wo_alloc (b := ⟨[.int .i64 1, .slice (some ⟨i, 0, some 0⟩) 3 3], false, false, 1, 0⟩) rfl rfl (fun _ => rfl) rfl rfl rfl (fun i1 B1 ⟨h1, g1, q1, p1, _, _⟩ => ?_)
  have hg1 := (g1 _ (.refl _)).1
  repeat (first | refine w_seq ?_ | refine w_region env ?_ | refine wo_nil ?_ | refine wo_max rfl rfl rfl rfl ?_ | refine wo_min rfl rfl rfl rfl ?_ | refine wo_pure rfl rfl (fun _ => rfl) rfl rfl ?_ | refine wo_not rfl rfl ?_ | refine wo_load rfl (rd_ver (by assumption) rfl _ 1 (Nat.le_of_ble_eq_true rfl)) rfl rfl rfl rfl rfl ?_)
  refine wo_loads rfl (rd_ver h1 rfl _ 2 (Nat.le_of_ble_eq_true rfl)) rfl rfl rfl rfl rfl rfl ?_
  repeat (first | refine w_seq ?_ | refine w_region env ?_ | refine wo_nil ?_ | refine wo_max rfl rfl rfl rfl ?_ | refine wo_min rfl rfl rfl rfl ?_ | refine wo_pure rfl rfl (fun _ => rfl) rfl rfl ?_ | refine wo_not rfl rfl ?_ | refine wo_load rfl (rd_ver (by assumption) rfl _ 1 (Nat.le_of_ble_eq_true rfl)) rfl rfl rfl rfl rfl ?_)
  refine wo_call1 (wallCheck_fun (hs.pre p1) (ha.pre p1) (hr.pre p1) hok hlen) rfl rfl rfl ?_
  rintro v r hr1 rfl
  have hg2 := hg1.app hr1
  have h2 := at_app h1 r
  generalize B1 ++ r = B2 at *
  repeat (first | refine w_seq ?_ | refine w_region env ?_ | refine wo_nil ?_ | refine wo_max rfl rfl rfl rfl ?_ | refine wo_min rfl rfl rfl rfl ?_ | refine wo_pure rfl rfl (fun _ => rfl) rfl rfl ?_ | refine wo_not rfl rfl ?_ | refine wo_load rfl (rd_ver (by assumption) rfl _ 1 (Nat.le_of_ble_eq_true rfl)) rfl rfl rfl rfl rfl ?_)
  refine w_cond _ rfl (fun h => by cases h) (fun _ => ?_)
  refine w_skip ?_
  repeat (first | refine w_seq ?_ | refine w_region env ?_ | refine wo_nil ?_ | refine wo_max rfl rfl rfl rfl ?_ | refine wo_min rfl rfl rfl rfl ?_ | refine wo_pure rfl rfl (fun _ => rfl) rfl rfl ?_ | refine wo_not rfl rfl ?_ | refine wo_load rfl (rd_ver (by assumption) rfl _ 1 (Nat.le_of_ble_eq_true rfl)) rfl rfl rfl rfl rfl ?_)
  refine wo_call1 (checkLines_fun (n := 3) (hl.pre hg2.pre) (hx.pre hg2.pre) hbig (by omega) (fun z hz => by have := hxs z hz; omega)) rfl rfl rfl ?_
  rintro v r2 hr2 rfl
  repeat (first | refine w_seq ?_ | refine w_region env ?_ | refine wo_nil ?_ | refine wo_max rfl rfl rfl rfl ?_ | refine wo_min rfl rfl rfl rfl ?_ | refine wo_pure rfl rfl (fun _ => rfl) rfl rfl ?_ | refine wo_not rfl rfl ?_ | refine wo_load rfl (rd_ver (by assumption) rfl _ 1 (Nat.le_of_ble_eq_true rfl)) rfl rfl rfl rfl rfl ?_)
  exact w_ret ⟨.inr rfl, hg2.app hr2, _, rfl, rfl⟩
end Go.Proofs.YtdjcbpicdnhciaaGreat
