/- The program's copies of the library's functions over rows of numbers: Index, Contains, Equal, Clone. -/
import Derived.Test.YtdjcbpicdnhciaaGreatMa
set_option linter.unusedVariables false
set_option linter.unusedSimpArgs false
open Go Go.Dx Go.Proofs
namespace Go.Proofs.YtdjcbpicdnhciaaGreat
set_option maxRecDepth 20000

theorem take_succ_mem {xs : List Int} {i : Nat} {x : Int} (h : i < xs.length) : x ∈ xs.take (i + 1) ↔ x ∈ xs.take i ∨ x = xs[i] := by
  rw [List.take_add_one, List.mem_append]
  simp [h]

/-- F209 -/
theorem index_fun {A : Hp} {a : Option Addr} {xs : List Int} {ca : Nat} {x : Int} (ha : Sl A a 1 (ints xs)) (hbig : xs.length ≤ 1000000) :
    Fun Tryz.prog 209 [.slice a xs.length ca, .int .i64 x] A fun v _ => ∃ z : Int, v = .int .i64 z ∧ (0 ≤ z ↔ x ∈ xs) := by
  replace ha := ha.ro
  refine fun_walk (fn := Tryz.f209) Tryz.func209 rfl rfl ?_
  repeat (first | refine w_seq ?_ | refine w_region env ?_ | refine wo_nil ?_ | refine wo_max rfl rfl rfl rfl ?_ | refine wo_min rfl rfl rfl rfl ?_ | refine wo_pure rfl rfl (fun _ => rfl) rfl rfl ?_ | refine wo_not rfl rfl ?_ | refine wo_load rfl (rd_ver (by assumption) rfl _ 1 (Nat.le_of_ble_eq_true rfl)) rfl rfl rfl rfl rfl ?_)
  refine w_block ?_
  refine w_loop (fun j m' B => B = roH A ∧ ∃ i : Nat, j + i = xs.length ∧ x ∉ xs.take i ∧ m' = [(8, .int .i64 i), (7, .int .i64 xs.length), (0, .slice a xs.length ca), (1, .int .i64 x)]) xs.length
    (Sub.cons rfl (Sub.cons rfl (Sub.cons rfl (Sub.cons rfl Sub.nil)))) ⟨rfl, 0, by omega, by simp, rfl⟩ ?_
  rintro j m' B ⟨rfl, i, hji, hno, rfl⟩
  repeat (first | refine w_seq ?_ | refine w_region env ?_ | refine wo_nil ?_ | refine wo_max rfl rfl rfl rfl ?_ | refine wo_min rfl rfl rfl rfl ?_ | refine wo_pure rfl rfl (fun _ => rfl) rfl rfl ?_ | refine wo_not rfl rfl ?_ | refine wo_load rfl (rd_ver (by assumption) rfl _ 1 (Nat.le_of_ble_eq_true rfl)) rfl rfl rfl rfl rfl ?_)
  refine w_cond _ rfl ?_ ?_
  · intro hlt
    have hix : i < xs.length := by simpa using hlt
    refine w_skip ?_
    refine w_seq (w_block ?_)
    repeat (first | refine w_seq ?_ | refine w_region env ?_ | refine wo_nil ?_ | refine wo_max rfl rfl rfl rfl ?_ | refine wo_min rfl rfl rfl rfl ?_ | refine wo_pure rfl rfl (fun _ => rfl) rfl rfl ?_ | refine wo_not rfl rfl ?_ | refine wo_load rfl (rd_ver (by assumption) rfl _ 1 (Nat.le_of_ble_eq_true rfl)) rfl rfl rfl rfl rfl ?_)
    refine wo_at _ rfl ha rfl rfl rfl rfl rfl (ints_len _).symm (by omega) (ints_get (by simpa using hix)) (fun p hp => ?_)
    refine wo_load rfl hp rfl rfl rfl rfl rfl ?_
    repeat (first | refine w_seq ?_ | refine w_region env ?_ | refine wo_nil ?_ | refine wo_max rfl rfl rfl rfl ?_ | refine wo_min rfl rfl rfl rfl ?_ | refine wo_pure rfl rfl (fun _ => rfl) rfl rfl ?_ | refine wo_not rfl rfl ?_ | refine wo_load rfl (rd_ver (by assumption) rfl _ 1 (Nat.le_of_ble_eq_true rfl)) rfl rfl rfl rfl rfl ?_)
    refine w_cond _ rfl (fun heq => ?_) (fun hne => ?_)
    · repeat (first | refine w_seq ?_ | refine w_region env ?_ | refine wo_nil ?_ | refine wo_max rfl rfl rfl rfl ?_ | refine wo_min rfl rfl rfl rfl ?_ | refine wo_pure rfl rfl (fun _ => rfl) rfl rfl ?_ | refine wo_not rfl rfl ?_ | refine wo_load rfl (rd_ver (by assumption) rfl _ 1 (Nat.le_of_ble_eq_true rfl)) rfl rfl rfl rfl rfl ?_)
      refine w_ret ⟨.inr rfl, .refl _, _, rfl, _, rfl, ?_⟩
      have : x = xs[i] := by simpa using heq
      exact ⟨fun _ => by rw [this]; simp, fun _ => by omega⟩
    · refine w_skip ?_
      repeat (first | refine w_seq ?_ | refine w_region env ?_ | refine wo_nil ?_ | refine wo_max rfl rfl rfl rfl ?_ | refine wo_min rfl rfl rfl rfl ?_ | refine wo_pure rfl rfl (fun _ => rfl) rfl rfl ?_ | refine wo_not rfl rfl ?_ | refine wo_load rfl (rd_ver (by assumption) rfl _ 1 (Nat.le_of_ble_eq_true rfl)) rfl rfl rfl rfl rfl ?_)
      have hne' : x ≠ xs[i] := by simpa using hne
      exact ⟨j - 1, [(8, .int .i64 ((i + 1 : Nat) : Int)), (7, .int .i64 xs.length), (0, .slice a xs.length ca), (1, .int .i64 x)], by omega,
        Sub.cons (some_int (i64_nat (by omega))) (Sub.cons rfl (Sub.cons rfl (Sub.cons rfl Sub.nil))), rfl, i + 1, by omega, by rw [take_succ_mem hix]; simp [hno, hne'], rfl⟩
  · intro hge
    have hix : xs.length ≤ i := by simpa using hge
    refine w_exit ?_
    repeat (first | refine w_seq ?_ | refine w_region env ?_ | refine wo_nil ?_ | refine wo_max rfl rfl rfl rfl ?_ | refine wo_min rfl rfl rfl rfl ?_ | refine wo_pure rfl rfl (fun _ => rfl) rfl rfl ?_ | refine wo_not rfl rfl ?_ | refine wo_load rfl (rd_ver (by assumption) rfl _ 1 (Nat.le_of_ble_eq_true rfl)) rfl rfl rfl rfl rfl ?_)
    rw [List.take_of_length_le hix] at hno
    exact w_ret ⟨.inr rfl, .refl _, _, rfl, _, rfl, by simp [hno]⟩

/-- F150 -/
theorem contains_fun {A : Hp} {a : Option Addr} {xs : List Int} {ca : Nat} {x : Int} (ha : Sl A a 1 (ints xs)) (hbig : xs.length ≤ 1000000) :
    Fun Tryz.prog 150 [.slice a xs.length ca, .int .i64 x] A fun v _ => v = .bool (decide (x ∈ xs)) := by
  replace ha := ha.ro
  refine fun_walk (fn := Tryz.f150) Tryz.func150 rfl rfl ?_
  repeat (first | refine w_seq ?_ | refine w_region env ?_ | refine wo_nil ?_ | refine wo_max rfl rfl rfl rfl ?_ | refine wo_min rfl rfl rfl rfl ?_ | refine wo_pure rfl rfl (fun _ => rfl) rfl rfl ?_ | refine wo_not rfl rfl ?_ | refine wo_load rfl (rd_ver (by assumption) rfl _ 1 (Nat.le_of_ble_eq_true rfl)) rfl rfl rfl rfl rfl ?_)
  refine wo_call1 (index_fun ha hbig) rfl rfl rfl ?_
  rintro v r hr ⟨z, rfl, hz⟩
  repeat (first | refine w_seq ?_ | refine w_region env ?_ | refine wo_nil ?_ | refine wo_max rfl rfl rfl rfl ?_ | refine wo_min rfl rfl rfl rfl ?_ | refine wo_pure rfl rfl (fun _ => rfl) rfl rfl ?_ | refine wo_not rfl rfl ?_ | refine wo_load rfl (rd_ver (by assumption) rfl _ 1 (Nat.le_of_ble_eq_true rfl)) rfl rfl rfl rfl rfl ?_)
  refine w_ret ⟨.inr rfl, (Gr.refl _).app hr, _, rfl, ?_⟩
  simp [oneOf, hz]

/-- F95 -/
theorem equal_fun {A : Hp} {a b : Option Addr} {xs ys : List Int} {ca cb : Nat} (ha : Sl A a 1 (ints xs)) (hb : Sl A b 1 (ints ys)) (hbig : xs.length ≤ 1000000) :
    Fun Tryz.prog 95 [.slice a xs.length ca, .slice b ys.length cb] A fun v _ => v = .bool (decide (xs = ys)) := by
  replace ha := ha.ro
  replace hb := hb.ro
  refine fun_walk (fn := Tryz.f95) Tryz.func95 rfl rfl ?_
  repeat (first | refine w_seq ?_ | refine w_region env ?_ | refine wo_nil ?_ | refine wo_max rfl rfl rfl rfl ?_ | refine wo_min rfl rfl rfl rfl ?_ | refine wo_pure rfl rfl (fun _ => rfl) rfl rfl ?_ | refine wo_not rfl rfl ?_ | refine wo_load rfl (rd_ver (by assumption) rfl _ 1 (Nat.le_of_ble_eq_true rfl)) rfl rfl rfl rfl rfl ?_)
  refine w_cond _ rfl ?_ ?_
  · intro hne
    repeat (first | refine w_seq ?_ | refine w_region env ?_ | refine wo_nil ?_ | refine wo_max rfl rfl rfl rfl ?_ | refine wo_min rfl rfl rfl rfl ?_ | refine wo_pure rfl rfl (fun _ => rfl) rfl rfl ?_ | refine wo_not rfl rfl ?_ | refine wo_load rfl (rd_ver (by assumption) rfl _ 1 (Nat.le_of_ble_eq_true rfl)) rfl rfl rfl rfl rfl ?_)
    refine w_ret ⟨.inr rfl, .refl _, _, rfl, ?_⟩
    simp only [oneOf, Value.bool.injEq]
    have : xs ≠ ys := fun h => by subst h; simp at hne
    simp [this]
  · intro heq
    have hlen : xs.length = ys.length := by simp at heq; omega
    refine w_skip ?_
    repeat (first | refine w_seq ?_ | refine w_region env ?_ | refine wo_nil ?_ | refine wo_max rfl rfl rfl rfl ?_ | refine wo_min rfl rfl rfl rfl ?_ | refine wo_pure rfl rfl (fun _ => rfl) rfl rfl ?_ | refine wo_not rfl rfl ?_ | refine wo_load rfl (rd_ver (by assumption) rfl _ 1 (Nat.le_of_ble_eq_true rfl)) rfl rfl rfl rfl rfl ?_)
    refine w_block ?_
    refine w_loop (fun j m' A' => A' = roH A ∧ ∃ i : Nat, j + i = xs.length ∧ xs.take i = ys.take i ∧ m' = [(13, .int .i64 i), (12, .int .i64 xs.length), (0, .slice a xs.length ca), (1, .slice b ys.length cb)]) xs.length
      (Sub.cons rfl (Sub.cons rfl (Sub.cons rfl (Sub.cons rfl Sub.nil)))) ⟨rfl, 0, by omega, rfl, rfl⟩ ?_
    rintro j m' A' ⟨rfl, i, hji, hpre, rfl⟩
    repeat (first | refine w_seq ?_ | refine w_region env ?_ | refine wo_nil ?_ | refine wo_max rfl rfl rfl rfl ?_ | refine wo_min rfl rfl rfl rfl ?_ | refine wo_pure rfl rfl (fun _ => rfl) rfl rfl ?_ | refine wo_not rfl rfl ?_ | refine wo_load rfl (rd_ver (by assumption) rfl _ 1 (Nat.le_of_ble_eq_true rfl)) rfl rfl rfl rfl rfl ?_)
    refine w_cond _ rfl ?_ ?_
    · intro hlt
      have hix : i < xs.length := by simpa using hlt
      have hiy : i < ys.length := by omega
      refine w_skip ?_
      refine w_seq (w_block ?_)
      repeat (first | refine w_seq ?_ | refine w_region env ?_ | refine wo_nil ?_ | refine wo_max rfl rfl rfl rfl ?_ | refine wo_min rfl rfl rfl rfl ?_ | refine wo_pure rfl rfl (fun _ => rfl) rfl rfl ?_ | refine wo_not rfl rfl ?_ | refine wo_load rfl (rd_ver (by assumption) rfl _ 1 (Nat.le_of_ble_eq_true rfl)) rfl rfl rfl rfl rfl ?_)
      refine w_draw env 8 (by kernel_rfl) ?_
      repeat (first | refine w_seq ?_ | refine w_region env ?_ | refine wo_nil ?_ | refine wo_max rfl rfl rfl rfl ?_ | refine wo_min rfl rfl rfl rfl ?_ | refine wo_pure rfl rfl (fun _ => rfl) rfl rfl ?_ | refine wo_not rfl rfl ?_ | refine wo_load rfl (rd_ver (by assumption) rfl _ 1 (Nat.le_of_ble_eq_true rfl)) rfl rfl rfl rfl rfl ?_)
      refine wo_at _ rfl ha rfl rfl rfl rfl rfl (ints_len _).symm (by omega) (ints_get (by simpa using hix)) (fun p hp => ?_)
      refine wo_load rfl hp rfl rfl rfl rfl rfl ?_
      repeat (first | refine w_seq ?_ | refine w_region env ?_ | refine wo_nil ?_ | refine wo_max rfl rfl rfl rfl ?_ | refine wo_min rfl rfl rfl rfl ?_ | refine wo_pure rfl rfl (fun _ => rfl) rfl rfl ?_ | refine wo_not rfl rfl ?_ | refine wo_load rfl (rd_ver (by assumption) rfl _ 1 (Nat.le_of_ble_eq_true rfl)) rfl rfl rfl rfl rfl ?_)
      refine wo_at _ rfl hb rfl rfl rfl rfl rfl (ints_len _).symm (by omega) (ints_get (by simpa using hiy)) (fun p hp => ?_)
      refine wo_load rfl hp rfl rfl rfl rfl rfl ?_
      repeat (first | refine w_seq ?_ | refine w_region env ?_ | refine wo_nil ?_ | refine wo_max rfl rfl rfl rfl ?_ | refine wo_min rfl rfl rfl rfl ?_ | refine wo_pure rfl rfl (fun _ => rfl) rfl rfl ?_ | refine wo_not rfl rfl ?_ | refine wo_load rfl (rd_ver (by assumption) rfl _ 1 (Nat.le_of_ble_eq_true rfl)) rfl rfl rfl rfl rfl ?_)
      refine w_cond _ rfl ?_ ?_
      · intro hne
        repeat (first | refine w_seq ?_ | refine w_region env ?_ | refine wo_nil ?_ | refine wo_max rfl rfl rfl rfl ?_ | refine wo_min rfl rfl rfl rfl ?_ | refine wo_pure rfl rfl (fun _ => rfl) rfl rfl ?_ | refine wo_not rfl rfl ?_ | refine wo_load rfl (rd_ver (by assumption) rfl _ 1 (Nat.le_of_ble_eq_true rfl)) rfl rfl rfl rfl rfl ?_)
        refine w_ret ⟨.inr rfl, .refl _, _, rfl, ?_⟩
        simp only [oneOf, Value.bool.injEq]
        have : xs ≠ ys := fun h => by subst h; simp at hne
        simp [this]
      · intro heq
        have hxy : xs[i] = ys[i] := by simpa using heq
        refine w_skip ?_
        repeat (first | refine w_seq ?_ | refine w_region env ?_ | refine wo_nil ?_ | refine wo_max rfl rfl rfl rfl ?_ | refine wo_min rfl rfl rfl rfl ?_ | refine wo_pure rfl rfl (fun _ => rfl) rfl rfl ?_ | refine wo_not rfl rfl ?_ | refine wo_load rfl (rd_ver (by assumption) rfl _ 1 (Nat.le_of_ble_eq_true rfl)) rfl rfl rfl rfl rfl ?_)
        refine ⟨j - 1, [(13, .int .i64 ((i + 1 : Nat) : Int)), (12, .int .i64 xs.length), (0, .slice a xs.length ca), (1, .slice b ys.length cb)], by omega, Sub.cons (some_int (i64_nat (by omega))) (Sub.cons rfl (Sub.cons rfl (Sub.cons rfl Sub.nil))), rfl, i + 1, by omega, ?_, rfl⟩
        rw [List.take_add_one, List.take_add_one, hpre]
        simp [hix, hiy, hxy]
    · intro hge
      have hix : xs.length ≤ i := by simpa using hge
      refine w_exit ?_
      repeat (first | refine w_seq ?_ | refine w_region env ?_ | refine wo_nil ?_ | refine wo_max rfl rfl rfl rfl ?_ | refine wo_min rfl rfl rfl rfl ?_ | refine wo_pure rfl rfl (fun _ => rfl) rfl rfl ?_ | refine wo_not rfl rfl ?_ | refine wo_load rfl (rd_ver (by assumption) rfl _ 1 (Nat.le_of_ble_eq_true rfl)) rfl rfl rfl rfl rfl ?_)
      refine w_ret ⟨.inr rfl, .refl _, _, rfl, ?_⟩
      simp only [oneOf, Value.bool.injEq]
      have : xs = ys := by rw [← List.take_of_length_le hix, hpre, List.take_of_length_le (by omega)]
      simp [this]

/-- F149, where the row is not empty -/
theorem clone_fun {A : Hp} {a : Option Addr} {xs : List Int} {ca : Nat} (ha : Sl A a 1 (ints xs)) (hbig : xs.length ≤ 1000000) (hne : xs = [] → a = none) :
    Fun Tryz.prog 149 [.slice a xs.length ca] A fun v B => ∃ a' cap, v = .slice a' xs.length cap ∧ Sl B a' 1 (ints xs) ∧ (xs = [] → a' = none) ∧ From A.length a' := by
  replace ha := ha.ro
  refine fun_walk (fn := Tryz.f149) Tryz.func149 rfl rfl ?_
  rcases ha with ha | ⟨i, off, ver, b, rfl, h2⟩
  · have : xs = [] := by simpa [ints] using ha
    subst this
    cases hne rfl
    repeat (first | refine w_seq ?_ | refine w_region env ?_ | refine wo_nil ?_ | refine wo_max rfl rfl rfl rfl ?_ | refine wo_min rfl rfl rfl rfl ?_ | refine wo_pure rfl rfl (fun _ => rfl) rfl rfl ?_ | refine wo_not rfl rfl ?_ | refine wo_load rfl (rd_ver (by assumption) rfl _ 1 (Nat.le_of_ble_eq_true rfl)) rfl rfl rfl rfl rfl ?_)
    refine w_cond _ rfl (fun _ => ?_) (fun h => by cases h)
    repeat (first | refine w_seq ?_ | refine w_region env ?_ | refine wo_nil ?_ | refine wo_max rfl rfl rfl rfl ?_ | refine wo_min rfl rfl rfl rfl ?_ | refine wo_pure rfl rfl (fun _ => rfl) rfl rfl ?_ | refine wo_not rfl rfl ?_ | refine wo_load rfl (rd_ver (by assumption) rfl _ 1 (Nat.le_of_ble_eq_true rfl)) rfl rfl rfl rfl rfl ?_)
    exact w_ret ⟨.inr rfl, .refl _, _, rfl, none, 0, rfl, .inl rfl, fun _ => rfl, .none⟩
  · have hxs : xs ≠ [] := fun h => by cases hne h
    repeat (first | refine w_seq ?_ | refine w_region env ?_ | refine wo_nil ?_ | refine wo_max rfl rfl rfl rfl ?_ | refine wo_min rfl rfl rfl rfl ?_ | refine wo_pure rfl rfl (fun _ => rfl) rfl rfl ?_ | refine wo_not rfl rfl ?_ | refine wo_load rfl (rd_ver (by assumption) rfl _ 1 (Nat.le_of_ble_eq_true rfl)) rfl rfl rfl rfl rfl ?_)
    refine w_cond _ rfl (fun h => by cases h) (fun _ => ?_)
    refine w_skip ?_
    repeat (first | refine w_seq ?_ | refine w_region env ?_ | refine wo_nil ?_ | refine wo_max rfl rfl rfl rfl ?_ | refine wo_min rfl rfl rfl rfl ?_ | refine wo_pure rfl rfl (fun _ => rfl) rfl rfl ?_ | refine wo_not rfl rfl ?_ | refine wo_load rfl (rd_ver (by assumption) rfl _ 1 (Nat.le_of_ble_eq_true rfl)) rfl rfl rfl rfl rfl ?_)
    refine wo_mk rfl rfl (fun _ => rfl) rfl rfl rfl (fun i1 B hB => ?_)
    repeat (first | refine w_seq ?_ | refine w_region env ?_ | refine wo_nil ?_ | refine wo_max rfl rfl rfl rfl ?_ | refine wo_min rfl rfl rfl rfl ?_ | refine wo_pure rfl rfl (fun _ => rfl) rfl rfl ?_ | refine wo_not rfl rfl ?_ | refine wo_load rfl (rd_ver (by assumption) rfl _ 1 (Nat.le_of_ble_eq_true rfl)) rfl rfl rfl rfl rfl ?_)
    refine wo_append_new (rows := []) rfl rfl hB.at_ rfl rfl rfl (Nat.le_refl _) rfl (fun r h => by cases h) rfl ((Sl.pre hB.pre (.inr ⟨i, off, ver, b, rfl, h2⟩ : Sl (roH A) _ 1 (ints xs)))) (ints_len _).symm (ints_cells _) ?_ ?_ ?_ rfl rfl rfl rfl rfl rfl rfl rfl ?_
    · have : xs.length ≠ 0 := fun h => hxs (List.eq_nil_of_length_eq_zero h)
      omega
    · show (0 + (ints xs).length) * 8 ≤ 1000000000
      rw [ints_len]; omega
    · rw [ints_len]; simp; omega
    intro i2 B2 hB2 ho
    repeat (first | refine w_seq ?_ | refine w_region env ?_ | refine wo_nil ?_ | refine wo_max rfl rfl rfl rfl ?_ | refine wo_min rfl rfl rfl rfl ?_ | refine wo_pure rfl rfl (fun _ => rfl) rfl rfl ?_ | refine wo_not rfl rfl ?_ | refine wo_load rfl (rd_ver (by assumption) rfl _ 1 (Nat.le_of_ble_eq_true rfl)) rfl rfl rfl rfl rfl ?_)
    refine w_ret ⟨.inr rfl, (hB2.gr _ (hB.gr _ (.refl _)).1).1, _, rfl, some ⟨i2, 0, some 0⟩, xs.length, ?_, ho.sl, fun h => absurd h hxs, .at (by have h1 := hB2.idx; have h2 := hB.len; rw [roH_length] at h2; omega)⟩
    simp [oneOf, ints_len]
end Go.Proofs.YtdjcbpicdnhciaaGreat
