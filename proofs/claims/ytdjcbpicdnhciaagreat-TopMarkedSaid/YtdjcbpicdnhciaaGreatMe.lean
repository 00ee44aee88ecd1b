/- The program's law: are two rows of cells the same? -/
import Derived.Test.YtdjcbpicdnhciaaGreatMd
set_option linter.unusedVariables false
set_option linter.unusedSimpArgs false
open Go Go.Dx Go.Proofs
namespace Go.Proofs.YtdjcbpicdnhciaaGreat
set_option maxRecDepth 20000

/-- F35 -/
theorem sameCells_fun {A : Hp} {a b : Option Addr} {ra rb : List (List Value)} {cs ds : List CellS} {ca cb : Nat} (ha : Sl A a 3 ra) (hra : CellsR A ra cs) (hb : Sl A b 3 rb) (hrb : CellsR A rb ds)
    (hla : ∀ c ∈ cs, c.sg.length ≤ 1000) (hlen : cs.length ≤ 1000) :
    Fun Tryz.prog 35 [.slice a ra.length ca, .slice b rb.length cb] A fun v _ => v = .bool (decide (cs = ds)) := by
  replace ha := ha.ro
  replace hb := hb.ro
  replace hra := hra.ro
  replace hrb := hrb.ro
  have la : ra.length = cs.length := hra.1
  have lb : rb.length = ds.length := hrb.1
  refine fun_walk (fn := Tryz.f35) Tryz.func35 rfl rfl ?_
  repeat (first | refine w_seq ?_ | refine w_region env ?_ | refine wo_nil ?_ | refine wo_max rfl rfl rfl rfl ?_ | refine wo_min rfl rfl rfl rfl ?_ | refine wo_pure rfl rfl (fun _ => rfl) rfl rfl ?_ | refine wo_not rfl rfl ?_ | refine wo_load rfl (rd_ver (by assumption) rfl _ 1 (Nat.le_of_ble_eq_true rfl)) rfl rfl rfl rfl rfl ?_)
  refine w_cond _ rfl ?_ ?_
  · intro hne
    repeat (first | refine w_seq ?_ | refine w_region env ?_ | refine wo_nil ?_ | refine wo_max rfl rfl rfl rfl ?_ | refine wo_min rfl rfl rfl rfl ?_ | refine wo_pure rfl rfl (fun _ => rfl) rfl rfl ?_ | refine wo_not rfl rfl ?_ | refine wo_load rfl (rd_ver (by assumption) rfl _ 1 (Nat.le_of_ble_eq_true rfl)) rfl rfl rfl rfl rfl ?_)
    refine w_ret ⟨.inr rfl, .refl _, _, rfl, ?_⟩
    have : cs ≠ ds := fun h => by subst h; simp [la, lb] at hne
    simp [oneOf, this]
  · intro heq
    have hlen2 : cs.length = ds.length := by simp at heq; omega
    refine w_skip ?_
    repeat (first | refine w_seq ?_ | refine w_region env ?_ | refine wo_nil ?_ | refine wo_max rfl rfl rfl rfl ?_ | refine wo_min rfl rfl rfl rfl ?_ | refine wo_pure rfl rfl (fun _ => rfl) rfl rfl ?_ | refine wo_not rfl rfl ?_ | refine wo_load rfl (rd_ver (by assumption) rfl _ 1 (Nat.le_of_ble_eq_true rfl)) rfl rfl rfl rfl rfl ?_)
    refine w_block ?_
    refine w_loop (fun j m' B => Gr (roH A) B ∧ ∃ i : Nat, j + i = cs.length ∧ cs.take i = ds.take i ∧ m' = [(13, .int .i64 i), (12, .int .i64 ra.length), (0, .slice a ra.length ca), (1, .slice b rb.length cb)]) cs.length
      (Sub.cons rfl (Sub.cons rfl (Sub.cons rfl (Sub.cons rfl Sub.nil)))) ⟨.refl _, 0, by omega, rfl, rfl⟩ ?_
    rintro j m' B ⟨hg, i, hji, hpre, rfl⟩
    repeat (first | refine w_seq ?_ | refine w_region env ?_ | refine wo_nil ?_ | refine wo_max rfl rfl rfl rfl ?_ | refine wo_min rfl rfl rfl rfl ?_ | refine wo_pure rfl rfl (fun _ => rfl) rfl rfl ?_ | refine wo_not rfl rfl ?_ | refine wo_load rfl (rd_ver (by assumption) rfl _ 1 (Nat.le_of_ble_eq_true rfl)) rfl rfl rfl rfl rfl ?_)
    refine w_cond _ rfl ?_ ?_
    · intro hlt
      have hic : i < cs.length := by simp at hlt; omega
      have hid : i < ds.length := by omega
      obtain ⟨row, hrow, sa, sc, rfl, hsg, _⟩ := (hra.pre hg.pre).2 i hic
      obtain ⟨row2, hrow2, sb, sc2, rfl, hsg2, _⟩ := (hrb.pre hg.pre).2 i hid
      have no : ∀ {x : Prop}, cs[i] ≠ ds[i] → cs ≠ ds := fun h h2 => by subst h2; exact h rfl
      refine w_skip ?_
      refine w_seq (w_block ?_)
      repeat (first | refine w_seq ?_ | refine w_region env ?_ | refine wo_nil ?_ | refine wo_max rfl rfl rfl rfl ?_ | refine wo_min rfl rfl rfl rfl ?_ | refine wo_pure rfl rfl (fun _ => rfl) rfl rfl ?_ | refine wo_not rfl rfl ?_ | refine wo_load rfl (rd_ver (by assumption) rfl _ 1 (Nat.le_of_ble_eq_true rfl)) rfl rfl rfl rfl rfl ?_)
      refine w_draw env 35 (by kernel_rfl) ?_
      repeat (first | refine w_seq ?_ | refine w_region env ?_ | refine wo_nil ?_ | refine wo_max rfl rfl rfl rfl ?_ | refine wo_min rfl rfl rfl rfl ?_ | refine wo_pure rfl rfl (fun _ => rfl) rfl rfl ?_ | refine wo_not rfl rfl ?_ | refine wo_load rfl (rd_ver (by assumption) rfl _ 1 (Nat.le_of_ble_eq_true rfl)) rfl rfl rfl rfl rfl ?_)
      refine wo_at _ rfl (ha.pre hg.pre) rfl rfl rfl rfl rfl rfl (by omega) (by simpa using hrow) (fun p hp => ?_)
      refine wo_field rfl hp rfl rfl rfl rfl rfl rfl (fun p1 hp1 => ?_)
      refine wo_load rfl hp1 rfl rfl rfl rfl rfl ?_
      repeat (first | refine w_seq ?_ | refine w_region env ?_ | refine wo_nil ?_ | refine wo_max rfl rfl rfl rfl ?_ | refine wo_min rfl rfl rfl rfl ?_ | refine wo_pure rfl rfl (fun _ => rfl) rfl rfl ?_ | refine wo_not rfl rfl ?_ | refine wo_load rfl (rd_ver (by assumption) rfl _ 1 (Nat.le_of_ble_eq_true rfl)) rfl rfl rfl rfl rfl ?_)
      refine wo_at _ rfl (hb.pre hg.pre) rfl rfl rfl rfl rfl rfl (by omega) (by simpa using hrow2) (fun q hq => ?_)
      refine wo_field rfl hq rfl rfl rfl rfl rfl rfl (fun q1 hq1 => ?_)
      refine wo_load rfl hq1 rfl rfl rfl rfl rfl ?_
      repeat (first | refine w_seq ?_ | refine w_region env ?_ | refine wo_nil ?_ | refine wo_max rfl rfl rfl rfl ?_ | refine wo_min rfl rfl rfl rfl ?_ | refine wo_pure rfl rfl (fun _ => rfl) rfl rfl ?_ | refine wo_not rfl rfl ?_ | refine wo_load rfl (rd_ver (by assumption) rfl _ 1 (Nat.le_of_ble_eq_true rfl)) rfl rfl rfl rfl rfl ?_)
      cases h1 : (cs[i].mn != ds[i].mn) with
      | true =>
        repeat (first | refine w_seq ?_ | refine w_region env ?_ | refine wo_nil ?_ | refine wo_max rfl rfl rfl rfl ?_ | refine wo_min rfl rfl rfl rfl ?_ | refine wo_pure rfl rfl (fun _ => rfl) rfl rfl ?_ | refine wo_not rfl rfl ?_ | refine wo_load rfl (rd_ver (by assumption) rfl _ 1 (Nat.le_of_ble_eq_true rfl)) rfl rfl rfl rfl rfl ?_)
        refine w_cond _ rfl (fun _ => ?_) (fun h => by cases h)
        repeat (first | refine w_seq ?_ | refine w_region env ?_ | refine wo_nil ?_ | refine wo_max rfl rfl rfl rfl ?_ | refine wo_min rfl rfl rfl rfl ?_ | refine wo_pure rfl rfl (fun _ => rfl) rfl rfl ?_ | refine wo_not rfl rfl ?_ | refine wo_load rfl (rd_ver (by assumption) rfl _ 1 (Nat.le_of_ble_eq_true rfl)) rfl rfl rfl rfl rfl ?_)
        refine w_ret ⟨.inr rfl, hg, _, rfl, ?_⟩
        have : cs ≠ ds := fun h2 => by subst h2; simp at h1
        simp [oneOf, this]
      | false =>
        repeat (first | refine w_seq ?_ | refine w_region env ?_ | refine wo_nil ?_ | refine wo_max rfl rfl rfl rfl ?_ | refine wo_min rfl rfl rfl rfl ?_ | refine wo_pure rfl rfl (fun _ => rfl) rfl rfl ?_ | refine wo_not rfl rfl ?_ | refine wo_load rfl (rd_ver (by assumption) rfl _ 1 (Nat.le_of_ble_eq_true rfl)) rfl rfl rfl rfl rfl ?_)
        refine wo_at _ rfl (ha.pre hg.pre) rfl rfl rfl rfl rfl rfl (by omega) (by simpa using hrow) (fun p hp => ?_)
        refine wo_field rfl hp rfl rfl rfl rfl rfl rfl (fun p1 hp1 => ?_)
        refine wo_load rfl hp1 rfl rfl rfl rfl rfl ?_
        repeat (first | refine w_seq ?_ | refine w_region env ?_ | refine wo_nil ?_ | refine wo_max rfl rfl rfl rfl ?_ | refine wo_min rfl rfl rfl rfl ?_ | refine wo_pure rfl rfl (fun _ => rfl) rfl rfl ?_ | refine wo_not rfl rfl ?_ | refine wo_load rfl (rd_ver (by assumption) rfl _ 1 (Nat.le_of_ble_eq_true rfl)) rfl rfl rfl rfl rfl ?_)
        refine wo_at _ rfl (hb.pre hg.pre) rfl rfl rfl rfl rfl rfl (by omega) (by simpa using hrow2) (fun q hq => ?_)
        refine wo_field rfl hq rfl rfl rfl rfl rfl rfl (fun q1 hq1 => ?_)
        refine wo_load rfl hq1 rfl rfl rfl rfl rfl ?_
        repeat (first | refine w_seq ?_ | refine w_region env ?_ | refine wo_nil ?_ | refine wo_max rfl rfl rfl rfl ?_ | refine wo_min rfl rfl rfl rfl ?_ | refine wo_pure rfl rfl (fun _ => rfl) rfl rfl ?_ | refine wo_not rfl rfl ?_ | refine wo_load rfl (rd_ver (by assumption) rfl _ 1 (Nat.le_of_ble_eq_true rfl)) rfl rfl rfl rfl rfl ?_)
        cases h2 : (cs[i].mx != ds[i].mx) with
        | true =>
          repeat (first | refine w_seq ?_ | refine w_region env ?_ | refine wo_nil ?_ | refine wo_max rfl rfl rfl rfl ?_ | refine wo_min rfl rfl rfl rfl ?_ | refine wo_pure rfl rfl (fun _ => rfl) rfl rfl ?_ | refine wo_not rfl rfl ?_ | refine wo_load rfl (rd_ver (by assumption) rfl _ 1 (Nat.le_of_ble_eq_true rfl)) rfl rfl rfl rfl rfl ?_)
          refine w_cond _ rfl (fun _ => ?_) (fun h => by cases h)
          repeat (first | refine w_seq ?_ | refine w_region env ?_ | refine wo_nil ?_ | refine wo_max rfl rfl rfl rfl ?_ | refine wo_min rfl rfl rfl rfl ?_ | refine wo_pure rfl rfl (fun _ => rfl) rfl rfl ?_ | refine wo_not rfl rfl ?_ | refine wo_load rfl (rd_ver (by assumption) rfl _ 1 (Nat.le_of_ble_eq_true rfl)) rfl rfl rfl rfl rfl ?_)
          refine w_ret ⟨.inr rfl, hg, _, rfl, ?_⟩
          have : cs ≠ ds := fun h3 => by subst h3; simp at h2
          simp [oneOf, this]
        | false =>
          repeat (first | refine w_seq ?_ | refine w_region env ?_ | refine wo_nil ?_ | refine wo_max rfl rfl rfl rfl ?_ | refine wo_min rfl rfl rfl rfl ?_ | refine wo_pure rfl rfl (fun _ => rfl) rfl rfl ?_ | refine wo_not rfl rfl ?_ | refine wo_load rfl (rd_ver (by assumption) rfl _ 1 (Nat.le_of_ble_eq_true rfl)) rfl rfl rfl rfl rfl ?_)
          refine wo_at _ rfl (ha.pre hg.pre) rfl rfl rfl rfl rfl rfl (by omega) (by simpa using hrow) (fun p hp => ?_)
          refine wo_field rfl hp rfl rfl rfl rfl rfl rfl (fun p1 hp1 => ?_)
          refine wo_load rfl hp1 rfl rfl rfl rfl rfl ?_
          repeat (first | refine w_seq ?_ | refine w_region env ?_ | refine wo_nil ?_ | refine wo_max rfl rfl rfl rfl ?_ | refine wo_min rfl rfl rfl rfl ?_ | refine wo_pure rfl rfl (fun _ => rfl) rfl rfl ?_ | refine wo_not rfl rfl ?_ | refine wo_load rfl (rd_ver (by assumption) rfl _ 1 (Nat.le_of_ble_eq_true rfl)) rfl rfl rfl rfl rfl ?_)
          refine wo_at _ rfl (hb.pre hg.pre) rfl rfl rfl rfl rfl rfl (by omega) (by simpa using hrow2) (fun q hq => ?_)
          refine wo_field rfl hq rfl rfl rfl rfl rfl rfl (fun q1 hq1 => ?_)
          refine wo_load rfl hq1 rfl rfl rfl rfl rfl ?_
          refine wo_call1 (sameInts_fun hsg hsg2 (by have := hla cs[i] (by simp); omega)) rfl rfl rfl ?_
          rintro v r hr rfl
          repeat (first | refine w_seq ?_ | refine w_region env ?_ | refine wo_nil ?_ | refine wo_max rfl rfl rfl rfl ?_ | refine wo_min rfl rfl rfl rfl ?_ | refine wo_pure rfl rfl (fun _ => rfl) rfl rfl ?_ | refine wo_not rfl rfl ?_ | refine wo_load rfl (rd_ver (by assumption) rfl _ 1 (Nat.le_of_ble_eq_true rfl)) rfl rfl rfl rfl rfl ?_)
          refine w_cond _ rfl (fun h3 => ?_) (fun h3 => ?_)
          · repeat (first | refine w_seq ?_ | refine w_region env ?_ | refine wo_nil ?_ | refine wo_max rfl rfl rfl rfl ?_ | refine wo_min rfl rfl rfl rfl ?_ | refine wo_pure rfl rfl (fun _ => rfl) rfl rfl ?_ | refine wo_not rfl rfl ?_ | refine wo_load rfl (rd_ver (by assumption) rfl _ 1 (Nat.le_of_ble_eq_true rfl)) rfl rfl rfl rfl rfl ?_)
            refine w_ret ⟨.inr rfl, hg.app hr, _, rfl, ?_⟩
            have : cs ≠ ds := fun h4 => by subst h4; simp at h3
            simp [oneOf, this]
          · refine w_skip ?_
            repeat (first | refine w_seq ?_ | refine w_region env ?_ | refine wo_nil ?_ | refine wo_max rfl rfl rfl rfl ?_ | refine wo_min rfl rfl rfl rfl ?_ | refine wo_pure rfl rfl (fun _ => rfl) rfl rfl ?_ | refine wo_not rfl rfl ?_ | refine wo_load rfl (rd_ver (by assumption) rfl _ 1 (Nat.le_of_ble_eq_true rfl)) rfl rfl rfl rfl rfl ?_)
            have hsame : cs[i] = ds[i] := by
              have e1 : cs[i].mn = ds[i].mn := by simpa using h1
              have e2 : cs[i].mx = ds[i].mx := by simpa using h2
              have e3 : cs[i].sg = ds[i].sg := by simpa using h3
              generalize cs[i] = x at *
              generalize ds[i] = y at *
              cases x; cases y; simp_all
            refine ⟨j - 1, [(13, .int .i64 ((i + 1 : Nat) : Int)), (12, .int .i64 ra.length), (0, .slice a ra.length ca), (1, .slice b rb.length cb)], by omega, Sub.cons (some_int (i64_nat (by omega))) (Sub.cons rfl (Sub.cons rfl (Sub.cons rfl Sub.nil))), hg.app hr, i + 1, by omega, ?_, rfl⟩
            rw [List.take_add_one, List.take_add_one, hpre]
            simp [hic, hid, hsame]
    · intro hge
      have hic : cs.length ≤ i := by simp at hge; omega
      refine w_exit ?_
      repeat (first | refine w_seq ?_ | refine w_region env ?_ | refine wo_nil ?_ | refine wo_max rfl rfl rfl rfl ?_ | refine wo_min rfl rfl rfl rfl ?_ | refine wo_pure rfl rfl (fun _ => rfl) rfl rfl ?_ | refine wo_not rfl rfl ?_ | refine wo_load rfl (rd_ver (by assumption) rfl _ 1 (Nat.le_of_ble_eq_true rfl)) rfl rfl rfl rfl rfl ?_)
      refine w_ret ⟨.inr rfl, hg, _, rfl, ?_⟩
      have : cs = ds := by rw [← List.take_of_length_le hic, hpre, List.take_of_length_le (by omega)]
      simp [oneOf, this]
end Go.Proofs.YtdjcbpicdnhciaaGreat
