/- The program's walls: what two walls have in common. -/
import Derived.Test.YtdjcbpicdnhciaaGreatMf
set_option linter.unusedVariables false
set_option linter.unusedSimpArgs false
open Go Go.Dx Go.Proofs
namespace Go.Proofs.YtdjcbpicdnhciaaGreat
set_option maxRecDepth 20000

theorem three {row : List Value} (h : row.length = 3) : ∃ x y z, row = [x, y, z] := by
  match row, h with
  | [x, y, z], _ => exact ⟨x, y, z, rfl⟩

def meets (cs ds : List CellS) : List CellS := List.zipWith (fun a b => (meetS a b).1) cs ds

theorem CellsR.step {A A' : Hp} {o o' : Option Nat} {a2 : Option Addr} {rows2 : List (List Value)} {rows : List (List Value)} {cs : List CellS} (hr : CellsR A rows cs) (ho : Own A o a2 3 rows2) (hst : AppStep A o A' o') : CellsR A' rows cs := by
  refine ⟨hr.1, fun i hi => ?_⟩
  obtain ⟨row, h1, a, cap, h2, h3, h4⟩ := hr.2 i hi
  exact ⟨row, h1, a, cap, h2, h3.step ho hst (by omega), h4⟩

theorem CellsR.snoc {A : Hp} {rows : List (List Value)} {cs : List CellS} {row : List Value} {c : CellS} (hr : CellsR A rows cs) (h : CellR A row c) : CellsR A (rows ++ [row]) (cs ++ [c]) := by
  refine ⟨by simp [hr.1], fun i hi => ?_⟩
  simp at hi
  rcases Nat.lt_or_ge i cs.length with h1 | h1
  · obtain ⟨r, h2, h3⟩ := hr.2 i h1
    refine ⟨r, by rw [List.getElem?_append_left (by rw [hr.1]; exact h1)]; exact h2, ?_⟩
    rw [List.getElem_append_left h1]; exact h3
  · have : i = cs.length := by omega
    subst this
    refine ⟨row, by rw [List.getElem?_append_right (by rw [hr.1]; exact Nat.le_refl _), hr.1]; simp, ?_⟩
    simp; exact h

theorem CellsR.nil {A : Hp} : CellsR A [] [] := ⟨rfl, fun i h => by simp at h⟩

/-- F38 -/
theorem Meet_fun {A : Hp} {i0 : Nat} {a b : Option Addr} {ra rb : List (List Value)} {cs ds : List CellS} {ca cb : Nat} (hs : HasSigns A i0) (ha : Sl A a 3 ra) (hra : CellsR A ra cs) (hb : Sl A b 3 rb) (hrb : CellsR A rb ds)
    (hok : ∀ c ∈ cs, CellOK' 3 c) (hok2 : ∀ c ∈ ds, CellOK' 3 c) (hlen : cs.length = ds.length) (hl : cs.length ≤ 6) :
    Fun Tryz.prog 38 [listV i0, .slice a ra.length ca, .slice b rb.length cb] A fun v B =>
      (∃ (k : Nat) (h1 : k < cs.length) (h2 : k < ds.length), (meetS cs[k] ds[k]).2 = false) ∧ v = .tuple #[.slice none 0 0, .int .i64 71] ∨
      (∀ (k : Nat) (h1 : k < cs.length) (h2 : k < ds.length), (meetS cs[k] ds[k]).2 = true) ∧ ∃ a' rows, v = .tuple #[.slice a' rows.length rows.length, .int .i64 0] ∧ Sl B a' 3 rows ∧ CellsR B rows (meets cs ds) := by
  replace ha := ha.ro
  replace hb := hb.ro
  replace hs := hs.ro
  replace hra := hra.ro
  replace hrb := hrb.ro
  have la : ra.length = cs.length := hra.1
  have lb : rb.length = ds.length := hrb.1
  refine fun_walk (fn := Tryz.f38) Tryz.func38 rfl rfl ?_
  refine w_seq (w_region env ?_)
  refine wo_alloc (b := ⟨[.int .i64 1, .slice (some ⟨i0, 0, some 0⟩) 3 3], false, false, 1, 0⟩) rfl rfl (fun _ => rfl) rfl rfl rfl (fun i1 B1 ⟨h1, g1, q1, p1, x1, l1⟩ => ?_)
  have hg1 := (g1 _ (.refl _)).1
  repeat (first | refine w_seq ?_ | refine w_region env ?_ | refine wo_nil ?_ | refine wo_max rfl rfl rfl rfl ?_ | refine wo_min rfl rfl rfl rfl ?_ | refine wo_pure rfl rfl (fun _ => rfl) rfl rfl ?_ | refine wo_not rfl rfl ?_ | refine wo_load rfl (rd_ver (by assumption) rfl _ 1 (Nat.le_of_ble_eq_true rfl)) rfl rfl rfl rfl rfl ?_)
  refine wo_loads rfl (rd_ver h1 rfl _ 2 (Nat.le_of_ble_eq_true rfl)) rfl rfl rfl rfl rfl rfl ?_
  repeat (first | refine w_seq ?_ | refine w_region env ?_ | refine wo_nil ?_ | refine wo_max rfl rfl rfl rfl ?_ | refine wo_min rfl rfl rfl rfl ?_ | refine wo_pure rfl rfl (fun _ => rfl) rfl rfl ?_ | refine wo_not rfl rfl ?_ | refine wo_load rfl (rd_ver (by assumption) rfl _ 1 (Nat.le_of_ble_eq_true rfl)) rfl rfl rfl rfl rfl ?_)
  refine wo_call1 (wallCheck_fun (hs.pre p1) (ha.pre p1) (hra.pre p1) hok hl) rfl rfl rfl ?_
  rintro v r hr rfl
  have hg2 := hg1.app hr
  have h2 := at_app h1 r
  generalize B1 ++ r = B2 at *
  repeat (first | refine w_seq ?_ | refine w_region env ?_ | refine wo_nil ?_ | refine wo_max rfl rfl rfl rfl ?_ | refine wo_min rfl rfl rfl rfl ?_ | refine wo_pure rfl rfl (fun _ => rfl) rfl rfl ?_ | refine wo_not rfl rfl ?_ | refine wo_load rfl (rd_ver (by assumption) rfl _ 1 (Nat.le_of_ble_eq_true rfl)) rfl rfl rfl rfl rfl ?_)
  refine w_cond _ rfl (fun h => by cases h) (fun _ => ?_)
  refine w_skip ?_
  repeat (first | refine w_seq ?_ | refine w_region env ?_ | refine wo_nil ?_ | refine wo_max rfl rfl rfl rfl ?_ | refine wo_min rfl rfl rfl rfl ?_ | refine wo_pure rfl rfl (fun _ => rfl) rfl rfl ?_ | refine wo_not rfl rfl ?_ | refine wo_load rfl (rd_ver (by assumption) rfl _ 1 (Nat.le_of_ble_eq_true rfl)) rfl rfl rfl rfl rfl ?_)
  refine wo_call1 (right_fun (n := 3) (hb.pre hg2.pre) (hrb.pre hg2.pre) hok2 (by omega) (by omega)) rfl rfl rfl ?_
  rintro v r2 hr2 rfl
  have hg3 := hg2.app hr2
  generalize B2 ++ r2 = B3 at *
  repeat (first | refine w_seq ?_ | refine w_region env ?_ | refine wo_nil ?_ | refine wo_max rfl rfl rfl rfl ?_ | refine wo_min rfl rfl rfl rfl ?_ | refine wo_pure rfl rfl (fun _ => rfl) rfl rfl ?_ | refine wo_not rfl rfl ?_ | refine wo_load rfl (rd_ver (by assumption) rfl _ 1 (Nat.le_of_ble_eq_true rfl)) rfl rfl rfl rfl rfl ?_)
  refine w_cond _ rfl (fun h => by cases h) (fun _ => ?_)
  refine w_skip ?_
  repeat (first | refine w_seq ?_ | refine w_region env ?_ | refine wo_nil ?_ | refine wo_max rfl rfl rfl rfl ?_ | refine wo_min rfl rfl rfl rfl ?_ | refine wo_pure rfl rfl (fun _ => rfl) rfl rfl ?_ | refine wo_not rfl rfl ?_ | refine wo_load rfl (rd_ver (by assumption) rfl _ 1 (Nat.le_of_ble_eq_true rfl)) rfl rfl rfl rfl rfl ?_)
  have e0 : ((ra.length : Int) != (rb.length : Int)) = false := by simp; omega
  rw [e0]
  refine w_cond _ rfl (fun h => by cases h) (fun _ => ?_)
  refine w_skip ?_
  repeat (first | refine w_seq ?_ | refine w_region env ?_ | refine wo_nil ?_ | refine wo_max rfl rfl rfl rfl ?_ | refine wo_min rfl rfl rfl rfl ?_ | refine wo_pure rfl rfl (fun _ => rfl) rfl rfl ?_ | refine wo_not rfl rfl ?_ | refine wo_load rfl (rd_ver (by assumption) rfl _ 1 (Nat.le_of_ble_eq_true rfl)) rfl rfl rfl rfl rfl ?_)
  refine w_block ?_
  refine w_loop (fun j m' B => Gr (roH A) B ∧ ∃ (i : Nat) (o : Option Nat) (ao : Option Addr) (rows : List (List Value)), j + i = cs.length ∧ (∀ (k : Nat) (h1 : k < cs.length) (h2 : k < ds.length), k < i → (meetS cs[k] ds[k]).2 = true) ∧
      Own B o ao 3 rows ∧ (∀ q, o = some q → (roH A).length ≤ q) ∧ CellsR B rows ((meets cs ds).take i) ∧
      m' = [(31, .int .i64 i), (30, .int .i64 ra.length), (6, .slice ao rows.length rows.length), (1, .slice a ra.length ca), (2, .slice b rb.length cb)]) cs.length
    (Sub.cons rfl (Sub.cons rfl (Sub.cons rfl (Sub.cons rfl (Sub.cons rfl Sub.nil))))) ⟨hg3, 0, none, none, [], by omega, (fun k _ _ h => by omega), own_nil, (fun q h => by cases h), by simpa using CellsR.nil, rfl⟩ ?_
  clear hg3 h1 h2 hg2 hg1
  rintro j m' B ⟨hg, i, o, ao, rows, hji, hall, hown, hoi, hrows, rfl⟩
  repeat (first | refine w_seq ?_ | refine w_region env ?_ | refine wo_nil ?_ | refine wo_max rfl rfl rfl rfl ?_ | refine wo_min rfl rfl rfl rfl ?_ | refine wo_pure rfl rfl (fun _ => rfl) rfl rfl ?_ | refine wo_not rfl rfl ?_ | refine wo_load rfl (rd_ver (by assumption) rfl _ 1 (Nat.le_of_ble_eq_true rfl)) rfl rfl rfl rfl rfl ?_)
  refine w_cond _ rfl ?_ ?_
  · intro hlt
    have hic : i < cs.length := by simp at hlt; omega
    have hid : i < ds.length := by omega
    obtain ⟨row, hrow, hra1⟩ := (hra.pre hg.pre).2 i hic
    obtain ⟨row2, hrow2, hrb1⟩ := (hrb.pre hg.pre).2 i hid
    refine w_skip ?_
    refine w_seq (w_block ?_)
    repeat (first | refine w_seq ?_ | refine w_region env ?_ | refine wo_nil ?_ | refine wo_max rfl rfl rfl rfl ?_ | refine wo_min rfl rfl rfl rfl ?_ | refine wo_pure rfl rfl (fun _ => rfl) rfl rfl ?_ | refine wo_not rfl rfl ?_ | refine wo_load rfl (rd_ver (by assumption) rfl _ 1 (Nat.le_of_ble_eq_true rfl)) rfl rfl rfl rfl rfl ?_)
    refine w_draw env 13 (by kernel_rfl) ?_
    repeat (first | refine w_seq ?_ | refine w_region env ?_ | refine wo_nil ?_ | refine wo_max rfl rfl rfl rfl ?_ | refine wo_min rfl rfl rfl rfl ?_ | refine wo_pure rfl rfl (fun _ => rfl) rfl rfl ?_ | refine wo_not rfl rfl ?_ | refine wo_load rfl (rd_ver (by assumption) rfl _ 1 (Nat.le_of_ble_eq_true rfl)) rfl rfl rfl rfl rfl ?_)
    refine wo_at _ rfl (ha.pre hg.pre) rfl rfl rfl rfl rfl rfl (by omega) (by simpa using hrow) (fun p hp => ?_)
    refine wo_loads rfl hp rfl rfl rfl rfl rfl rfl ?_
    repeat (first | refine w_seq ?_ | refine w_region env ?_ | refine wo_nil ?_ | refine wo_max rfl rfl rfl rfl ?_ | refine wo_min rfl rfl rfl rfl ?_ | refine wo_pure rfl rfl (fun _ => rfl) rfl rfl ?_ | refine wo_not rfl rfl ?_ | refine wo_load rfl (rd_ver (by assumption) rfl _ 1 (Nat.le_of_ble_eq_true rfl)) rfl rfl rfl rfl rfl ?_)
    refine wo_at _ rfl (hb.pre hg.pre) rfl rfl rfl rfl rfl rfl (by omega) (by simpa using hrow2) (fun p2 hp2 => ?_)
    refine wo_loads rfl hp2 rfl rfl rfl rfl rfl rfl ?_
    refine wo_call1 (meet_fun hra1 hrb1 (by have := (hok cs[i] (by simp)).len; omega) (by have := (hok2 ds[i] (by simp)).len; omega)) rfl rfl rfl ?_
    rintro v r hr ⟨rw3, rfl, hl3, hc3, hcell⟩
    have hg4 := hg.app hr
    have hown4 := hown.app r
    have hrows4 := hrows.pre ((Pre.refl B).app r)
    obtain ⟨x, y, z, rfl⟩ := three hl3
    have hcell4 : (meetS cs[i] ds[i]).2 = true → CellR (B ++ r) [x, y, z] (meetS cs[i] ds[i]).1 := fun h => by
      obtain ⟨sa, sc, he, hsg, hn⟩ := hcell h
      exact ⟨sa, sc, he, hsg.unro, hn⟩
    clear hcell
    generalize B ++ r = B4 at *
    repeat (first | refine w_seq ?_ | refine w_region env ?_ | refine wo_nil ?_ | refine wo_max rfl rfl rfl rfl ?_ | refine wo_min rfl rfl rfl rfl ?_ | refine wo_pure rfl rfl (fun _ => rfl) rfl rfl ?_ | refine wo_not rfl rfl ?_ | refine wo_load rfl (rd_ver (by assumption) rfl _ 1 (Nat.le_of_ble_eq_true rfl)) rfl rfl rfl rfl rfl ?_)
    refine wo_varA rfl (fun _ h => by cases h; rfl) rfl rfl rfl rfl rfl rfl rfl rfl rfl hc3 rfl (fun i5 B5 ⟨h5, g5, q5, p5, x5, l5⟩ => ?_)
    have hg5 := (g5 _ hg4).1
    repeat (first | refine w_seq ?_ | refine w_region env ?_ | refine wo_nil ?_ | refine wo_max rfl rfl rfl rfl ?_ | refine wo_min rfl rfl rfl rfl ?_ | refine wo_pure rfl rfl (fun _ => rfl) rfl rfl ?_ | refine wo_not rfl rfl ?_ | refine wo_load rfl (rd_ver (by assumption) rfl _ 1 (Nat.le_of_ble_eq_true rfl)) rfl rfl rfl rfl rfl ?_)
    cases hm : (meetS cs[i] ds[i]).2 with
    | false =>
      repeat (first | refine w_seq ?_ | refine w_region env ?_ | refine wo_nil ?_ | refine wo_max rfl rfl rfl rfl ?_ | refine wo_min rfl rfl rfl rfl ?_ | refine wo_pure rfl rfl (fun _ => rfl) rfl rfl ?_ | refine wo_not rfl rfl ?_ | refine wo_load rfl (rd_ver (by assumption) rfl _ 1 (Nat.le_of_ble_eq_true rfl)) rfl rfl rfl rfl rfl ?_)
      refine w_cond _ rfl (fun _ => ?_) (fun h => by cases h)
      repeat (first | refine w_seq ?_ | refine w_region env ?_ | refine wo_nil ?_ | refine wo_max rfl rfl rfl rfl ?_ | refine wo_min rfl rfl rfl rfl ?_ | refine wo_pure rfl rfl (fun _ => rfl) rfl rfl ?_ | refine wo_not rfl rfl ?_ | refine wo_load rfl (rd_ver (by assumption) rfl _ 1 (Nat.le_of_ble_eq_true rfl)) rfl rfl rfl rfl rfl ?_)
      exact w_ret ⟨.inr rfl, hg5, _, rfl, .inl ⟨⟨i, hic, hid, hm⟩, rfl⟩⟩
    | true =>
      repeat (first | refine w_seq ?_ | refine w_region env ?_ | refine wo_nil ?_ | refine wo_max rfl rfl rfl rfl ?_ | refine wo_min rfl rfl rfl rfl ?_ | refine wo_pure rfl rfl (fun _ => rfl) rfl rfl ?_ | refine wo_not rfl rfl ?_ | refine wo_load rfl (rd_ver (by assumption) rfl _ 1 (Nat.le_of_ble_eq_true rfl)) rfl rfl rfl rfl rfl ?_)
      refine w_cond _ rfl (fun h => by cases h) (fun _ => ?_)
      refine w_skip ?_
      repeat (first | refine w_seq ?_ | refine w_region env ?_ | refine wo_nil ?_ | refine wo_max rfl rfl rfl rfl ?_ | refine wo_min rfl rfl rfl rfl ?_ | refine wo_pure rfl rfl (fun _ => rfl) rfl rfl ?_ | refine wo_not rfl rfl ?_ | refine wo_load rfl (rd_ver (by assumption) rfl _ 1 (Nat.le_of_ble_eq_true rfl)) rfl rfl rfl rfl rfl ?_)
      refine wo_loads rfl (rd_ver h5 rfl _ 3 (Nat.le_of_ble_eq_true rfl)) rfl rfl rfl rfl rfl rfl ?_
      obtain ⟨sa, sc, he, hsg, hn⟩ := hcell4 hm
      cases he
      refine wo_mk (b := ⟨[.int .i64 (meetS cs[i] ds[i]).1.mn, .int .i64 (meetS cs[i] ds[i]).1.mx, .slice sa (meetS cs[i] ds[i]).1.sg.length sc], false, false, 3, 0⟩) rfl rfl (fun _ => rfl) rfl rfl rfl (fun i6 B6 ⟨h6, g6, q6, p6, x6, l6⟩ => ?_)
      have hown6 : Own B6 o ao 3 rows := hown4.keep fun _ _ _ hx => (q6 _ _ (q5 _ _ hx).1).1
      have hrl : rows.length ≤ 6 := by rw [hrows4.1]; simp; omega
      refine wo_append (rows := rows) (xrows := [[.int .i64 (meetS cs[i] ds[i]).1.mn, .int .i64 (meetS cs[i] ds[i]).1.mx, .slice sa (meetS cs[i] ds[i]).1.sg.length sc]]) rfl rfl hown6 (sl_of_at h6 rfl (by simp) rfl) rfl rfl rfl rfl ?_ ?_ rfl rfl rfl rfl rfl rfl rfl rfl (.inl rfl) ?_
      · show (rows.length + 1) * 40 ≤ 1000000000
        omega
      · show rows.length + 1 ≤ 1000000000
        omega
      intro o7 a7 B7 hown7 st7
      have hrows7 : CellsR B7 rows ((meets cs ds).take i) := (hrows4.pre (p5.trans p6)).step hown6 st7
      have hcell7 : CellR B7 [.int .i64 (meetS cs[i] ds[i]).1.mn, .int .i64 (meetS cs[i] ds[i]).1.mx, .slice sa (meetS cs[i] ds[i]).1.sg.length sc] (meetS cs[i] ds[i]).1 :=
        ⟨sa, sc, rfl, (hsg.pre (p5.trans p6)).step hown6 st7 (by omega), hn⟩
      obtain ⟨hg7, hoi7⟩ := st7.gr _ (g6 _ hg5).1 (fun q hq => hoi q hq)
      repeat (first | refine w_seq ?_ | refine w_region env ?_ | refine wo_nil ?_ | refine wo_max rfl rfl rfl rfl ?_ | refine wo_min rfl rfl rfl rfl ?_ | refine wo_pure rfl rfl (fun _ => rfl) rfl rfl ?_ | refine wo_not rfl rfl ?_ | refine wo_load rfl (rd_ver (by assumption) rfl _ 1 (Nat.le_of_ble_eq_true rfl)) rfl rfl rfl rfl rfl ?_)
      refine ⟨j - 1, [(31, .int .i64 ((i + 1 : Nat) : Int)), (30, .int .i64 ra.length), (6, .slice a7 (rows ++ [[Value.int .i64 (meetS cs[i] ds[i]).1.mn, .int .i64 (meetS cs[i] ds[i]).1.mx, .slice sa (meetS cs[i] ds[i]).1.sg.length sc]]).length (rows ++ [[Value.int .i64 (meetS cs[i] ds[i]).1.mn, .int .i64 (meetS cs[i] ds[i]).1.mx, .slice sa (meetS cs[i] ds[i]).1.sg.length sc]]).length), (1, .slice a ra.length ca), (2, .slice b rb.length cb)], by omega,
        Sub.cons (some_int (i64_nat (by omega))) (Sub.cons rfl (Sub.cons rfl (Sub.cons rfl (Sub.cons rfl Sub.nil)))), hg7, i + 1, o7, a7, _, by omega, ?_, hown7, hoi7, ?_, rfl⟩
      · intro k k1 k2 hk
        rcases Nat.lt_or_ge k i with h | h
        · exact hall k k1 k2 h
        · have : k = i := by omega
          subst this; exact hm
      · have e : (meets cs ds).take (i + 1) = (meets cs ds).take i ++ [(meetS cs[i] ds[i]).1] := by
          have e1 : (meets cs ds)[i]? = some (meetS cs[i] ds[i]).1 := by
            unfold meets
            rw [List.getElem?_zipWith]
            simp [hic, hid]
          rw [List.take_add_one, e1]; rfl
        rw [e]
        exact hrows7.snoc hcell7
  · intro hge
    have hic : cs.length ≤ i := by simp at hge; omega
    refine w_exit ?_
    repeat (first | refine w_seq ?_ | refine w_region env ?_ | refine wo_nil ?_ | refine wo_max rfl rfl rfl rfl ?_ | refine wo_min rfl rfl rfl rfl ?_ | refine wo_pure rfl rfl (fun _ => rfl) rfl rfl ?_ | refine wo_not rfl rfl ?_ | refine wo_load rfl (rd_ver (by assumption) rfl _ 1 (Nat.le_of_ble_eq_true rfl)) rfl rfl rfl rfl rfl ?_)
    refine w_ret ⟨.inr rfl, hg, _, rfl, .inr ⟨fun k h1 h2 => hall k h1 h2 (by omega), ao, rows, rfl, hown.sl, ?_⟩⟩
    rw [List.take_of_length_le (by simp [meets]; omega)] at hrows
    exact hrows
end Go.Proofs.YtdjcbpicdnhciaaGreat
