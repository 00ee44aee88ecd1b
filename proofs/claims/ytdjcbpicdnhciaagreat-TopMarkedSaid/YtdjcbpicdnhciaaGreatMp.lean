/- The program's walls: cells out of marks (Of). -/
import Derived.Test.YtdjcbpicdnhciaaGreatMo
set_option linter.unusedVariables false
set_option linter.unusedSimpArgs false
open Go Go.Dx Go.Proofs
namespace Go.Proofs.YtdjcbpicdnhciaaGreat
set_option maxRecDepth 20000
-- NEW

theorem subs3_rise : ∀ f ∈ subs3, Rise 3 f := by
  intro f hf
  simp only [subs3, List.mem_cons, List.not_mem_nil, or_false] at hf
  rcases hf with rfl | rfl | rfl | rfl | rfl | rfl | rfl | rfl <;>
  · intro i h
    simp only [List.length_cons, List.length_nil] at h
    rcases i with _ | _ | _ | i
    all_goals first | (exfalso; omega) | simp

theorem subs3_len : ∀ f ∈ subs3, f.length ≤ 3 := by
  intro f hf
  simp only [subs3, List.mem_cons, List.not_mem_nil, or_false] at hf
  rcases hf with rfl | rfl | rfl | rfl | rfl | rfl | rfl | rfl <;> decide

theorem subs3_in : ∀ f ∈ subs3, ∀ x ∈ f, 0 ≤ x ∧ x ≤ 2 := by
  intro f hf x hx
  obtain ⟨i, hi, rfl⟩ := List.mem_iff_getElem.1 hx
  have := subs3_rise f hf i hi
  exact ⟨this.1, by have := this.2.1; omega⟩

theorem filter3 (p : Int → Bool) : [(0 : Int), 1, 2].filter p ∈ subs3 := by
  cases h0 : p 0 <;> cases h1 : p 1 <;> cases h2 : p 2 <;> simp [List.filter, h0, h1, h2, subs3]

theorem famS_in (sign : Int) (f g : List Int) : famS sign f g ∈ subs3 := filter3 _

theorem one_in {s : Int} (h : 0 ≤ s ∧ s ≤ 2) : [s] ∈ subs3 := by
  have : s = 0 ∨ s = 1 ∨ s = 2 := by omega
  rcases this with rfl | rfl | rfl <;> simp [subs3]

theorem markCell_ok {m : MarkS} (hm : m.Ok) (layer : Int) (f g : List Int) : CellOK' 3 (markCell layer f g m) := by
  obtain ⟨a, b, c⟩ := hm
  have key : ∀ (x y : Int) (sg : List Int), 0 ≤ x → x ≤ y → y ≤ 9 → sg ∈ subs3 → CellOK' 3 ⟨x, y, sg⟩ := fun x y sg h1 h2 h3 h4 => ⟨h1, h2, h3, subs3_rise sg h4, by have := subs3_len sg h4; show sg.length ≤ 1000; omega⟩
  unfold markCell
  split
  · exact key _ _ _ c.1 c.2.1 c.2.2 (by simp [subs3])
  · rename_i h0
    split
    · exact key _ _ _ (by omega) (by omega) (by omega) (famS_in _ _ _)
    · split
      · exact key _ _ _ (by omega) (by omega) (by omega) (one_in (by omega))
      · exact key _ _ _ (by omega) (by omega) (by omega) (by simp [subs3])

/-- F34 -/
theorem of_fun {A : Hp} {i : Nat} {am a a1 a2 : Option Addr} {ms : List MarkS} {cm : Nat} {f g : List Int} {layer : Int} (hs : HasSigns A i) (hmk : Sl A am 4 (ms.map markRow)) (hms : ∀ m ∈ ms, m.Ok) (hml : ms.length ≤ 4) (hf : f ∈ subs3) (hg : g ∈ subs3) (hl : layer = 0 ∨ layer = 1)
    (ha : AccAt A a 1 [[.slice a1 f.length f.length], [.slice a2 g.length g.length]]) (h1 : AccAt A a1 1 (ints f)) (h2 : AccAt A a2 1 (ints g)) :
    Fun Tryz.prog 34 [listV i, .slice am ms.length cm, .slice a 2 2, .int .i64 layer] A fun v B => ∃ a' rows, v = .tuple #[.slice a' rows.length rows.length, .int .i64 0] ∧ Sl B a' 3 rows ∧ CellsR B rows (ms.map (markCell layer f g)) := by
  refine fun_walkV (fn := Tryz.f34) Tryz.func34 rfl rfl (fun V0 le0 st0 => ?_)
  replace hs := hs.le le0
  replace hmk := hmk.le le0
  replace ha := ha.le le0
  replace h1 := h1.le le0
  replace h2 := h2.le le0
  refine w_seq (w_region env ?_)
  refine wo_allocF st0 (cs := [.int .i64 1, .slice (some ⟨i, 0, some 0⟩) 3 3]) 1 rfl rfl (fun _ => rfl) rfl rfl (fun i4 V1 B1 st1 le1 hL => ?_)
  replace hs := hs.le le1
  replace hmk := hmk.le le1
  replace ha := ha.le le1
  replace h1 := h1.le le1
  replace h2 := h2.le le1
  repeat (first | refine w_seq ?_ | refine w_region env ?_ | refine wo_nil ?_ | (refine wo_gate ?_ ?_; rfl; refine wo_pure rfl rfl (fun _ => rfl) rfl rfl ?_) | refine wo_not rfl rfl ?_ | refine wo_max rfl rfl rfl rfl ?_ | refine wo_min rfl rfl rfl rfl ?_ | refine wo_loads rfl (hL.rds st1.le 2 rfl) rfl rfl rfl rfl rfl rfl ?_)
  refine wo_callX st1 (signs_fun hs) rfl rfl rfl ?_
  rintro v r hr rfl
  obtain ⟨V2, st2, le2, _⟩ := st1.callE hr
  replace hs := hs.le le2
  replace hmk := hmk.le le2
  replace ha := ha.le le2
  replace h1 := h1.le le2
  replace h2 := h2.le le2
  replace hL := hL.le le2
  repeat (first | refine w_seq ?_ | refine w_region env ?_ | refine wo_nil ?_ | (refine wo_gate ?_ ?_; rfl; refine wo_pure rfl rfl (fun _ => rfl) rfl rfl ?_) | refine wo_not rfl rfl ?_ | refine wo_max rfl rfl rfl rfl ?_ | refine wo_min rfl rfl rfl rfl ?_)
  refine w_cond _ rfl (fun h => by cases h) (fun _ => ?_)
  refine w_skip ?_
  repeat (first | refine w_seq ?_ | refine w_region env ?_ | refine wo_nil ?_ | (refine wo_gate ?_ ?_; rfl; refine wo_pure rfl rfl (fun _ => rfl) rfl rfl ?_) | refine wo_not rfl rfl ?_ | refine wo_max rfl rfl rfl rfl ?_ | refine wo_min rfl rfl rfl rfl ?_)
  have e1 : decide ((ms.length : Int) > 40) = false := by simp; omega
  rw [e1]
  repeat (first | refine w_seq ?_ | refine w_region env ?_ | refine wo_nil ?_ | (refine wo_gate ?_ ?_; rfl; refine wo_pure rfl rfl (fun _ => rfl) rfl rfl ?_) | refine wo_not rfl rfl ?_ | refine wo_max rfl rfl rfl rfl ?_ | refine wo_min rfl rfl rfl rfl ?_)
  refine w_cond _ rfl (fun h => by cases h) (fun _ => ?_)
  refine w_skip ?_
  repeat (first | refine w_seq ?_ | refine w_region env ?_ | refine wo_nil ?_ | (refine wo_gate ?_ ?_; rfl; refine wo_pure rfl rfl (fun _ => rfl) rfl rfl ?_) | refine wo_not rfl rfl ?_ | refine wo_max rfl rfl rfl rfl ?_ | refine wo_min rfl rfl rfl rfl ?_ | refine wo_load rfl (hL.rdq st2.le 1 rfl) rfl rfl rfl rfl rfl ?_)
  refine wo_varF st2 rfl rfl (fun _ h => by cases h; rfl) rfl rfl rfl rfl rfl rfl rfl rfl rfl rfl rfl (fun i11 V3 B3 st3 le3 h11 => ?_)
  replace hs := hs.le le3
  replace hmk := hmk.le le3
  replace ha := ha.le le3
  replace h1 := h1.le le3
  replace h2 := h2.le le3
  repeat (first | refine w_seq ?_ | refine w_region env ?_ | refine wo_nil ?_ | (refine wo_gate ?_ ?_; rfl; refine wo_pure rfl rfl (fun _ => rfl) rfl rfl ?_) | refine wo_not rfl rfl ?_ | refine wo_max rfl rfl rfl rfl ?_ | refine wo_min rfl rfl rfl rfl ?_)
  refine w_block ?_
  refine w_loop (fun j m' B => ∃ V, Sta V0 V B [] ∧ Le V3 V ∧ ∃ q : Nat, j + q = 2 ∧ m' = [(36, .int .i64 q), (35, .int .i64 2), (34, .slice a 2 2), (11, .pointer (some ⟨i11, 0, some 0⟩)), (1, .slice am ms.length cm), (2, .slice a 2 2), (3, .int .i64 layer), (8, .slice none 0 0)]) 2
    (Sub.cons rfl (Sub.cons rfl (Sub.cons rfl (Sub.cons rfl (Sub.cons rfl (Sub.cons rfl (Sub.cons rfl (Sub.cons rfl Sub.nil)))))))) ⟨V3, st3, .refl _, 0, by omega, rfl⟩ ?_
  clear st3 st2 st1
  rintro j m' B ⟨V, st, le4, q, hjq, rfl⟩
  replace hs := hs.le le4
  replace hmk := hmk.le le4
  replace ha := ha.le le4
  replace h1 := h1.le le4
  replace h2 := h2.le le4
  replace h11 := h11.le le4
  repeat (first | refine w_seq ?_ | refine w_region env ?_ | refine wo_nil ?_ | (refine wo_gate ?_ ?_; rfl; refine wo_pure rfl rfl (fun _ => rfl) rfl rfl ?_) | refine wo_not rfl rfl ?_ | refine wo_max rfl rfl rfl rfl ?_ | refine wo_min rfl rfl rfl rfl ?_)
  refine w_cond _ rfl (fun hlt => ?_) (fun hge => ?_)
  · have hq2 : q < 2 := by
      have : (q : Int) < 2 := by simpa using hlt
      omega
    refine w_skip ?_
    refine w_seq (w_block ?_)
    obtain ⟨fq, aq, hfq, hrow, hsl⟩ : ∃ (fq : List Int) (aq : Option Addr), fq ∈ subs3 ∧ [[Value.slice a1 f.length f.length], [Value.slice a2 g.length g.length]][q]? = some [.slice aq fq.length fq.length] ∧ Sl V aq 1 (ints fq) := by
      rcases q with _ | _ | q
      · exact ⟨f, a1, hf, rfl, h1.sl⟩
      · exact ⟨g, a2, hg, rfl, h2.sl⟩
      · omega
    repeat (first | refine w_seq ?_ | refine w_region env ?_ | refine wo_nil ?_ | (refine wo_gate ?_ ?_; rfl; refine wo_pure rfl rfl (fun _ => rfl) rfl rfl ?_) | refine wo_not rfl rfl ?_ | refine wo_max rfl rfl rfl rfl ?_ | refine wo_min rfl rfl rfl rfl ?_)
    refine wo_at _ rfl (ha.sl.le st.le) rfl rfl rfl rfl rfl rfl (by omega) (by rw [Int.toNat_natCast]; exact hrow) (fun p hp => ?_)
    refine wo_load rfl hp rfl rfl rfl rfl rfl ?_
    repeat (first | refine w_seq ?_ | refine w_region env ?_ | refine wo_nil ?_ | (refine wo_gate ?_ ?_; rfl; refine wo_pure rfl rfl (fun _ => rfl) rfl rfl ?_) | refine wo_not rfl rfl ?_ | refine wo_max rfl rfl rfl rfl ?_ | refine wo_min rfl rfl rfl rfl ?_)
    have hfl := subs3_len fq hfq
    refine wo_callX st (containsFunc_fun hsl (by omega) (fun B2 hB2 x hx => ofOut_fun (n := 3) (h11.le ((Le.ro V).trans (Le.pre hB2))) (by omega) (by have := subs3_in fq hfq x hx; omega))) rfl rfl rfl ?_
    rintro v r hr rfl
    obtain ⟨V5, st5, le5, _⟩ := st.callE hr
    repeat (first | refine w_seq ?_ | refine w_region env ?_ | refine wo_nil ?_ | (refine wo_gate ?_ ?_; rfl; refine wo_pure rfl rfl (fun _ => rfl) rfl rfl ?_) | refine wo_not rfl rfl ?_ | refine wo_max rfl rfl rfl rfl ?_ | refine wo_min rfl rfl rfl rfl ?_)
    refine w_cond _ rfl (fun h => by cases h) (fun _ => ?_)
    refine w_skip ?_
    repeat (first | refine w_seq ?_ | refine w_region env ?_ | refine wo_nil ?_ | (refine wo_gate ?_ ?_; rfl; refine wo_pure rfl rfl (fun _ => rfl) rfl rfl ?_) | refine wo_not rfl rfl ?_ | refine wo_max rfl rfl rfl rfl ?_ | refine wo_min rfl rfl rfl rfl ?_)
    exact ⟨j - 1, [(36, _), (35, _), (34, _), (11, _), (1, _), (2, _), (3, _), (8, _)], by omega, (Sub.cons rfl (Sub.cons rfl (Sub.cons rfl (Sub.cons rfl (Sub.cons rfl (Sub.cons rfl (Sub.cons rfl (Sub.cons rfl Sub.nil)))))))), V5, st5, le4.trans le5, q + 1, by omega, by rw [i64_nat (by omega)]⟩
  · have hq2 : q = 2 := by
      have : ¬ (q : Int) < 2 := by simpa using hge
      omega
    refine w_exit ?_
    repeat (first | refine w_seq ?_ | refine w_region env ?_ | refine wo_nil ?_ | (refine wo_gate ?_ ?_; rfl; refine wo_pure rfl rfl (fun _ => rfl) rfl rfl ?_) | refine wo_not rfl rfl ?_ | refine wo_max rfl rfl rfl rfl ?_ | refine wo_min rfl rfl rfl rfl ?_)
    refine wo_callX st (within_fun _ _ _) rfl rfl rfl ?_
    rintro v r hr rfl
    obtain ⟨V5, st5, le5, _⟩ := st.callE hr
    replace hs := hs.le le5
    replace hmk := hmk.le le5
    replace ha := ha.le le5
    replace h1 := h1.le le5
    replace h2 := h2.le le5
    replace h11 := h11.le le5
    clear st
    have e2 : (decide (0 ≤ layer) && decide (layer ≤ 1)) = true := by simp; omega
    rw [e2]
    repeat (first | refine w_seq ?_ | refine w_region env ?_ | refine wo_nil ?_ | (refine wo_gate ?_ ?_; rfl; refine wo_pure rfl rfl (fun _ => rfl) rfl rfl ?_) | refine wo_not rfl rfl ?_ | refine wo_max rfl rfl rfl rfl ?_ | refine wo_min rfl rfl rfl rfl ?_)
    refine w_cond _ rfl (fun h => by cases h) (fun _ => ?_)
    refine w_skip ?_
    repeat (first | refine w_seq ?_ | refine w_region env ?_ | refine wo_nil ?_ | (refine wo_gate ?_ ?_; rfl; refine wo_pure rfl rfl (fun _ => rfl) rfl rfl ?_) | refine wo_not rfl rfl ?_ | refine wo_max rfl rfl rfl rfl ?_ | refine wo_min rfl rfl rfl rfl ?_)
    refine w_block ?_
    refine w_loop (fun j m' B => ∃ V a' rows, Sta V0 V B [.acc a' 3 rows] ∧ Le V5 V ∧ ∃ q : Nat, j + q = ms.length ∧ CellsR V rows ((ms.take q).map (markCell layer f g)) ∧
        m' = [(49, .int .i64 q), (48, .int .i64 ms.length), (47, .slice am ms.length cm), (11, .pointer (some ⟨i11, 0, some 0⟩)), (2, .slice a 2 2), (3, .int .i64 layer), (8, .slice a' rows.length rows.length)]) ms.length
      (Sub.cons rfl (Sub.cons rfl (Sub.cons rfl (Sub.cons rfl (Sub.cons rfl (Sub.cons rfl (Sub.cons rfl Sub.nil))))))) ⟨V5, none, [], st5.addAcc 3, .refl _, 0, by omega, CellsR.nil, rfl⟩ ?_
    clear st5 hge hjq hq2
    rintro j m' B6 ⟨V6, a', rows, st6, le6, q, hjq, hR, rfl⟩
    have hrl : rows.length = q := by have := hR.1; simp at this; omega
    replace hs := hs.le le6
    replace hmk := hmk.le le6
    replace ha := ha.le le6
    replace h1 := h1.le le6
    replace h2 := h2.le le6
    replace h11 := h11.le le6
    repeat (first | refine w_seq ?_ | refine w_region env ?_ | refine wo_nil ?_ | (refine wo_gate ?_ ?_; rfl; refine wo_pure rfl rfl (fun _ => rfl) rfl rfl ?_) | refine wo_not rfl rfl ?_ | refine wo_max rfl rfl rfl rfl ?_ | refine wo_min rfl rfl rfl rfl ?_)
    refine w_cond _ rfl (fun hlt => ?_) (fun hge => ?_)
    · have hqm : q < ms.length := by simpa using hlt
      refine w_skip ?_
      refine w_seq (w_block ?_)
      repeat (first | refine w_seq ?_ | refine w_region env ?_ | refine wo_nil ?_ | (refine wo_gate ?_ ?_; rfl; refine wo_pure rfl rfl (fun _ => rfl) rfl rfl ?_) | refine wo_not rfl rfl ?_ | refine wo_max rfl rfl rfl rfl ?_ | refine wo_min rfl rfl rfl rfl ?_)
      refine wo_at (markRow ms[q]) rfl (hmk.le st6.le) rfl rfl rfl rfl rfl (by simp) (by omega) (by simp [hqm]) (fun p hp => ?_)
      refine wo_loads rfl hp rfl rfl rfl rfl rfl rfl ?_
      refine wo_varsF st6 rfl (fun _ h => by cases h; rfl) rfl rfl rfl rfl rfl rfl rfl rfl rfl rfl rfl (fun i15 V7 B7 st7 le7 h15 => ?_)
      replace hs := hs.le le7
      replace hmk := hmk.le le7
      replace ha := ha.le le7
      replace h1 := h1.le le7
      replace h2 := h2.le le7
      replace h11 := h11.le le7
      repeat (first | refine w_seq ?_ | refine w_region env ?_ | refine wo_nil ?_ | (refine wo_gate ?_ ?_; rfl; refine wo_pure rfl rfl (fun _ => rfl) rfl rfl ?_) | refine wo_not rfl rfl ?_ | refine wo_max rfl rfl rfl rfl ?_ | refine wo_min rfl rfl rfl rfl ?_ | refine wo_load rfl (h11.rd1 st7.le) rfl rfl rfl rfl rfl ?_ | refine wo_loads rfl (h15.rds st7.le 4 rfl) rfl rfl rfl rfl rfl rfl ?_)
      refine wo_callX st7 (cell_fun (hms ms[q] (by simp)) hf hg hl ha h1 h2) rfl rfl rfl ?_
      rintro v r hr ⟨row, rfl, hrow⟩
      obtain ⟨V8, st8, le8, le9⟩ := st7.callE hr
      replace hs := hs.le le8
      replace hmk := hmk.le le8
      replace ha := ha.le le8
      replace h1 := h1.le le8
      replace h2 := h2.le le8
      replace h11 := h11.le le8
      obtain ⟨sa, sc, rfl, hsl, hnil⟩ := hrow
      replace hsl := hsl.le le9
      repeat (first | refine w_seq ?_ | refine w_region env ?_ | refine wo_nil ?_ | (refine wo_gate ?_ ?_; rfl; refine wo_pure rfl rfl (fun _ => rfl) rfl rfl ?_) | refine wo_not rfl rfl ?_ | refine wo_max rfl rfl rfl rfl ?_ | refine wo_min rfl rfl rfl rfl ?_)
      refine wo_varsF st8 rfl (fun _ h => by cases h; rfl) rfl rfl rfl rfl rfl rfl rfl rfl rfl rfl rfl (fun i16 V9 B9 st9 le10 h16 => ?_)
      repeat (first | refine w_seq ?_ | refine w_region env ?_ | refine wo_nil ?_ | (refine wo_gate ?_ ?_; rfl; refine wo_pure rfl rfl (fun _ => rfl) rfl rfl ?_) | refine wo_not rfl rfl ?_ | refine wo_max rfl rfl rfl rfl ?_ | refine wo_min rfl rfl rfl rfl ?_)
      refine w_cond _ rfl (fun h => by cases h) (fun _ => ?_)
      refine w_skip ?_
      repeat (first | refine w_seq ?_ | refine w_region env ?_ | refine wo_nil ?_ | (refine wo_gate ?_ ?_; rfl; refine wo_pure rfl rfl (fun _ => rfl) rfl rfl ?_) | refine wo_not rfl rfl ?_ | refine wo_max rfl rfl rfl rfl ?_ | refine wo_min rfl rfl rfl rfl ?_ | refine wo_loads rfl (h16.rds st9.le 3 rfl) rfl rfl rfl rfl rfl rfl ?_)
      refine wo_mkF st9 (cs := [.int .i64 (markCell layer f g ms[q]).mn, .int .i64 (markCell layer f g ms[q]).mx, .slice sa (markCell layer f g ms[q]).sg.length sc]) 3 rfl rfl (fun _ => rfl) rfl rfl (fun iN V10 B10 st10 le11 f10 => ?_)
      refine wo_app1 st10 0 rfl rfl rfl f10 rfl rfl rfl rfl (by omega) rfl rfl rfl rfl rfl rfl rfl rfl rfl rfl (fun a3 V11 B11 st11 le12 => ?_)
      replace st11 : Sta V0 V11 B11 [.acc a3 3 (rows ++ [[Value.int .i64 (markCell layer f g ms[q]).mn, Value.int .i64 (markCell layer f g ms[q]).mx, Value.slice sa (markCell layer f g ms[q]).sg.length sc]])] := st11
      repeat (first | refine w_seq ?_ | refine w_region env ?_ | refine wo_nil ?_ | (refine wo_gate ?_ ?_; rfl; refine wo_pure rfl rfl (fun _ => rfl) rfl rfl ?_) | refine wo_not rfl rfl ?_ | refine wo_max rfl rfl rfl rfl ?_ | refine wo_min rfl rfl rfl rfl ?_)
      have lea := le10.trans (le11.trans le12)
      refine ⟨j - 1, [(49, _), (48, _), (47, _), (11, _), (2, _), (3, _), (8, _)], by omega, (Sub.cons rfl (Sub.cons rfl (Sub.cons rfl (Sub.cons rfl (Sub.cons rfl (Sub.cons rfl (Sub.cons rfl Sub.nil))))))), V11, a3, _, st11, le6.trans (le7.trans (le8.trans lea)), q + 1, by omega, ?_, ?_⟩
      · rw [show (ms.take (q + 1)).map (markCell layer f g) = (ms.take q).map (markCell layer f g) ++ [markCell layer f g ms[q]] by rw [List.take_add_one, List.getElem?_eq_getElem hqm]; simp only [Option.toList_some, List.map_append, List.map_cons, List.map_nil]]
        exact (hR.le (le7.trans (le8.trans lea))).snoc ⟨sa, sc, rfl, hsl.le lea, hnil⟩
      · rw [i64_nat (by omega), List.length_append]; rfl
    · have hqm : q = ms.length := by
        have : ¬ (q : Int) < (ms.length : Int) := by simpa using hge
        omega
      subst hqm
      rw [List.take_length] at hR
      refine w_exit ?_
      repeat (first | refine w_seq ?_ | refine w_region env ?_ | refine wo_nil ?_ | (refine wo_gate ?_ ?_; rfl; refine wo_pure rfl rfl (fun _ => rfl) rfl rfl ?_) | refine wo_not rfl rfl ?_ | refine wo_max rfl rfl rfl rfl ?_ | refine wo_min rfl rfl rfl rfl ?_ | refine wo_load rfl (h11.rd1 st6.le) rfl rfl rfl rfl rfl ?_)
      obtain ⟨V7, st7, le7, hsl7, _⟩ := st6.frzAcc (k := 0) rfl
      refine wo_callX st7 (right_fun (n := 3) hsl7 (hR.le le7) (fun c hc => ?_) (by omega) (by simp; omega)) rfl rfl rfl ?_
      · obtain ⟨m, hm, rfl⟩ := List.mem_map.1 hc
        exact markCell_ok (hms m hm) _ _ _
      rintro v r hr rfl
      obtain ⟨V8, st8, le8, _⟩ := st6.callE hr
      repeat (first | refine w_seq ?_ | refine w_region env ?_ | refine wo_nil ?_ | (refine wo_gate ?_ ?_; rfl; refine wo_pure rfl rfl (fun _ => rfl) rfl rfl ?_) | refine wo_not rfl rfl ?_ | refine wo_max rfl rfl rfl rfl ?_ | refine wo_min rfl rfl rfl rfl ?_)
      refine w_cond _ rfl (fun h => by cases h) (fun _ => ?_)
      refine w_skip ?_
      repeat (first | refine w_seq ?_ | refine w_region env ?_ | refine wo_nil ?_ | (refine wo_gate ?_ ?_; rfl; refine wo_pure rfl rfl (fun _ => rfl) rfl rfl ?_) | refine wo_not rfl rfl ?_ | refine wo_max rfl rfl rfl rfl ?_ | refine wo_min rfl rfl rfl rfl ?_)
      exact w_ret ⟨.inr rfl, st8.gr, _, rfl, a', rows, rfl, st8.acc (k := 0) rfl, hR.le (le8.trans st8.le)⟩
end Go.Proofs.YtdjcbpicdnhciaaGreat
