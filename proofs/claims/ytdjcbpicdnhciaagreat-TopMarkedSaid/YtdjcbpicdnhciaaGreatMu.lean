/- The law about marks on a wall: the marks and the cells that are due. -/
import Derived.Test.YtdjcbpicdnhciaaGreatMt
import Derived.Test.YtdjcbpicdnhciaaGreatEh
set_option linter.unusedVariables false
set_option linter.unusedSimpArgs false
open Go Go.Dx Go.Proofs
namespace Go.Proofs.YtdjcbpicdnhciaaGreat
set_option maxRecDepth 20000
-- NEW

theorem filter_take3 (p : Int → Bool) (s : Nat) (h : s < 3) : ([(0 : Int), 1, 2].take (s + 1)).filter p = ([(0 : Int), 1, 2].take s).filter p ++ (if p s then [(s : Int)] else []) := by
  rcases s with _ | _ | _ | s
  · cases h0 : p 0 <;> simp [h0]
  · cases h0 : p 0 <;> cases h1 : p 1 <;> simp [List.filter, h0, h1]
  · cases h0 : p 0 <;> cases h1 : p 1 <;> cases h2 : p 2 <;> simp [List.filter, h0, h1, h2]
  · omega

theorem markCell_in {m : MarkS} (hm : m.Ok) (layer : Int) {f g : List Int} : (markCell layer f g m).sg ∈ subs3 := by
  obtain ⟨a, b, c⟩ := hm
  unfold markCell
  split
  · simp [subs3]
  · split
    · exact famS_in _ _ _
    · split
      · exact one_in (by omega)
      · simp [subs3]

theorem e5_456 {V0 V B : Hp} {m : TF} {ms : List TriS} {cm : Nat} {am a a1 a2 : Option Addr} {f g : List Int} {ly : Int} {v13 v3 v4 v5 : Value} {rest : Code} {Q : Exit → TF → Hp → Prop} (st : Sta V0 V B []) (hF : FamsAt V a a1 a2 f g) (hf : f ∈ subs3) (hg : g ∈ subs3)
    (hm : Sl V am 3 (ms.map triRow)) (hwm : Wel V am 3) (hcm : ms.length ≤ cm) (hms : ∀ t ∈ ms, t.Ok) (hly : 0 ≤ ly ∧ ly ≤ 255) (hsub : Sub [(0, .slice am ms.length cm), (14, .slice a 2 2), (13, v13), (2, .int .u8 ly), (3, v3), (4, v4), (5, v5)] m)
    (k : ∀ m' B' V' ar ad dd n, n = min ms.length 4 → Sta V0 V' B' [] → Le V V' → Sl V' ar 4 (((ms.take n).map triMark).map markRow) → Sl V' ad 3 dd → CellsR V' dd (((ms.take n).map triMark).map (markCell (ly % 2) f g)) →
      Sub [(19, .slice ar n n), (20, .slice ad n n), (14, .slice a 2 2), (13, v13), (2, .int .u8 ly), (3, v3), (4, v4), (5, v5)] m' → W Tryz.prog 549 rest m' B' Q) :
    W Tryz.prog 549 (.seq (e5 4) (.seq (e5 5) (.seq (e5 6) rest))) m B Q := by
  refine w_sub hsub ?_
  obtain ⟨n, hn⟩ : ∃ n, n = min ms.length 4 := ⟨_, rfl⟩
  have hmin : min (ms.length : Int) 4 = (n : Int) := by omega
  repeat (first | refine w_seq ?_ | refine w_region env ?_ | refine wo_nil ?_ | (refine wo_gate ?_ ?_; rfl; refine wo_pure rfl rfl (fun _ => rfl) rfl rfl ?_) | refine wo_not rfl rfl ?_ | refine wo_max rfl rfl rfl rfl ?_ | refine wo_min rfl rfl rfl rfl ?_)
  rw [hmin]
  refine wo_sliceV st (l := 0) (h := n) rfl hm (by simp) hcm rfl rfl rfl rfl rfl rfl hwm (dBound_eq rfl (by omega)) rfl (by omega) (by simp; omega) (fun am1 ha1' _ _ => ?_)
  obtain ⟨V_, hV_⟩ : ∃ V_, V_ = V := ⟨_, rfl⟩
  repeat (first | refine w_seq ?_ | refine w_region env ?_ | refine wo_nil ?_ | (refine wo_gate ?_ ?_; rfl; refine wo_pure rfl rfl (fun _ => rfl) rfl rfl ?_) | refine wo_not rfl rfl ?_ | refine wo_max rfl rfl rfl rfl ?_ | refine wo_min rfl rfl rfl rfl ?_)
  refine w_block ?_
  refine w_loop (fun j m' B => ∃ V ar rr ad dd, Sta V0 V B [.acc ar 4 rr, .acc ad 3 dd] ∧ Le V_ V ∧ ∃ i : Nat, j + i = n ∧ rr = ((ms.take i).map triMark).map markRow ∧ CellsR V dd (((ms.take i).map triMark).map (markCell (ly % 2) f g)) ∧
      m' = [(110, .int .i64 i), (109, .int .i64 (n : Nat)), (108, .slice am1 n (cm - 0)), (19, .slice ar rr.length rr.length), (20, .slice ad dd.length dd.length), (14, .slice a 2 2), (13, v13), (2, .int .u8 ly), (3, v3), (4, v4), (5, v5)]) n
    (Sub.cons rfl (Sub.cons rfl (Sub.cons rfl (Sub.cons rfl (Sub.cons rfl (Sub.cons rfl (Sub.cons rfl (Sub.cons rfl (Sub.cons rfl (Sub.cons rfl (Sub.cons rfl Sub.nil))))))))))) ⟨V, none, [], none, [], (st.addAcc 3).addAcc 4, by rw [hV_]; exact .refl _, 0, by omega, rfl, CellsR.nil, rfl⟩ ?_
  rintro j m' B1 ⟨V1, ar, rr, ad, dd, st1, le1, i, hji, hrr, hdd, rfl⟩
  subst hV_
  have hrl : rr.length = i := by rw [hrr]; simp; omega
  have hdl : dd.length = i := by have := hdd.1; simp at this; omega
  repeat (first | refine w_seq ?_ | refine w_region env ?_ | refine wo_nil ?_ | (refine wo_gate ?_ ?_; rfl; refine wo_pure rfl rfl (fun _ => rfl) rfl rfl ?_) | refine wo_not rfl rfl ?_ | refine wo_max rfl rfl rfl rfl ?_ | refine wo_min rfl rfl rfl rfl ?_)
  refine w_cond _ rfl (fun hlt => ?_) (fun hge => ?_)
  · have hin : i < n := by simpa using hlt
    have hih : i < ms.length := by omega
    obtain ⟨oa, ob, oc⟩ := hms ms[i] (by simp)
    have hmk := triMark_ok (hms ms[i] (by simp))
    obtain ⟨mk, hmk0⟩ : ∃ mk, mk = triMark ms[i] := ⟨_, rfl⟩
    refine w_skip ?_
    refine w_seq (w_block ?_)
    repeat (first | refine w_seq ?_ | refine w_region env ?_ | refine wo_nil ?_ | (refine wo_gate ?_ ?_; rfl; refine wo_pure rfl rfl (fun _ => rfl) rfl rfl ?_) | refine wo_not rfl rfl ?_ | refine wo_max rfl rfl rfl rfl ?_ | refine wo_min rfl rfl rfl rfl ?_)
    refine wo_at (triRow ms[i]) rfl (ha1'.le (le1.trans st1.le)) rfl rfl rfl rfl rfl (by simp; omega) (by omega) (by simp [hin, hih]) (fun p hp => ?_)
    refine wo_loads rfl hp rfl rfl rfl rfl rfl rfl ?_
    refine wo_varsF st1 rfl (fun _ h => by cases h; rfl) rfl rfl rfl rfl rfl rfl rfl rfl rfl rfl rfl (fun i22 V2 B2 st2 le2 h22 => ?_)
    refine wo_nil ?_
    refine w_seq (w_draw env 9 (by kernel_rfl) ?_)
    refine wo_ixA 0 1 0 rfl rfl rfl (by omega) rfl rfl rfl rfl rfl ?_
    repeat (first | refine w_seq ?_ | refine w_region env ?_ | refine wo_nil ?_ | (refine wo_gate ?_ ?_; rfl; refine wo_pure rfl rfl (fun _ => rfl) rfl rfl ?_) | refine wo_not rfl rfl ?_ | refine wo_max rfl rfl rfl rfl ?_ | refine wo_min rfl rfl rfl rfl ?_ | refine wo_load rfl (h22.rdq st2.le 0 rfl) rfl rfl rfl rfl rfl ?_)
    rw [u8_modc oa (.inr rfl), i64_small (z := ms[i].a % 4 - 1) (by omega) (by omega)]
    refine wo_ixA 1 1 1 rfl rfl rfl (by omega) rfl rfl rfl rfl rfl ?_
    repeat (first | refine w_seq ?_ | refine w_region env ?_ | refine wo_nil ?_ | (refine wo_gate ?_ ?_; rfl; refine wo_pure rfl rfl (fun _ => rfl) rfl rfl ?_) | refine wo_not rfl rfl ?_ | refine wo_max rfl rfl rfl rfl ?_ | refine wo_min rfl rfl rfl rfl ?_ | refine wo_load rfl (h22.rdq st2.le 1 rfl) rfl rfl rfl rfl rfl ?_)
    rw [u8_modc ob (.inr rfl)]
    refine wo_ixA 2 1 2 rfl rfl rfl (by omega) rfl rfl rfl rfl rfl ?_
    repeat (first | refine w_seq ?_ | refine w_region env ?_ | refine wo_nil ?_ | (refine wo_gate ?_ ?_; rfl; refine wo_pure rfl rfl (fun _ => rfl) rfl rfl ?_) | refine wo_not rfl rfl ?_ | refine wo_max rfl rfl rfl rfl ?_ | refine wo_min rfl rfl rfl rfl ?_ | refine wo_load rfl (h22.rdq st2.le 2 rfl) rfl rfl rfl rfl rfl ?_)
    rw [u8_modc oc (.inl rfl)]
    refine wo_ixA 2 1 2 rfl rfl rfl (by omega) rfl rfl rfl rfl rfl ?_
    repeat (first | refine w_seq ?_ | refine w_region env ?_ | refine wo_nil ?_ | (refine wo_gate ?_ ?_; rfl; refine wo_pure rfl rfl (fun _ => rfl) rfl rfl ?_) | refine wo_not rfl rfl ?_ | refine wo_max rfl rfl rfl rfl ?_ | refine wo_min rfl rfl rfl rfl ?_ | refine wo_load rfl (h22.rdq st2.le 2 rfl) rfl rfl rfl rfl rfl ?_)
    rw [u8_modc oc (.inl rfl)]
    refine wo_ixA 2 1 2 rfl rfl rfl (by omega) rfl rfl rfl rfl rfl ?_
    repeat (first | refine w_seq ?_ | refine w_region env ?_ | refine wo_nil ?_ | (refine wo_gate ?_ ?_; rfl; refine wo_pure rfl rfl (fun _ => rfl) rfl rfl ?_) | refine wo_not rfl rfl ?_ | refine wo_max rfl rfl rfl rfl ?_ | refine wo_min rfl rfl rfl rfl ?_ | refine wo_load rfl (h22.rdq st2.le 2 rfl) rfl rfl rfl rfl rfl ?_)
    have e3 : dwrap .u8 (ms[i].c.tdiv 3) = ms[i].c / 3 := by
      rw [Int.tdiv_eq_ediv_of_nonneg oc.1]
      exact u8_small (by omega) (by omega)
    rw [e3, u8_modc (z := ms[i].c / 3) (by omega) (.inr rfl), i64_small (z := ms[i].c % 3 + ms[i].c / 3 % 4) (by omega) (by omega)]
    refine wo_varsF st2 (vs := markRow mk) (by rw [hmk0]; rfl) (fun _ h => by cases h; rfl) rfl rfl rfl rfl rfl rfl rfl rfl rfl rfl rfl (fun i25 V3 B3 st3 le3 h25 => ?_)
    rw [show ms[i].a % 4 - 1 = mk.sign by rw [hmk0]; rfl, show ms[i].b % 4 = mk.state by rw [hmk0]; rfl]
    repeat (first | refine w_seq ?_ | refine w_region env ?_ | refine wo_nil ?_ | (refine wo_gate ?_ ?_; rfl; refine wo_pure rfl rfl (fun _ => rfl) rfl rfl ?_) | refine wo_not rfl rfl ?_ | refine wo_max rfl rfl rfl rfl ?_ | refine wo_min rfl rfl rfl rfl ?_ | refine wo_loads rfl (h25.rds st3.le 4 rfl) rfl rfl rfl rfl rfl rfl ?_)
    refine wo_mkF st3 (cs := markRow mk) 4 rfl rfl (fun _ => rfl) rfl rfl (fun iN V4 B4 st4 le4 f4 => ?_)
    refine wo_app1 st4 0 rfl rfl rfl f4 rfl rfl rfl rfl (by omega) rfl rfl rfl rfl rfl rfl rfl rfl rfl rfl (fun ar2 V5 B5 st5 le5 => ?_)
    replace h25 := h25.le (le4.trans le5)
    repeat (first | refine w_seq ?_ | refine w_region env ?_ | refine wo_nil ?_ | (refine wo_gate ?_ ?_; rfl; refine wo_pure rfl rfl (fun _ => rfl) rfl rfl ?_) | refine wo_not rfl rfl ?_ | refine wo_max rfl rfl rfl rfl ?_ | refine wo_min rfl rfl rfl rfl ?_)
    refine wo_varsO st5 rfl (fun _ h => by cases h; rfl) rfl rfl rfl rfl rfl rfl rfl rfl rfl rfl rfl (fun i26 V6 B6 st6 le6 => ?_)
    repeat (first | refine w_seq ?_ | refine w_region env ?_ | refine wo_nil ?_ | (refine wo_gate ?_ ?_; rfl; refine wo_pure rfl rfl (fun _ => rfl) rfl rfl ?_) | refine wo_not rfl rfl ?_ | refine wo_max rfl rfl rfl rfl ?_ | refine wo_min rfl rfl rfl rfl ?_)
    refine wo_allocO st6 (cs := [.bool false, .bool false, .bool false]) 1 rfl rfl (fun _ => rfl) rfl rfl (fun i27 V7 B7 st7 le7 => ?_)
    have lea : Le V1 V7 := le2.trans (le3.trans (le4.trans (le5.trans (le6.trans le7))))
    replace h25 := h25.le (le6.trans le7)
    replace st7 : Sta V0 V7 B7 [.obj i27 ⟨hasL (fun _ => false), false, false, 1, 0⟩, .obj i26 ⟨[.int .i64 1, .int .i64 1, .slice none 0 0], false, false, 1, 0⟩, .acc ar2 4 (rr ++ [markRow mk]), .acc ad 3 dd] := st7
    clear st6 st5 st4 st3 st2 f4 h22
    obtain ⟨mc, hmc⟩ : ∃ mc, mc = markCell (ly % 2) f g mk := ⟨_, rfl⟩
    have hmcin : mc.sg ∈ subs3 := by rw [hmc, hmk0]; exact markCell_in hmk _
    have ely : ly.tmod 2 = ly % 2 := Int.tmod_eq_emod_of_nonneg hly.1
    rw [← hmk0] at hmk
    obtain ⟨ka, kb, kc⟩ := hmk
    refine wo_nil ?_
    refine w_seq ?_
    refine w_mono (Q := Mid fun m' B => Sta V0 V7 B [.obj i27 ⟨hasL (fun s => decide (s ∈ mc.sg)), false, false, 1, 0⟩, .obj i26 ⟨[.int .i64 mc.mn, .int .i64 mc.mx, .slice none 0 0], false, false, 1, 0⟩, .acc ar2 4 (rr ++ [markRow mk]), .acc ad 3 dd] ∧
      Sub [(27, .pointer (some ⟨i27, 0, some 0⟩)), (26, .pointer (some ⟨i26, 0, some 0⟩)), (110, .int .i64 i), (109, .int .i64 (n : Nat)), (108, .slice am1 n (cm - 0)), (19, .slice ar2 (rr.length + 1) (rr.length + 1)), (20, .slice ad dd.length dd.length), (14, .slice a 2 2), (13, v13), (2, .int .u8 ly), (3, v3), (4, v4), (5, v5)] m') ?_ ?_
    · refine w_block ?_
      repeat (first | refine w_seq ?_ | refine w_region env ?_ | refine wo_nil ?_ | (refine wo_gate ?_ ?_; rfl; refine wo_pure rfl rfl (fun _ => rfl) rfl rfl ?_) | refine wo_not rfl rfl ?_ | refine wo_max rfl rfl rfl rfl ?_ | refine wo_min rfl rfl rfl rfl ?_)
      refine w_cond _ rfl (fun hneg => ?_) (fun hneg => ?_)
      · have hneg' : mk.sign < 0 := by simpa using hneg
        repeat (first | refine w_seq ?_ | refine w_region env ?_ | refine wo_nil ?_ | (refine wo_gate ?_ ?_; rfl; refine wo_pure rfl rfl (fun _ => rfl) rfl rfl ?_) | refine wo_not rfl rfl ?_ | refine wo_max rfl rfl rfl rfl ?_ | refine wo_min rfl rfl rfl rfl ?_ | refine wo_load rfl (h25.rdq st7.le 2 rfl) rfl rfl rfl rfl rfl ?_)
        refine wo_load rfl (h25.rdq st7.le 3 rfl) rfl rfl rfl rfl rfl ?_
        repeat (first | refine w_seq ?_ | refine w_region env ?_ | refine wo_nil ?_ | (refine wo_gate ?_ ?_; rfl; refine wo_pure rfl rfl (fun _ => rfl) rfl rfl ?_) | refine wo_not rfl rfl ?_ | refine wo_max rfl rfl rfl rfl ?_ | refine wo_min rfl rfl rfl rfl ?_)
        refine wo_stW st7 1 rfl rfl rfl rfl (fun _ => rfl) rfl rfl rfl rfl (fun B8 st8 => ?_)
        have e : mc = ⟨mk.mn, mk.mx, []⟩ := by rw [hmc, markCell, if_pos hneg']
        rw [e]
        repeat (first | refine w_seq ?_ | refine w_region env ?_ | refine wo_nil ?_ | (refine wo_gate ?_ ?_; rfl; refine wo_pure rfl rfl (fun _ => rfl) rfl rfl ?_) | refine wo_not rfl rfl ?_ | refine wo_max rfl rfl rfl rfl ?_ | refine wo_min rfl rfl rfl rfl ?_)
        exact ⟨rfl, st8, (Sub.cons rfl (Sub.cons rfl (Sub.cons rfl (Sub.cons rfl (Sub.cons rfl (Sub.cons rfl (Sub.cons rfl (Sub.cons rfl (Sub.cons rfl (Sub.cons rfl (Sub.cons rfl (Sub.cons rfl (Sub.cons rfl Sub.nil)))))))))))))⟩
      have hpos : ¬ mk.sign < 0 := by simpa using hneg
      obtain ⟨sg, hsg⟩ : ∃ sg : Nat, mk.sign = (sg : Int) := ⟨mk.sign.toNat, by omega⟩
      rw [hsg]
      repeat (first | refine w_seq ?_ | refine w_region env ?_ | refine wo_nil ?_ | (refine wo_gate ?_ ?_; rfl; refine wo_pure rfl rfl (fun _ => rfl) rfl rfl ?_) | refine wo_not rfl rfl ?_ | refine wo_max rfl rfl rfl rfl ?_ | refine wo_min rfl rfl rfl rfl ?_)
      refine w_mono (Q := Mid fun m' B => B = B7 ∧ ∃ bb : Bool, Sub [(153, .bool bb), (27, .pointer (some ⟨i27, 0, some 0⟩)), (26, .pointer (some ⟨i26, 0, some 0⟩)), (23, .int .i64 sg), (24, .int .i64 mk.state), (110, .int .i64 i), (109, .int .i64 (n : Nat)), (108, .slice am1 n (cm - 0)), (19, .slice ar2 (rr.length + 1) (rr.length + 1)), (20, .slice ad dd.length dd.length), (14, .slice a 2 2), (13, v13), (2, .int .u8 ly), (3, v3), (4, v4), (5, v5)] m' ∧ (bb = true ↔ mk.state = 0 ∨ mk.state = 3 ∧ ly % 2 = 0)) ?_ ?_
      · refine w_cond _ rfl (fun h0 => ?_) (fun h0 => ?_)
        · have h0' : mk.state = 0 := by simpa using h0
          exact w_skip ⟨rfl, rfl, _, (Sub.cons rfl (Sub.cons rfl (Sub.cons rfl (Sub.cons rfl (Sub.cons rfl (Sub.cons rfl (Sub.cons rfl (Sub.cons rfl (Sub.cons rfl (Sub.cons rfl (Sub.cons rfl (Sub.cons rfl (Sub.cons rfl (Sub.cons rfl (Sub.cons rfl (Sub.cons rfl Sub.nil)))))))))))))))), by simp [h0']⟩
        · have h0' : mk.state ≠ 0 := by simpa using h0
          repeat (first | refine w_seq ?_ | refine w_region env ?_ | refine wo_nil ?_ | (refine wo_gate ?_ ?_; rfl; refine wo_pure rfl rfl (fun _ => rfl) rfl rfl ?_) | refine wo_not rfl rfl ?_ | refine wo_max rfl rfl rfl rfl ?_ | refine wo_min rfl rfl rfl rfl ?_)
          cases h3 : decide (mk.state = 3) with
          | true =>
            have e : (mk.state == 3) = true := by simpa using h3
            rw [e]
            repeat (first | refine w_seq ?_ | refine w_region env ?_ | refine wo_nil ?_ | (refine wo_gate ?_ ?_; rfl; refine wo_pure rfl rfl (fun _ => rfl) rfl rfl ?_) | refine wo_not rfl rfl ?_ | refine wo_max rfl rfl rfl rfl ?_ | refine wo_min rfl rfl rfl rfl ?_)
            have h3' : mk.state = 3 := by simpa using h3
            exact ⟨rfl, rfl, _, (Sub.cons rfl (Sub.cons rfl (Sub.cons rfl (Sub.cons rfl (Sub.cons rfl (Sub.cons rfl (Sub.cons rfl (Sub.cons rfl (Sub.cons rfl (Sub.cons rfl (Sub.cons rfl (Sub.cons rfl (Sub.cons rfl (Sub.cons rfl (Sub.cons rfl (Sub.cons rfl Sub.nil)))))))))))))))), by simp [h3', ely]⟩
          | false =>
            have e : (mk.state == 3) = false := by simpa using h3
            rw [e]
            repeat (first | refine w_seq ?_ | refine w_region env ?_ | refine wo_nil ?_ | (refine wo_gate ?_ ?_; rfl; refine wo_pure rfl rfl (fun _ => rfl) rfl rfl ?_) | refine wo_not rfl rfl ?_ | refine wo_max rfl rfl rfl rfl ?_ | refine wo_min rfl rfl rfl rfl ?_)
            have h3' : mk.state ≠ 3 := by simpa using h3
            exact ⟨rfl, rfl, _, (Sub.cons rfl (Sub.cons rfl (Sub.cons rfl (Sub.cons rfl (Sub.cons rfl (Sub.cons rfl (Sub.cons rfl (Sub.cons rfl (Sub.cons rfl (Sub.cons rfl (Sub.cons rfl (Sub.cons rfl (Sub.cons rfl (Sub.cons rfl (Sub.cons rfl (Sub.cons rfl Sub.nil)))))))))))))))), by simp [h0', h3']⟩
      · rintro _ mm B8 ⟨rfl, rfl, bb, hsub2, hbb⟩
        show W _ _ _ _ _ _
        refine w_sub hsub2 ?_
        refine w_cond _ rfl (fun hc => ?_) (fun hc => ?_)
        · have hc' := hbb.1 hc
          repeat (first | refine w_seq ?_ | refine w_region env ?_ | refine wo_nil ?_ | (refine wo_gate ?_ ?_; rfl; refine wo_pure rfl rfl (fun _ => rfl) rfl rfl ?_) | refine wo_not rfl rfl ?_ | refine wo_max rfl rfl rfl rfl ?_ | refine wo_min rfl rfl rfl rfl ?_)
          refine wo_ixA sg 1 sg rfl rfl rfl (by omega) (by omega) rfl rfl rfl rfl ?_
          refine wo_stO st7 0 rfl rfl rfl (by show sg < 3; omega) (fun _ => rfl) rfl rfl rfl rfl rfl (fun B9 st9 => ?_)
          have e : mc = ⟨1, 1, [(sg : Int)]⟩ := by
            rw [hmc, markCell, if_neg hpos, if_neg (by omega), if_pos hc', hsg]
          rw [hasL_set _ (by omega)] at st9
          have e2 : hasL (fun t => if t = (sg : Int) then true else false) = hasL (fun s => decide (s ∈ mc.sg)) := by
            rw [e]
            refine hasL_congr ?_ ?_ ?_ <;> · simp
          rw [e2] at st9
          repeat (first | refine w_seq ?_ | refine w_region env ?_ | refine wo_nil ?_ | (refine wo_gate ?_ ?_; rfl; refine wo_pure rfl rfl (fun _ => rfl) rfl rfl ?_) | refine wo_not rfl rfl ?_ | refine wo_max rfl rfl rfl rfl ?_ | refine wo_min rfl rfl rfl rfl ?_)
          refine ⟨rfl, ?_, (Sub.cons rfl (Sub.cons rfl (Sub.cons rfl (Sub.cons rfl (Sub.cons rfl (Sub.cons rfl (Sub.cons rfl (Sub.cons rfl (Sub.cons rfl (Sub.cons rfl (Sub.cons rfl (Sub.cons rfl (Sub.cons rfl Sub.nil)))))))))))))⟩
          have := st9
          rw [show mc.mn = 1 by rw [e], show mc.mx = 1 by rw [e]]
          exact this
        · have hc' : ¬ (mk.state = 0 ∨ mk.state = 3 ∧ ly % 2 = 0) := fun h => by rw [hbb.2 h] at hc; cases hc
          repeat (first | refine w_seq ?_ | refine w_region env ?_ | refine wo_nil ?_ | (refine wo_gate ?_ ?_; rfl; refine wo_pure rfl rfl (fun _ => rfl) rfl rfl ?_) | refine wo_not rfl rfl ?_ | refine wo_max rfl rfl rfl rfl ?_ | refine wo_min rfl rfl rfl rfl ?_)
          refine w_cond _ rfl (fun h1 => ?_) (fun h1 => ?_)
          · have h1' : mk.state = 1 := by simpa using h1
            refine w_mono (e5_dam st7 (hF.le (le1.trans lea)) hf hg (sign := sg) (by omega) (Sub.cons rfl (Sub.cons rfl (Sub.cons rfl (Sub.cons rfl (Sub.cons rfl (Sub.cons rfl (Sub.cons rfl (Sub.cons rfl (Sub.cons rfl (Sub.cons rfl (Sub.cons rfl (Sub.cons rfl (Sub.cons rfl (Sub.cons rfl Sub.nil))))))))))))))) ?_
            rintro _ m2 B9 ⟨rfl, st9, hsub3⟩
            have e : mc = ⟨1, 1, famS sg f g⟩ := by
              rw [hmc, markCell, if_neg hpos, if_pos h1', hsg]
            refine ⟨rfl, ?_, hsub3⟩
            rw [e]
            exact st9
          · have h1' : mk.state ≠ 1 := by simpa using h1
            have e : mc = ⟨1, 1, []⟩ := by
              rw [hmc, markCell, if_neg hpos, if_neg h1', if_neg hc']
            refine w_skip ⟨rfl, ?_, (Sub.cons rfl (Sub.cons rfl (Sub.cons rfl (Sub.cons rfl (Sub.cons rfl (Sub.cons rfl (Sub.cons rfl (Sub.cons rfl (Sub.cons rfl (Sub.cons rfl (Sub.cons rfl (Sub.cons rfl (Sub.cons rfl Sub.nil)))))))))))))⟩
            rw [e]
            exact st7
    · rintro _ mm B8 ⟨rfl, st8, hsub2⟩
      show W _ _ _ _ _ _
      refine w_sub hsub2 ?_
      repeat (first | refine w_seq ?_ | refine w_region env ?_ | refine wo_nil ?_ | (refine wo_gate ?_ ?_; rfl; refine wo_pure rfl rfl (fun _ => rfl) rfl rfl ?_) | refine wo_not rfl rfl ?_ | refine wo_max rfl rfl rfl rfl ?_ | refine wo_min rfl rfl rfl rfl ?_)
      refine wo_loads rfl (rd_ver (st8.obj (k := 0) rfl) rfl _ 3 (Nat.le_of_ble_eq_true rfl)) rfl rfl rfl rfl rfl rfl ?_
      repeat (first | refine w_seq ?_ | refine w_region env ?_ | refine wo_nil ?_ | (refine wo_gate ?_ ?_; rfl; refine wo_pure rfl rfl (fun _ => rfl) rfl rfl ?_) | refine wo_not rfl rfl ?_ | refine wo_max rfl rfl rfl rfl ?_ | refine wo_min rfl rfl rfl rfl ?_)
      refine w_block ?_
      refine w_loop (fun j' m' B => ∃ V asg sl, Sta V0 V B [.obj i26 ⟨[.int .i64 mc.mn, .int .i64 mc.mx, .slice asg sl.length sl.length], false, false, 1, 0⟩, .acc asg 1 (ints sl), .acc ar2 4 (rr ++ [markRow mk]), .acc ad 3 dd] ∧ Le V7 V ∧ (sl = [] → asg = none) ∧
          ∃ s : Nat, j' + s = 3 ∧ sl = ([(0 : Int), 1, 2].take s).filter (fun s => decide (s ∈ mc.sg)) ∧
          m' = [(206, .int .i64 s), (205, .agg ⟨hasL (fun s => decide (s ∈ mc.sg))⟩), (26, .pointer (some ⟨i26, 0, some 0⟩)), (110, .int .i64 i), (109, .int .i64 (n : Nat)), (108, .slice am1 n (cm - 0)), (19, .slice ar2 (rr.length + 1) (rr.length + 1)), (20, .slice ad dd.length dd.length), (14, .slice a 2 2), (13, v13), (2, .int .u8 ly), (3, v3), (4, v4), (5, v5)]) 3
        (Sub.cons rfl (Sub.cons rfl (Sub.cons rfl (Sub.cons rfl (Sub.cons rfl (Sub.cons rfl (Sub.cons rfl (Sub.cons rfl (Sub.cons rfl (Sub.cons rfl (Sub.cons rfl (Sub.cons rfl (Sub.cons rfl (Sub.cons rfl Sub.nil)))))))))))))) ⟨V7, none, [], (st8.drop1 0).addAccs 1, .refl _, fun _ => rfl, 0, rfl, rfl, rfl⟩ ?_
      rintro j' m' B9 ⟨V9, asg, sl, st9, le9, hnil, s, hjs, hsl, rfl⟩
      have hsll : sl.length ≤ 3 := by
        rw [hsl]
        exact Nat.le_trans (List.length_filter_le _ _) (by simp; omega)
      repeat (first | refine w_seq ?_ | refine w_region env ?_ | refine wo_nil ?_ | (refine wo_gate ?_ ?_; rfl; refine wo_pure rfl rfl (fun _ => rfl) rfl rfl ?_) | refine wo_not rfl rfl ?_ | refine wo_max rfl rfl rfl rfl ?_ | refine wo_min rfl rfl rfl rfl ?_)
      refine w_cond _ rfl (fun hlt => ?_) (fun hge => ?_)
      · have hs3 : s < 3 := by
          have : (s : Int) < 3 := by simpa using hlt
          omega
        refine w_skip ?_
        refine w_seq (w_block ?_)
        iterate 3 (first | refine w_seq ?_ | refine w_region env ?_ | refine wo_nil ?_ | (refine wo_gate ?_ ?_; rfl; refine wo_pure rfl rfl (fun _ => rfl) rfl rfl ?_) | refine wo_not rfl rfl ?_ | refine wo_max rfl rfl rfl rfl ?_ | refine wo_min rfl rfl rfl rfl ?_)
        refine wo_index1 s rfl rfl rfl hs3 (hasL_get (fun s => decide (s ∈ mc.sg)) hs3) rfl rfl rfl rfl rfl ?_
        repeat (first | refine w_seq ?_ | refine w_region env ?_ | refine wo_nil ?_ | (refine wo_gate ?_ ?_; rfl; refine wo_pure rfl rfl (fun _ => rfl) rfl rfl ?_) | refine wo_not rfl rfl ?_ | refine wo_max rfl rfl rfl rfl ?_ | refine wo_min rfl rfl rfl rfl ?_)
        refine w_cond _ rfl (fun hb => ?_) (fun hb => ?_)
        · repeat (first | refine w_seq ?_ | refine w_region env ?_ | refine wo_nil ?_ | (refine wo_gate ?_ ?_; rfl; refine wo_pure rfl rfl (fun _ => rfl) rfl rfl ?_) | refine wo_not rfl rfl ?_ | refine wo_max rfl rfl rfl rfl ?_ | refine wo_min rfl rfl rfl rfl ?_)
          refine wo_load rfl (rd_one (st9.obj (k := 0) rfl) rfl (q := 2) rfl) rfl rfl rfl rfl rfl ?_
          repeat (first | refine w_seq ?_ | refine w_region env ?_ | refine wo_nil ?_ | (refine wo_gate ?_ ?_; rfl; refine wo_pure rfl rfl (fun _ => rfl) rfl rfl ?_) | refine wo_not rfl rfl ?_ | refine wo_max rfl rfl rfl rfl ?_ | refine wo_min rfl rfl rfl rfl ?_)
          refine wo_mkF st9 (cs := [.int .i64 s]) 1 rfl rfl (fun _ => rfl) rfl rfl (fun iN V10 B10 st10 le10 f10 => ?_)
          refine wo_app1 st10 1 rfl rfl rfl f10 rfl (ints_len _).symm (ints_len _).symm rfl (by rw [ints_len]; omega) rfl rfl rfl rfl rfl rfl rfl rfl rfl rfl (fun as3 V11 B11 st11 le11 => ?_)
          repeat (first | refine w_seq ?_ | refine w_region env ?_ | refine wo_nil ?_ | (refine wo_gate ?_ ?_; rfl; refine wo_pure rfl rfl (fun _ => rfl) rfl rfl ?_) | refine wo_not rfl rfl ?_ | refine wo_max rfl rfl rfl rfl ?_ | refine wo_min rfl rfl rfl rfl ?_)
          refine wo_stO st11 0 rfl rfl rfl (by show 2 < 3; omega) (fun _ => rfl) rfl rfl rfl rfl rfl (fun B12 st12 => ?_)
          repeat (first | refine w_seq ?_ | refine w_region env ?_ | refine wo_nil ?_ | (refine wo_gate ?_ ?_; rfl; refine wo_pure rfl rfl (fun _ => rfl) rfl rfl ?_) | refine wo_not rfl rfl ?_ | refine wo_max rfl rfl rfl rfl ?_ | refine wo_min rfl rfl rfl rfl ?_)
          refine ⟨j' - 1, [(206, _), (205, _), (26, _), (110, _), (109, _), (108, _), (19, _), (20, _), (14, _), (13, _), (2, _), (3, _), (4, _), (5, _)], by omega, (Sub.cons rfl (Sub.cons rfl (Sub.cons rfl (Sub.cons rfl (Sub.cons rfl (Sub.cons rfl (Sub.cons rfl (Sub.cons rfl (Sub.cons rfl (Sub.cons rfl (Sub.cons rfl (Sub.cons rfl (Sub.cons rfl (Sub.cons rfl Sub.nil)))))))))))))), V11, as3, sl ++ [(s : Int)], ?_, le9.trans (le10.trans le11), by simp, s + 1, by omega, ?_, ?_⟩
          · rw [ints_app, List.length_append]
            rw [ints_len] at st12
            exact st12
          · rw [filter_take3 _ s hs3, hb, ← hsl]; rfl
          · rw [i64_nat (by omega)]
        · refine w_skip ?_
          repeat (first | refine w_seq ?_ | refine w_region env ?_ | refine wo_nil ?_ | (refine wo_gate ?_ ?_; rfl; refine wo_pure rfl rfl (fun _ => rfl) rfl rfl ?_) | refine wo_not rfl rfl ?_ | refine wo_max rfl rfl rfl rfl ?_ | refine wo_min rfl rfl rfl rfl ?_)
          refine ⟨j' - 1, [(206, _), (205, _), (26, _), (110, _), (109, _), (108, _), (19, _), (20, _), (14, _), (13, _), (2, _), (3, _), (4, _), (5, _)], by omega, (Sub.cons rfl (Sub.cons rfl (Sub.cons rfl (Sub.cons rfl (Sub.cons rfl (Sub.cons rfl (Sub.cons rfl (Sub.cons rfl (Sub.cons rfl (Sub.cons rfl (Sub.cons rfl (Sub.cons rfl (Sub.cons rfl (Sub.cons rfl Sub.nil)))))))))))))), V9, asg, sl, st9, le9, hnil, s + 1, by omega, ?_, ?_⟩
          · rw [filter_take3 _ s hs3, hb, ← hsl]; simp
          · rw [i64_nat (by omega)]
      · have hs3 : s = 3 := by
          have : ¬ (s : Int) < 3 := by simpa using hge
          omega
        subst hs3
        replace hsl : sl = mc.sg := by rw [hsl]; exact filter_has hmcin
        subst hsl
        refine w_exit ?_
        obtain ⟨V10, st10, le10, hsl10, _⟩ := st9.frzAcc (k := 1) rfl
        repeat (first | refine w_seq ?_ | refine w_region env ?_ | refine wo_nil ?_ | (refine wo_gate ?_ ?_; rfl; refine wo_pure rfl rfl (fun _ => rfl) rfl rfl ?_) | refine wo_not rfl rfl ?_ | refine wo_max rfl rfl rfl rfl ?_ | refine wo_min rfl rfl rfl rfl ?_)
        refine wo_loads rfl (rd_ver (st10.obj (k := 0) rfl) rfl _ 3 (Nat.le_of_ble_eq_true rfl)) rfl rfl rfl rfl rfl rfl ?_
        refine wo_mkF st10 (cs := [.int .i64 mc.mn, .int .i64 mc.mx, .slice asg mc.sg.length mc.sg.length]) 3 rfl rfl (fun _ => rfl) rfl rfl (fun iN V11 B11 st11 le11 f11 => ?_)
        refine wo_app1 st11 2 rfl rfl rfl f11 rfl rfl rfl rfl (by omega) rfl rfl rfl rfl rfl rfl rfl rfl rfl rfl (fun ad3 V12 B12 st12 le12 => ?_)
        obtain ⟨V13, st13, le13, _⟩ := st12.frzO 0 rfl
        replace st13 : Sta V0 V13 B12 [.acc ar2 4 (rr ++ [markRow mk]), .acc ad3 3 (dd ++ [[Value.int .i64 mc.mn, Value.int .i64 mc.mx, Value.slice asg mc.sg.length mc.sg.length]])] := st13
        repeat (first | refine w_seq ?_ | refine w_region env ?_ | refine wo_nil ?_ | (refine wo_gate ?_ ?_; rfl; refine wo_pure rfl rfl (fun _ => rfl) rfl rfl ?_) | refine wo_not rfl rfl ?_ | refine wo_max rfl rfl rfl rfl ?_ | refine wo_min rfl rfl rfl rfl ?_)
        have leb : Le V1 V13 := lea.trans (le9.trans (le10.trans (le11.trans (le12.trans le13))))
        have etake : (ms.take (i + 1)).map triMark = (ms.take i).map triMark ++ [mk] := by
          rw [List.take_add_one, List.getElem?_eq_getElem hih, hmk0]; simp only [Option.toList_some, List.map_append, List.map_cons, List.map_nil]
        refine ⟨j - 1, [(110, _), (109, _), (108, _), (19, _), (20, _), (14, _), (13, _), (2, _), (3, _), (4, _), (5, _)], by omega, (Sub.cons rfl (Sub.cons rfl (Sub.cons rfl (Sub.cons rfl (Sub.cons rfl (Sub.cons rfl (Sub.cons rfl (Sub.cons rfl (Sub.cons rfl (Sub.cons rfl (Sub.cons rfl Sub.nil))))))))))), V13, ar2, _, ad3, _, st13, le1.trans leb, i + 1, by omega, ?_, ?_, ?_⟩
        · rw [etake, List.map_append, hrr]; rfl
        · rw [etake, List.map_append]
          refine (hdd.le leb).snoc ⟨asg, mc.sg.length, ?_, ?_, ?_⟩
          · rw [← hmc]
          · rw [← hmc]; exact hsl10.le (le11.trans (le12.trans le13))
          · rw [← hmc]; exact hnil
        · rw [i64_nat (by omega), List.length_append, List.length_append]; rfl
  · have hin : i = n := by
      have : ¬ (i : Int) < (n : Int) := by simpa using hge
      omega
    subst hin
    refine w_exit ?_
    obtain ⟨V5, st5, le5, hsl5, _⟩ := st1.frzAcc (k := 0) rfl
    obtain ⟨V6, st6, le6, hsl6, _⟩ := st5.frzAcc (k := 0) rfl
    rw [hrr] at hsl5
    have hrl2 : (((ms.take i).map triMark).map markRow).length = i := by simp; omega
    refine k _ _ V6 ar ad dd i hn st6 (le1.trans (le5.trans le6)) (hsl5.le le6) hsl6 (hdd.le (le5.trans le6)) ?_
    rw [hrl, hdl]
    exact (Sub.cons rfl (Sub.cons rfl (Sub.cons rfl (Sub.cons rfl (Sub.cons rfl (Sub.cons rfl (Sub.cons rfl (Sub.cons rfl Sub.nil))))))))
end Go.Proofs.YtdjcbpicdnhciaaGreat
