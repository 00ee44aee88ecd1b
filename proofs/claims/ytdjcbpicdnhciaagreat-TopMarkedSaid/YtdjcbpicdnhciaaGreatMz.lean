/- The law about marks on a wall: a line. -/
import Derived.Test.YtdjcbpicdnhciaaGreatMy
set_option linter.unusedVariables false
set_option linter.unusedSimpArgs false
open Go Go.Dx Go.Proofs
namespace Go.Proofs.YtdjcbpicdnhciaaGreat
set_option maxRecDepth 20000
-- NEWU

/-- The line of the law. -/
theorem e5_18_19 {V0 V B : Hp} {m : TF} {xs : List Int} {ax : Option Addr} {cx : Nat} {v56 v43 v42 v41 v40 v13 : Value} {rest : Code} {Q : Exit → TF → Hp → Prop} (st : Sta V0 V B []) (hx : Sl V ax 1 (xs.map fun x => [.int .u8 x])) (hwx : Wel V ax 1) (hcx : xs.length ≤ cx) (hxs : ∀ x ∈ xs, 0 ≤ x ∧ x ≤ 255)
    (hsub : Sub [(5, .slice ax xs.length cx), (56, v56), (43, v43), (42, v42), (41, v41), (40, v40), (13, v13)] m)
    (k : ∀ m' B' V' az zs, zs.length ≤ 6 → (∀ z ∈ zs, 0 ≤ z ∧ z ≤ 2) → Sta V0 V' B' [] → Le V V' → Sl V' az 1 (ints zs) → Wel V' az 1 →
      Sub [(57, .slice az zs.length zs.length), (56, v56), (43, v43), (42, v42), (41, v41), (40, v40), (13, v13)] m' → W Tryz.prog 549 rest m' B' Q) :
    W Tryz.prog 549 (.seq (e5 18) (.seq (e5 19) rest)) m B Q := by
  refine w_sub hsub ?_
  obtain ⟨n, hn⟩ : ∃ n, n = min xs.length 6 := ⟨_, rfl⟩
  have hmin : min (xs.length : Int) 6 = (n : Int) := by omega
  obtain ⟨V_, hV_⟩ : ∃ V_, V_ = V := ⟨_, rfl⟩
  repeat (first | refine w_seq ?_ | refine w_region env ?_ | refine wo_nil ?_ | (refine wo_gate ?_ ?_; rfl; refine wo_pure rfl rfl (fun _ => rfl) rfl rfl ?_) | refine wo_not rfl rfl ?_ | refine wo_max rfl rfl rfl rfl ?_ | refine wo_min rfl rfl rfl rfl ?_ | refine wo_notU rfl rfl ?_)
  rw [hmin]
  refine wo_sliceV st (l := 0) (h := n) rfl hx (by simp) hcx rfl rfl rfl rfl rfl rfl hwx (dBound_eq rfl (by omega)) rfl (by omega) (by simp; omega) (fun a1 ha1 _ _ => ?_)
  repeat (first | refine w_seq ?_ | refine w_region env ?_ | refine wo_nil ?_ | (refine wo_gate ?_ ?_; rfl; refine wo_pure rfl rfl (fun _ => rfl) rfl rfl ?_) | refine wo_not rfl rfl ?_ | refine wo_max rfl rfl rfl rfl ?_ | refine wo_min rfl rfl rfl rfl ?_ | refine wo_notU rfl rfl ?_)
  refine w_block ?_
  refine w_loop (fun j m' B => ∃ V az, Sta V0 V B [.acc az 1 (ints ((xs.take (n - j)).map (· % 3)))] ∧ Le V_ V ∧ j ≤ n ∧ ∃ (i : Nat) (l : Nat), i = n - j ∧ l = i ∧
      m' = [(411, .int .i64 i), (410, .int .i64 n), (409, .slice a1 n (cx - 0)), (57, .slice az l l), (56, v56), (43, v43), (42, v42), (41, v41), (40, v40), (13, v13)]) n
    (Sub.cons rfl (Sub.cons rfl (Sub.cons rfl (Sub.cons rfl (Sub.cons rfl (Sub.cons rfl (Sub.cons rfl (Sub.cons rfl (Sub.cons rfl (Sub.cons rfl Sub.nil)))))))))) ⟨V, none, by have := st.addAcc 1; simpa [ints] using this, by rw [hV_]; exact .refl _, Nat.le_refl _, 0, 0, by omega, rfl, rfl⟩ ?_
  rintro j m' B1 ⟨V1, az, st1, le1, hj, i, l, hi, hl, rfl⟩
  subst hV_
  rw [← hi] at st1
  have hlen : (ints ((xs.take i).map (· % 3))).length = i := by simp [ints]; omega
  repeat (first | refine w_seq ?_ | refine w_region env ?_ | refine wo_nil ?_ | (refine wo_gate ?_ ?_; rfl; refine wo_pure rfl rfl (fun _ => rfl) rfl rfl ?_) | refine wo_not rfl rfl ?_ | refine wo_max rfl rfl rfl rfl ?_ | refine wo_min rfl rfl rfl rfl ?_ | refine wo_notU rfl rfl ?_)
  refine w_cond _ rfl (fun hlt => ?_) (fun hge => ?_)
  · have hin : i < n := by simpa using hlt
    have hix : i < xs.length := by omega
    obtain ⟨x1, x2⟩ := hxs xs[i] (by simp)
    refine w_skip ?_
    refine w_seq (w_block ?_)
    repeat (first | refine w_seq ?_ | refine w_region env ?_ | refine wo_nil ?_ | (refine wo_gate ?_ ?_; rfl; refine wo_pure rfl rfl (fun _ => rfl) rfl rfl ?_) | refine wo_not rfl rfl ?_ | refine wo_max rfl rfl rfl rfl ?_ | refine wo_min rfl rfl rfl rfl ?_ | refine wo_notU rfl rfl ?_)
    refine wo_at [.int .u8 xs[i]] rfl (ha1.le (le1.trans st1.le)) rfl rfl rfl rfl rfl (by simp; omega) (by omega) (by simp [hin, hix]) (fun p hp => ?_)
    refine wo_load rfl hp rfl rfl rfl rfl rfl ?_
    repeat (first | refine w_seq ?_ | refine w_region env ?_ | refine wo_nil ?_ | (refine wo_gate ?_ ?_; rfl; refine wo_pure rfl rfl (fun _ => rfl) rfl rfl ?_) | refine wo_not rfl rfl ?_ | refine wo_max rfl rfl rfl rfl ?_ | refine wo_min rfl rfl rfl rfl ?_ | refine wo_notU rfl rfl ?_)
    rw [u8_modc ⟨x1, x2⟩ (.inl rfl)]
    refine wo_mkF st1 (cs := [.int .i64 (xs[i] % 3)]) 1 rfl rfl (fun _ => rfl) rfl rfl (fun iN V2 B2 st2 le2 f2 => ?_)
    refine wo_app1 st2 0 rfl rfl rfl f2 rfl (by omega) (by omega) rfl (by omega) rfl rfl rfl rfl rfl rfl rfl rfl rfl rfl (fun a3 V3 B3 st3 le3 => ?_)
    repeat (first | refine w_seq ?_ | refine w_region env ?_ | refine wo_nil ?_ | (refine wo_gate ?_ ?_; rfl; refine wo_pure rfl rfl (fun _ => rfl) rfl rfl ?_) | refine wo_not rfl rfl ?_ | refine wo_max rfl rfl rfl rfl ?_ | refine wo_min rfl rfl rfl rfl ?_ | refine wo_notU rfl rfl ?_)
    refine ⟨j - 1, [(411, _), (410, _), (409, _), (57, _), (56, _), (43, _), (42, _), (41, _), (40, _), (13, _)], by omega, (Sub.cons rfl (Sub.cons rfl (Sub.cons rfl (Sub.cons rfl (Sub.cons rfl (Sub.cons rfl (Sub.cons rfl (Sub.cons rfl (Sub.cons rfl (Sub.cons rfl Sub.nil)))))))))), V3, a3, ?_, le1.trans (le2.trans le3), by omega, i + 1, _, by omega, ?_, by rw [i64_nat (by omega)]⟩
    · rw [show n - (j - 1) = i + 1 by omega, List.take_add_one, List.getElem?_eq_getElem hix, List.map_append, ints_app]
      exact st3
    · rw [hlen]
  · have hin : i = n := by
      have : ¬ (i : Int) < (n : Int) := by simpa using hge
      omega
    refine w_exit ?_
    obtain ⟨V2, st2, le2, hsl, hwel⟩ := st1.frzAcc (k := 0) rfl
    have hzl : ((xs.take i).map (· % 3)).length = i := by simp; omega
    refine k _ _ V2 az ((xs.take i).map (· % 3)) (by omega) ?_ st2 (le1.trans le2) hsl hwel ?_
    · intro z hz
      obtain ⟨x, hx0, rfl⟩ := List.mem_map.1 hz
      show 0 ≤ x % 3 ∧ x % 3 ≤ 2
      omega
    · rw [hzl, ← hl]
      exact (Sub.cons rfl (Sub.cons rfl (Sub.cons rfl (Sub.cons rfl (Sub.cons rfl (Sub.cons rfl (Sub.cons rfl Sub.nil)))))))

/-- Told by a list, or not at all. -/
def toldV (V : Hp) (o : Option (List Int)) (v w : Value) (yes no : Value) : Prop := match o with
  | none => v = .slice none 0 0 ∧ w = no
  | some r => ∃ a cap, v = .slice a r.length cap ∧ w = yes ∧ Sl V a 1 (ints r)

theorem toldV.le {V W : Hp} {o : Option (List Int)} {v w yes no : Value} (h : toldV V o v w yes no) (hl : Le V W) : toldV W o v w yes no := by
  cases o with
  | none => exact h
  | some r =>
    obtain ⟨a, cap, h1, h2, h3⟩ := h
    exact ⟨a, cap, h1, h2, h3.le hl⟩

theorem stood_told {cs : List CellS} {V : Hp} {a x : Option Addr} {rows : List (List Value)} {ca cx : Nat} {xs : List Int} (h1 : Sl V a 3 rows) (h2 : CellsR V rows cs) (h3 : rows.length ≤ ca) (h4 : Wel V a 3) (h5 : Sl V x 1 (ints xs)) (h6 : xs.length ≤ cx) (h7 : Wel V x 1) (h8 : xs.length ≤ 60) (h9 : cs.length ≤ 6) (h10 : ∀ c ∈ cs, CellOK' 3 c) :
    Fun Tryz.prog 39 [.slice a rows.length ca, .slice x xs.length cx] V fun v B => ∃ v1 w, v = .tuple #[v1, w] ∧ toldV B (stoodS cs xs) v1 w (.bool true) (.bool false) := by
  refine (stood_fun cs h1 h2 h3 h4 h5 h6 h7 h8 h9 h10).mono fun v B hv => ?_
  cases hs : stoodS cs xs with
  | none => rw [hs] at hv; exact ⟨_, _, hv, rfl, rfl⟩
  | some r =>
    rw [hs] at hv
    obtain ⟨a', cap, rfl, h, _⟩ := hv
    exact ⟨_, _, rfl, a', cap, rfl, rfl, h⟩

theorem agrees_told {A : Hp} {i : Nat} {a x : Option Addr} {rows : List (List Value)} {cs : List CellS} {ca cx : Nat} {xs : List Int} (hs : HasSigns A i) (ha : Sl A a 3 rows) (hr : CellsR A rows cs) (hok : ∀ c ∈ cs, CellOK' 3 c) (hlc : cs.length ≤ 6)
    (hx : Sl A x 1 (ints xs)) (hlx : xs.length ≤ 60) (hxs : ∀ x ∈ xs, 0 ≤ x ∧ x ≤ 2) :
    Fun Tryz.prog 40 [listV i, .slice a rows.length ca, .slice x xs.length cx] A fun v B => ∃ v1 w, v = .tuple #[v1, w] ∧ toldV B (stoodS cs xs) v1 w (.int .i64 0) (.int .i64 71) := by
  refine (agrees_fun hs ha hr hok hlc hx hlx hxs).mono fun v B hv => ?_
  cases hs : stoodS cs xs with
  | none => rw [hs] at hv; exact ⟨_, _, hv, rfl, rfl⟩
  | some r =>
    rw [hs] at hv
    obtain ⟨a', cap, rfl, h⟩ := hv
    exact ⟨_, _, rfl, a', cap, rfl, rfl, h⟩

theorem e5_20_25 {V0 V B : Hp} {m : TF} {pa pb : List CellS} {aa ab ac am az : Option Addr} {ra rb rc rm : List (List Value)} {n iS i13 ca cb : Nat} {zs : List Int} {rest : Code} {Q : Exit → TF → Hp → Prop} (h2 : Two pa pb n) (hF : fitsL pa pb = true) (st : Sta V0 V B []) (hs : HasSigns V iS) (h13 : At V i13 [.int .i64 1, .slice (some ⟨iS, 0, some 0⟩) 3 3])
    (haa : Sl V aa 3 ra) (hwa : Wel V aa 3) (hca : ra.length ≤ ca) (hra : CellsR V ra pa) (hab : Sl V ab 3 rb) (hwb : Wel V ab 3) (hcb : rb.length ≤ cb) (hrb : CellsR V rb pb) (hac : Sl V ac 3 rc) (hwc : Wel V ac 3) (hrc : CellsR V rc (bothL pa pb)) (ham : Sl V am 3 rm) (hrm : CellsR V rm (bothL pa pb))
    (hzl : zs.length ≤ 6) (hz2 : ∀ z ∈ zs, 0 ≤ z ∧ z ≤ 2) (hz : Sl V az 1 (ints zs)) (hwz : Wel V az 1)
    (hsub : Sub [(57, .slice az zs.length zs.length), (56, .slice am rm.length rm.length), (43, .slice ac rc.length rc.length), (42, .slice ab rb.length cb), (41, .slice aa ra.length ca), (40, .int .i64 n), (13, .pointer (some ⟨i13, 0, some 0⟩))] m)
    (k : ∀ m' B' V' v60 v61 v62 v63 v64 v65 v66 v38 v67 v68 v69 v70, Sta V0 V' B' [] → Le V V' → toldV V' (stoodS pa zs) v60 v61 (.bool true) (.bool false) → toldV V' (stoodS pb zs) v62 v63 (.bool true) (.bool false) → toldV V' (stoodS (bothL pa pb) zs) v64 v65 (.bool true) (.bool false) →
      toldV V' (stoodS (bothL pa pb) zs) v66 v38 (.int .i64 0) (.int .i64 71) → toldV V' (stoodS pa zs) v67 v68 (.int .i64 0) (.int .i64 71) → toldV V' (stoodS pb zs) v69 v70 (.int .i64 0) (.int .i64 71) →
      Sub [(61, v61), (63, v63), (64, v64), (65, v65), (66, v66), (38, v38), (68, v68), (70, v70), (57, .slice az zs.length zs.length), (56, .slice am rm.length rm.length), (43, .slice ac rc.length rc.length), (42, .slice ab rb.length cb), (41, .slice aa ra.length ca), (40, .int .i64 n), (13, .pointer (some ⟨i13, 0, some 0⟩))] m' → W Tryz.prog 549 rest m' B' Q) :
    W Tryz.prog 549 (.seq (e5 20) (.seq (e5 21) (.seq (e5 22) (.seq (e5 23) (.seq (e5 24) (.seq (e5 25) rest)))))) m B Q := by
  refine w_sub hsub ?_
  have hla := h2.la
  have hlb := h2.lb
  have hn3 := h2.n3
  have hlc := h2.len
  have hcells : ((ints zs).flatten.all isCell) = true := ints_cells zs
  repeat (first | refine w_seq ?_ | refine w_region env ?_ | refine wo_nil ?_ | (refine wo_gate ?_ ?_; rfl; refine wo_pure rfl rfl (fun _ => rfl) rfl rfl ?_) | refine wo_not rfl rfl ?_ | refine wo_max rfl rfl rfl rfl ?_ | refine wo_min rfl rfl rfl rfl ?_ | refine wo_notU rfl rfl ?_)
  refine wo_callX st (stood_told haa hra hca hwa hz (Nat.le_refl _) hwz (by omega) (by omega) fun c hc => (h2.a c hc).1) rfl rfl rfl ?_
  rintro v r hr ⟨v60, v61, rfl, t1⟩
  obtain ⟨V1, st1, le1, le1'⟩ := st.callE hr
  replace t1 := t1.le le1'
  replace hwa := hwa.le' le1
  replace hwb := hwb.le' le1
  replace hwc := hwc.le' le1
  replace hwz := hwz.le' le1
  replace hs := hs.le le1
  replace h13 := h13.le le1
  replace haa := haa.le le1
  replace hra := hra.le le1
  replace hab := hab.le le1
  replace hrb := hrb.le le1
  replace hac := hac.le le1
  replace hrc := hrc.le le1
  replace ham := ham.le le1
  replace hrm := hrm.le le1
  replace hz := hz.le le1
  clear st
  repeat (first | refine w_seq ?_ | refine w_region env ?_ | refine wo_nil ?_ | (refine wo_gate ?_ ?_; rfl; refine wo_pure rfl rfl (fun _ => rfl) rfl rfl ?_) | refine wo_not rfl rfl ?_ | refine wo_max rfl rfl rfl rfl ?_ | refine wo_min rfl rfl rfl rfl ?_ | refine wo_notU rfl rfl ?_)
  refine wo_callX st1 (stood_told hab hrb hcb hwb hz (Nat.le_refl _) hwz (by omega) (by omega) fun c hc => (h2.b c hc).1) rfl rfl rfl ?_
  rintro v r2 hr2 ⟨v62, v63, rfl, t2⟩
  obtain ⟨V2, st2, le2, le2'⟩ := st1.callE hr2
  replace t2 := t2.le le2'
  replace hwc := hwc.le' le2
  replace hwz := hwz.le' le2
  replace hs := hs.le le2
  replace h13 := h13.le le2
  replace haa := haa.le le2
  replace hra := hra.le le2
  replace hab := hab.le le2
  replace hrb := hrb.le le2
  replace hac := hac.le le2
  replace hrc := hrc.le le2
  replace ham := ham.le le2
  replace hrm := hrm.le le2
  replace hz := hz.le le2
  replace t1 := t1.le le2
  clear st1
  repeat (first | refine w_seq ?_ | refine w_region env ?_ | refine wo_nil ?_ | (refine wo_gate ?_ ?_; rfl; refine wo_pure rfl rfl (fun _ => rfl) rfl rfl ?_) | refine wo_not rfl rfl ?_ | refine wo_max rfl rfl rfl rfl ?_ | refine wo_min rfl rfl rfl rfl ?_ | refine wo_notU rfl rfl ?_)
  refine wo_callX st2 (stood_told hac hrc (Nat.le_refl _) hwc hz (Nat.le_refl _) hwz (by omega) (by omega) (h2.ok hF)) rfl rfl rfl ?_
  rintro v r3 hr3 ⟨v64, v65, rfl, t3⟩
  obtain ⟨V3, st3, le3, le3'⟩ := st2.callE hr3
  replace t3 := t3.le le3'
  replace hs := hs.le le3
  replace h13 := h13.le le3
  replace haa := haa.le le3
  replace hra := hra.le le3
  replace hab := hab.le le3
  replace hrb := hrb.le le3
  replace hac := hac.le le3
  replace hrc := hrc.le le3
  replace ham := ham.le le3
  replace hrm := hrm.le le3
  replace hz := hz.le le3
  replace t1 := t1.le le3
  replace t2 := t2.le le3
  clear st2
  repeat (first | refine w_seq ?_ | refine w_region env ?_ | refine wo_nil ?_ | (refine wo_gate ?_ ?_; rfl; refine wo_pure rfl rfl (fun _ => rfl) rfl rfl ?_) | refine wo_not rfl rfl ?_ | refine wo_max rfl rfl rfl rfl ?_ | refine wo_min rfl rfl rfl rfl ?_ | refine wo_notU rfl rfl ?_)
  refine w_draw env 5 (by kernel_rfl) ?_
  repeat (first | refine w_seq ?_ | refine w_region env ?_ | refine wo_nil ?_ | (refine wo_gate ?_ ?_; rfl; refine wo_pure rfl rfl (fun _ => rfl) rfl rfl ?_) | refine wo_not rfl rfl ?_ | refine wo_max rfl rfl rfl rfl ?_ | refine wo_min rfl rfl rfl rfl ?_ | refine wo_notU rfl rfl ?_ | refine wo_loads rfl (h13.rds st3.le 2 rfl) rfl rfl rfl rfl rfl rfl ?_)
  refine wo_mkF st3 (cs := []) 1 rfl rfl (fun _ => rfl) rfl rfl (fun iN V4 B4 st4 le4 f4 => ?_)
  replace hs := hs.le le4
  replace h13 := h13.le le4
  replace haa := haa.le le4
  replace hra := hra.le le4
  replace hab := hab.le le4
  replace hrb := hrb.le le4
  replace hac := hac.le le4
  replace hrc := hrc.le le4
  replace ham := ham.le le4
  replace hrm := hrm.le le4
  replace hz := hz.le le4
  replace t1 := t1.le le4
  replace t2 := t2.le le4
  replace t3 := t3.le le4
  clear st3
  repeat (first | refine w_seq ?_ | refine w_region env ?_ | refine wo_nil ?_ | (refine wo_gate ?_ ?_; rfl; refine wo_pure rfl rfl (fun _ => rfl) rfl rfl ?_) | refine wo_not rfl rfl ?_ | refine wo_max rfl rfl rfl rfl ?_ | refine wo_min rfl rfl rfl rfl ?_ | refine wo_notU rfl rfl ?_)
  refine wo_appE st4 rfl rfl f4 hz (ints_len _).symm hcells (by rw [ints_len]; omega) rfl rfl rfl rfl rfl rfl rfl rfl rfl (fun ax cx V5 B5 st5 le5 hx5 => ?_)
  replace hs := hs.le le5
  replace h13 := h13.le le5
  replace haa := haa.le le5
  replace hra := hra.le le5
  replace hab := hab.le le5
  replace hrb := hrb.le le5
  replace hac := hac.le le5
  replace hrc := hrc.le le5
  replace ham := ham.le le5
  replace hrm := hrm.le le5
  replace hz := hz.le le5
  replace t1 := t1.le le5
  replace t2 := t2.le le5
  replace t3 := t3.le le5
  clear st4
  refine wo_callX st5 (agrees_told hs ham hrm (h2.ok hF) (by omega) hx5 (by omega) hz2) rfl rfl rfl ?_
  rintro v r4 hr4 ⟨v66, v38, rfl, t4⟩
  obtain ⟨V6, st6, le6, le6'⟩ := st5.callE hr4
  replace t4 := t4.le le6'
  replace hs := hs.le le6
  replace h13 := h13.le le6
  replace haa := haa.le le6
  replace hra := hra.le le6
  replace hab := hab.le le6
  replace hrb := hrb.le le6
  replace hac := hac.le le6
  replace hrc := hrc.le le6
  replace ham := ham.le le6
  replace hrm := hrm.le le6
  replace hz := hz.le le6
  replace t1 := t1.le le6
  replace t2 := t2.le le6
  replace t3 := t3.le le6
  clear st5
  repeat (first | refine w_seq ?_ | refine w_region env ?_ | refine wo_nil ?_ | (refine wo_gate ?_ ?_; rfl; refine wo_pure rfl rfl (fun _ => rfl) rfl rfl ?_) | refine wo_not rfl rfl ?_ | refine wo_max rfl rfl rfl rfl ?_ | refine wo_min rfl rfl rfl rfl ?_ | refine wo_notU rfl rfl ?_)
  refine w_draw env 5 (by kernel_rfl) ?_
  repeat (first | refine w_seq ?_ | refine w_region env ?_ | refine wo_nil ?_ | (refine wo_gate ?_ ?_; rfl; refine wo_pure rfl rfl (fun _ => rfl) rfl rfl ?_) | refine wo_not rfl rfl ?_ | refine wo_max rfl rfl rfl rfl ?_ | refine wo_min rfl rfl rfl rfl ?_ | refine wo_notU rfl rfl ?_ | refine wo_loads rfl (h13.rds st6.le 2 rfl) rfl rfl rfl rfl rfl rfl ?_)
  refine wo_mkF st6 (cs := []) 1 rfl rfl (fun _ => rfl) rfl rfl (fun iN2 V7 B7 st7 le7 f7 => ?_)
  replace hs := hs.le le7
  replace h13 := h13.le le7
  replace haa := haa.le le7
  replace hra := hra.le le7
  replace hab := hab.le le7
  replace hrb := hrb.le le7
  replace hac := hac.le le7
  replace hrc := hrc.le le7
  replace ham := ham.le le7
  replace hrm := hrm.le le7
  replace hz := hz.le le7
  replace t1 := t1.le le7
  replace t2 := t2.le le7
  replace t3 := t3.le le7
  replace t4 := t4.le le7
  clear st6
  repeat (first | refine w_seq ?_ | refine w_region env ?_ | refine wo_nil ?_ | (refine wo_gate ?_ ?_; rfl; refine wo_pure rfl rfl (fun _ => rfl) rfl rfl ?_) | refine wo_not rfl rfl ?_ | refine wo_max rfl rfl rfl rfl ?_ | refine wo_min rfl rfl rfl rfl ?_ | refine wo_notU rfl rfl ?_)
  refine wo_appE st7 rfl rfl f7 hz (ints_len _).symm hcells (by rw [ints_len]; omega) rfl rfl rfl rfl rfl rfl rfl rfl rfl (fun ax2 cx2 V8 B8 st8 le8 hx8 => ?_)
  replace hs := hs.le le8
  replace h13 := h13.le le8
  replace haa := haa.le le8
  replace hra := hra.le le8
  replace hab := hab.le le8
  replace hrb := hrb.le le8
  replace hac := hac.le le8
  replace hrc := hrc.le le8
  replace ham := ham.le le8
  replace hrm := hrm.le le8
  replace hz := hz.le le8
  replace t1 := t1.le le8
  replace t2 := t2.le le8
  replace t3 := t3.le le8
  replace t4 := t4.le le8
  clear st7
  refine wo_callX st8 (agrees_told hs haa hra (fun c hc => (h2.a c hc).1) (by omega) hx8 (by omega) hz2) rfl rfl rfl ?_
  rintro v r5 hr5 ⟨v67, v68, rfl, t5⟩
  obtain ⟨V9, st9, le9, le9'⟩ := st8.callE hr5
  replace t5 := t5.le le9'
  replace hs := hs.le le9
  replace h13 := h13.le le9
  replace haa := haa.le le9
  replace hra := hra.le le9
  replace hab := hab.le le9
  replace hrb := hrb.le le9
  replace hac := hac.le le9
  replace hrc := hrc.le le9
  replace ham := ham.le le9
  replace hrm := hrm.le le9
  replace hz := hz.le le9
  replace t1 := t1.le le9
  replace t2 := t2.le le9
  replace t3 := t3.le le9
  replace t4 := t4.le le9
  clear st8
  repeat (first | refine w_seq ?_ | refine w_region env ?_ | refine wo_nil ?_ | (refine wo_gate ?_ ?_; rfl; refine wo_pure rfl rfl (fun _ => rfl) rfl rfl ?_) | refine wo_not rfl rfl ?_ | refine wo_max rfl rfl rfl rfl ?_ | refine wo_min rfl rfl rfl rfl ?_ | refine wo_notU rfl rfl ?_)
  refine w_draw env 5 (by kernel_rfl) ?_
  repeat (first | refine w_seq ?_ | refine w_region env ?_ | refine wo_nil ?_ | (refine wo_gate ?_ ?_; rfl; refine wo_pure rfl rfl (fun _ => rfl) rfl rfl ?_) | refine wo_not rfl rfl ?_ | refine wo_max rfl rfl rfl rfl ?_ | refine wo_min rfl rfl rfl rfl ?_ | refine wo_notU rfl rfl ?_ | refine wo_loads rfl (h13.rds st9.le 2 rfl) rfl rfl rfl rfl rfl rfl ?_)
  refine wo_mkF st9 (cs := []) 1 rfl rfl (fun _ => rfl) rfl rfl (fun iN3 V10 B10 st10 le10 f10 => ?_)
  replace hs := hs.le le10
  replace h13 := h13.le le10
  replace haa := haa.le le10
  replace hra := hra.le le10
  replace hab := hab.le le10
  replace hrb := hrb.le le10
  replace hac := hac.le le10
  replace hrc := hrc.le le10
  replace ham := ham.le le10
  replace hrm := hrm.le le10
  replace hz := hz.le le10
  replace t1 := t1.le le10
  replace t2 := t2.le le10
  replace t3 := t3.le le10
  replace t4 := t4.le le10
  replace t5 := t5.le le10
  clear st9
  repeat (first | refine w_seq ?_ | refine w_region env ?_ | refine wo_nil ?_ | (refine wo_gate ?_ ?_; rfl; refine wo_pure rfl rfl (fun _ => rfl) rfl rfl ?_) | refine wo_not rfl rfl ?_ | refine wo_max rfl rfl rfl rfl ?_ | refine wo_min rfl rfl rfl rfl ?_ | refine wo_notU rfl rfl ?_)
  refine wo_appE st10 rfl rfl f10 hz (ints_len _).symm hcells (by rw [ints_len]; omega) rfl rfl rfl rfl rfl rfl rfl rfl rfl (fun ax3 cx3 V11 B11 st11 le11 hx11 => ?_)
  replace hs := hs.le le11
  replace h13 := h13.le le11
  replace haa := haa.le le11
  replace hra := hra.le le11
  replace hab := hab.le le11
  replace hrb := hrb.le le11
  replace hac := hac.le le11
  replace hrc := hrc.le le11
  replace ham := ham.le le11
  replace hrm := hrm.le le11
  replace hz := hz.le le11
  replace t1 := t1.le le11
  replace t2 := t2.le le11
  replace t3 := t3.le le11
  replace t4 := t4.le le11
  replace t5 := t5.le le11
  clear st10
  refine wo_callX st11 (agrees_told hs hab hrb (fun c hc => (h2.b c hc).1) (by omega) hx11 (by omega) hz2) rfl rfl rfl ?_
  rintro v r6 hr6 ⟨v69, v70, rfl, t6⟩
  obtain ⟨V12, st12, le12, le12'⟩ := st11.callE hr6
  replace t6 := t6.le le12'
  replace t1 := t1.le le12
  replace t2 := t2.le le12
  replace t3 := t3.le le12
  replace t4 := t4.le le12
  replace t5 := t5.le le12
  clear st11
  repeat (first | refine w_seq ?_ | refine w_region env ?_ | refine wo_nil ?_ | (refine wo_gate ?_ ?_; rfl; refine wo_pure rfl rfl (fun _ => rfl) rfl rfl ?_) | refine wo_not rfl rfl ?_ | refine wo_max rfl rfl rfl rfl ?_ | refine wo_min rfl rfl rfl rfl ?_ | refine wo_notU rfl rfl ?_)
  exact k _ _ V12 v60 v61 v62 v63 v64 v65 v66 v38 v67 v68 v69 v70 st12 (le1.trans (le2.trans (le3.trans (le4.trans (le5.trans (le6.trans (le7.trans (le8.trans (le9.trans (le10.trans (le11.trans le12))))))))))) t1 t2 t3 t4 t5 t6 (Sub.cons rfl (Sub.cons rfl (Sub.cons rfl (Sub.cons rfl (Sub.cons rfl (Sub.cons rfl (Sub.cons rfl (Sub.cons rfl (Sub.cons rfl (Sub.cons rfl (Sub.cons rfl (Sub.cons rfl (Sub.cons rfl (Sub.cons rfl (Sub.cons rfl Sub.nil)))))))))))))))
end Go.Proofs.YtdjcbpicdnhciaaGreat
