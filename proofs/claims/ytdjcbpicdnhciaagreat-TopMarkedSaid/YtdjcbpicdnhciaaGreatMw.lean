/- The law about marks on a wall: what two walls have in common, place by place. -/
import Derived.Test.YtdjcbpicdnhciaaGreatMv
import Derived.Test.YtdjcbpicdnhciaaGreatEj
set_option linter.unusedVariables false
set_option linter.unusedSimpArgs false
open Go Go.Dx Go.Proofs
namespace Go.Proofs.YtdjcbpicdnhciaaGreat
set_option maxRecDepth 20000
-- NEWU

/-- What is in both cells. -/
def inBoth (x y : CellS) (s : Int) : Bool := (decide (x.sg = []) || decide (s ∈ x.sg)) && (decide (y.sg = []) || decide (s ∈ y.sg)) && (!decide (x.sg = []) || !decide (y.sg = []))

def cellV (x : CellS) (a : Option Addr) (c : Nat) : List Value := [.int .i64 x.mn, .int .i64 x.mx, .slice a x.sg.length c]

theorem cellR_of {A : Hp} {row : List Value} {x : CellS} (h : CellR A row x) : ∃ a c, row = cellV x a c ∧ Sl A a 1 (ints x.sg) ∧ (x.sg = [] → a = none) := h

theorem len_zero {xs : List Int} : ((xs.length : Int) == 0) = decide (xs = []) := by
  cases xs with
  | nil => rfl
  | cons x xs =>
    have : ((((x :: xs).length : Nat) : Int) == 0) = false := by
      rw [beq_eq_false_iff_ne]; simp only [List.length_cons]; omega
    rw [this]; simp

theorem len_pos {xs : List Int} : decide ((xs.length : Int) > 0) = !decide (xs = []) := by
  cases xs with
  | nil => rfl
  | cons x xs =>
    have : decide ((((x :: xs).length : Nat) : Int) > 0) = true := by
      rw [decide_eq_true_eq]; simp only [List.length_cons]; omega
    rw [this]; simp

/-- The loop "is it in there?". -/
theorem beq_mem {xs : List Int} {k : Nat} (h : k < xs.length) (b : Bool) (s : Int) : (b || decide (s ∈ xs.take (k + 1))) = ((b || decide (s ∈ xs.take k)) || (s == xs[k])) := by
  rw [mem_take_succ h]
  have : (s == xs[k]) = decide (s = xs[k]) := by
    by_cases h2 : s = xs[k]
    · rw [decide_eq_true h2, h2]; simp
    · rw [decide_eq_false h2, beq_eq_false_iff_ne]; exact h2
  rw [this, Bool.or_assoc]

theorem e5_14 {V0 V B : Hp} {m : TF} {pa pb : List CellS} {aa ab : Option Addr} {ra rb : List (List Value)} {n ca cb : Nat} {v13 v5 : Value} {rest : Code} {Q : Exit → TF → Hp → Prop} (st : Sta V0 V B [])
    (haa : Sl V aa 3 ra) (hra : CellsR V ra pa) (hab : Sl V ab 3 rb) (hrb : CellsR V rb pb) (hla : pa.length = n) (hlb : pb.length = n) (hn3 : n ≤ 3) (hsa : ∀ c ∈ pa, c.sg ∈ subs3) (hsb : ∀ c ∈ pb, c.sg ∈ subs3) (hoa : ∀ c ∈ pa, 0 ≤ c.mn ∧ c.mn ≤ 100 ∧ 0 ≤ c.mx ∧ c.mx ≤ 100) (hob : ∀ c ∈ pb, 0 ≤ c.mn ∧ c.mn ≤ 100 ∧ 0 ≤ c.mx ∧ c.mx ≤ 100)
    (hsub : Sub [(44, .bool true), (43, .slice none 0 0), (42, .slice ab n cb), (41, .slice aa n ca), (40, .int .i64 n), (13, v13), (5, v5)] m)
    (k : ∀ m' B' V' ac rc, Sta V0 V' B' [] → Le V V' → Sl V' ac 3 rc → Wel V' ac 3 → CellsR V' rc (List.zipWith (fun a b => (bothS a b).1) pa pb) →
      Sub [(44, .bool ((List.zip pa pb).all fun p => (bothS p.1 p.2).2)), (43, .slice ac rc.length rc.length), (42, .slice ab n cb), (41, .slice aa n ca), (40, .int .i64 n), (13, v13), (5, v5)] m' → W Tryz.prog 549 rest m' B' Q) :
    W Tryz.prog 549 (.seq (e5 14) rest) m B Q := by
  refine w_sub hsub ?_
  have lra : ra.length = n := by rw [← hla]; exact hra.1
  have lrb : rb.length = n := by rw [← hlb]; exact hrb.1
  obtain ⟨V_, hV_⟩ : ∃ V_, V_ = V := ⟨_, rfl⟩
  repeat (first | refine w_seq ?_ | refine w_region env ?_ | refine wo_nil ?_ | (refine wo_gate ?_ ?_; rfl; refine wo_pure rfl rfl (fun _ => rfl) rfl rfl ?_) | refine wo_not rfl rfl ?_ | refine wo_max rfl rfl rfl rfl ?_ | refine wo_min rfl rfl rfl rfl ?_ | refine wo_notU rfl rfl ?_)
  refine w_block ?_
  refine w_loop (fun j m' B => ∃ V ac rc, Sta V0 V B [.acc ac 3 rc] ∧ Le V_ V ∧ ∃ i : Nat, j + i = n ∧ CellsR V rc ((List.zipWith (fun a b => (bothS a b).1) pa pb).take i) ∧
      m' = [(44, .bool (((List.zip pa pb).take i).all fun p => (bothS p.1 p.2).2)), (261, .int .i64 i), (260, .int .i64 n), (43, .slice ac rc.length rc.length), (42, .slice ab n cb), (41, .slice aa n ca), (40, .int .i64 n), (13, v13), (5, v5)]) n
    (Sub.cons rfl (Sub.cons rfl (Sub.cons rfl (Sub.cons rfl (Sub.cons rfl (Sub.cons rfl (Sub.cons rfl (Sub.cons rfl (Sub.cons rfl Sub.nil))))))))) ⟨V, none, [], st.addAcc 3, by rw [hV_]; exact .refl _, 0, by omega, CellsR.nil, rfl⟩ ?_
  rintro j m' B1 ⟨V1, ac, rc, st1, le1, i, hji, hrc, rfl⟩
  subst hV_
  have hrcl : rc.length = i := by have := hrc.1; simp at this; omega
  replace haa := haa.le le1
  replace hra := hra.le le1
  replace hab := hab.le le1
  replace hrb := hrb.le le1
  repeat (first | refine w_seq ?_ | refine w_region env ?_ | refine wo_nil ?_ | (refine wo_gate ?_ ?_; rfl; refine wo_pure rfl rfl (fun _ => rfl) rfl rfl ?_) | refine wo_not rfl rfl ?_ | refine wo_max rfl rfl rfl rfl ?_ | refine wo_min rfl rfl rfl rfl ?_ | refine wo_notU rfl rfl ?_)
  refine w_cond _ rfl (fun hlt => ?_) (fun hge => ?_)
  · have hin : i < n := by simpa using hlt
    obtain ⟨x, hxe⟩ : ∃ x, x = pa[i]'(by omega) := ⟨_, rfl⟩
    obtain ⟨y, hye⟩ : ∃ y, y = pb[i]'(by omega) := ⟨_, rfl⟩
    obtain ⟨rx, hrx, hcx⟩ := hra.2 i (by omega)
    obtain ⟨ry, hry, hcy⟩ := hrb.2 i (by omega)
    rw [← hxe] at hcx
    rw [← hye] at hcy
    obtain ⟨ax, cx, rfl, hslx, hnx⟩ := cellR_of hcx
    obtain ⟨ay, cy, rfl, hsly, hny⟩ := cellR_of hcy
    have hsx : x.sg ∈ subs3 := by rw [hxe]; exact hsa _ (by simp)
    have hsy : y.sg ∈ subs3 := by rw [hye]; exact hsb _ (by simp)
    have hox : 0 ≤ x.mn ∧ x.mn ≤ 100 ∧ 0 ≤ x.mx ∧ x.mx ≤ 100 := by rw [hxe]; exact hoa _ (by simp)
    have hoy : 0 ≤ y.mn ∧ y.mn ≤ 100 ∧ 0 ≤ y.mx ∧ y.mx ≤ 100 := by rw [hye]; exact hob _ (by simp)
    have hlx := subs3_len _ hsx
    have hly := subs3_len _ hsy
    obtain ⟨ok, hok⟩ : ∃ ok, ok = (((List.zip pa pb).take i).all fun p => (bothS p.1 p.2).2) := ⟨_, rfl⟩
    rw [← hok]
    have hvl := st1.view.len
    have hvn : ∀ b, V1[B1.length]? ≠ some (.cells b) := by
      intro b h
      have := at_lt h
      omega
    have hle := le_hid (i0 := B1.length) (k0 := 10) (bz := ⟨[.int .i64 0, .int .i64 0, .slice none 0 0], false, false, 1, 0⟩) st1.le hvn
    refine w_skip ?_
    refine w_seq (w_block ?_)
    repeat (first | refine w_seq ?_ | refine w_region env ?_ | refine wo_nil ?_ | (refine wo_gate ?_ ?_; rfl; refine wo_pure rfl rfl (fun _ => rfl) rfl rfl ?_) | refine wo_not rfl rfl ?_ | refine wo_max rfl rfl rfl rfl ?_ | refine wo_min rfl rfl rfl rfl ?_ | refine wo_notU rfl rfl ?_)
    refine w_drawP env 11 B1.length 10 ⟨[.int .i64 0, .int .i64 0, .slice none 0 0], false, false, 1, 0⟩ B1 (by kernel_rfl) rfl (if_neg (by omega)) ?_
    refine wp_keep rfl rfl (fun _ => rfl) rfl rfl rfl rfl ?_
    refine wp_keep rfl rfl (fun _ => rfl) rfl rfl rfl rfl ?_
    refine wp_at (cellV x ax cx) rfl (haa.le hle) rfl rfl rfl (by omega) (by omega) (by simpa using hrx) rfl rfl rfl rfl (fun p1 hr1 => ?_)
    refine wp_loads rfl hr1 rfl rfl rfl rfl rfl rfl rfl rfl ?_
    refine wp_keep rfl rfl (fun _ => rfl) rfl rfl rfl rfl ?_
    refine wp_keep rfl rfl (fun _ => rfl) rfl rfl rfl rfl ?_
    refine wp_at (cellV y ay cy) rfl (hab.le hle) rfl rfl rfl (by omega) (by omega) (by simpa using hry) rfl rfl rfl rfl (fun p2 hr2 => ?_)
    refine wp_loads rfl hr2 rfl rfl rfl rfl rfl rfl rfl rfl ?_
    refine wp_allocP ⟨cellV x ax cx, false, false, 1, 0⟩ rfl rfl rfl rfl rfl rfl (by kernel_rfl) rfl rfl rfl rfl ?_
    refine wp_allocN (z := .agg ⟨[.int .i64 0, .int .i64 0, .slice none 0 0]⟩) rfl rfl rfl (by simp) rfl rfl rfl rfl ?_
    refine wp_store rfl rfl (bx := ⟨cellV x ax cx, false, false, 1, 0⟩) (by rw [List.getElem?_append_left (by simp)]; exact at_new _ _) rfl rfl rfl (by show 0 + 3 ≤ 3; omega) rfl rfl rfl rfl rfl rfl ?_
    refine wp_tail rfl ?_
    obtain ⟨V2, st2, le2⟩ := st1.ns (new_step B1 (o := .cells ⟨cellV x ax cx, false, false, 1, 0⟩) rfl) rfl
    obtain ⟨V3, st3, le3⟩ := st2.ns (new_step (B1 ++ [.cells ⟨cellV x ax cx, false, false, 1, 0⟩]) (o := .cells ⟨[.int .i64 0, .int .i64 0, .slice none 0 0], false, false, 1, 0⟩) rfl) rfl
    refine wo_stW st3 0 rfl rfl rfl rfl (fun _ => rfl) rfl rfl rfl rfl (fun B4 st4 => ?_)
    obtain ⟨V5, st5, le5, f47⟩ := st4.frzO 0 rfl
    obtain ⟨V6, st6, le6, f46⟩ := st5.frzO 0 rfl
    have e47 : (B1 ++ [AObj.cells ⟨cellV x ax cx, false, false, 1, 0⟩]).length = B1.length + 1 := by simp
    rw [e47] at f47
    have h46 : At V6 B1.length (cellV x ax cx) := At.of f46 rfl
    have h47 : At V6 (B1.length + 1) (cellV y ay cy) := (At.of f47 rfl).le le6
    replace st6 : Sta V0 V6 B4 [.acc ac 3 rc] := st6
    have lea : Le V1 V6 := le2.trans (le3.trans (le5.trans le6))
    replace hslx := hslx.le lea
    replace hsly := hsly.le lea
    replace hrc := hrc.le lea
    clear st5 st4 st3 st2
    refine wo_nil ?_
    refine w_sub (m' := [(44, .bool ok), (46, .pointer (some ⟨B1.length, 0, some 0⟩)), (47, .pointer (some ⟨B1.length + 1, 0, some 0⟩)), (45, .int .i64 i), (261, .int .i64 i), (260, .int .i64 n), (43, .slice ac rc.length rc.length), (42, .slice ab n cb), (41, .slice aa n ca), (40, .int .i64 n), (13, v13), (5, v5)]) (Sub.cons rfl (Sub.cons rfl (Sub.cons (by rw [← e47]; rfl) (Sub.cons rfl (Sub.cons rfl (Sub.cons rfl (Sub.cons rfl (Sub.cons rfl (Sub.cons rfl (Sub.cons rfl (Sub.cons rfl (Sub.cons rfl Sub.nil)))))))))))) ?_
    refine w_seq (w_region env ?_)
    repeat (first | refine w_seq ?_ | refine w_region env ?_ | refine wo_nil ?_ | (refine wo_gate ?_ ?_; rfl; refine wo_pure rfl rfl (fun _ => rfl) rfl rfl ?_) | refine wo_not rfl rfl ?_ | refine wo_max rfl rfl rfl rfl ?_ | refine wo_min rfl rfl rfl rfl ?_ | refine wo_notU rfl rfl ?_ | refine wo_load rfl (h46.rdq st6.le 0 rfl) rfl rfl rfl rfl rfl ?_ | refine wo_load rfl (h47.rdq st6.le 0 rfl) rfl rfl rfl rfl rfl ?_)
    refine wo_load rfl (h46.rdq st6.le 1 rfl) rfl rfl rfl rfl rfl ?_
    repeat (first | refine w_seq ?_ | refine w_region env ?_ | refine wo_nil ?_ | (refine wo_gate ?_ ?_; rfl; refine wo_pure rfl rfl (fun _ => rfl) rfl rfl ?_) | refine wo_not rfl rfl ?_ | refine wo_max rfl rfl rfl rfl ?_ | refine wo_min rfl rfl rfl rfl ?_ | refine wo_notU rfl rfl ?_ | refine wo_load rfl (h46.rdq st6.le 1 rfl) rfl rfl rfl rfl rfl ?_)
    refine wo_load rfl (h47.rdq st6.le 1 rfl) rfl rfl rfl rfl rfl ?_
    repeat (first | refine w_seq ?_ | refine w_region env ?_ | refine wo_nil ?_ | (refine wo_gate ?_ ?_; rfl; refine wo_pure rfl rfl (fun _ => rfl) rfl rfl ?_) | refine wo_not rfl rfl ?_ | refine wo_max rfl rfl rfl rfl ?_ | refine wo_min rfl rfl rfl rfl ?_ | refine wo_notU rfl rfl ?_ | refine wo_load rfl (h46.rdq st6.le 1 rfl) rfl rfl rfl rfl rfl ?_)
    refine wo_varsO st6 (vs := [.int .i64 (max x.mn y.mn), .int .i64 (min x.mx y.mx), .slice none 0 0]) rfl (fun _ h => by cases h; rfl) rfl rfl rfl rfl rfl rfl rfl rfl rfl rfl rfl (fun i48 V7 B7 st7 le7 => ?_)
    replace hslx := hslx.le le7
    replace hsly := hsly.le le7
    replace hrc := hrc.le le7
    replace h46 := h46.le le7
    replace h47 := h47.le le7
    refine wo_nil ?_
    -- do they fit?
    refine w_seq ?_
    refine w_mono (Q := Mid fun m' B => B = B7 ∧ Sub [(44, .bool (ok && decide (max x.mn y.mn ≤ min x.mx y.mx))), (46, .pointer (some ⟨B1.length, 0, some 0⟩)), (47, .pointer (some ⟨B1.length + 1, 0, some 0⟩)), (48, .pointer (some ⟨i48, 0, some 0⟩)), (261, .int .i64 i), (260, .int .i64 n), (43, .slice ac rc.length rc.length), (42, .slice ab n cb), (41, .slice aa n ca), (40, .int .i64 n), (13, v13), (5, v5)] m') ?_ ?_
    · cases ok with
      | false =>
        repeat (first | refine w_seq ?_ | refine w_region env ?_ | refine wo_nil ?_ | (refine wo_gate ?_ ?_; rfl; refine wo_pure rfl rfl (fun _ => rfl) rfl rfl ?_) | refine wo_not rfl rfl ?_ | refine wo_max rfl rfl rfl rfl ?_ | refine wo_min rfl rfl rfl rfl ?_ | refine wo_notU rfl rfl ?_)
        exact ⟨rfl, rfl, (Sub.cons rfl (Sub.cons rfl (Sub.cons rfl (Sub.cons rfl (Sub.cons rfl (Sub.cons rfl (Sub.cons rfl (Sub.cons rfl (Sub.cons rfl (Sub.cons rfl (Sub.cons rfl (Sub.cons rfl Sub.nil))))))))))))⟩
      | true =>
        repeat (first | refine w_seq ?_ | refine w_region env ?_ | refine wo_nil ?_ | (refine wo_gate ?_ ?_; rfl; refine wo_pure rfl rfl (fun _ => rfl) rfl rfl ?_) | refine wo_not rfl rfl ?_ | refine wo_max rfl rfl rfl rfl ?_ | refine wo_min rfl rfl rfl rfl ?_ | refine wo_notU rfl rfl ?_)
        refine wo_load rfl (rd_one (st7.obj (k := 0) rfl) rfl (q := 0) rfl) rfl rfl rfl rfl rfl ?_
        repeat (first | refine w_seq ?_ | refine w_region env ?_ | refine wo_nil ?_ | (refine wo_gate ?_ ?_; rfl; refine wo_pure rfl rfl (fun _ => rfl) rfl rfl ?_) | refine wo_not rfl rfl ?_ | refine wo_max rfl rfl rfl rfl ?_ | refine wo_min rfl rfl rfl rfl ?_ | refine wo_notU rfl rfl ?_)
        refine wo_load rfl (rd_one (st7.obj (k := 0) rfl) rfl (q := 1) rfl) rfl rfl rfl rfl rfl ?_
        repeat (first | refine w_seq ?_ | refine w_region env ?_ | refine wo_nil ?_ | (refine wo_gate ?_ ?_; rfl; refine wo_pure rfl rfl (fun _ => rfl) rfl rfl ?_) | refine wo_not rfl rfl ?_ | refine wo_max rfl rfl rfl rfl ?_ | refine wo_min rfl rfl rfl rfl ?_ | refine wo_notU rfl rfl ?_)
        exact ⟨rfl, rfl, (Sub.cons rfl (Sub.cons rfl (Sub.cons rfl (Sub.cons rfl (Sub.cons rfl (Sub.cons rfl (Sub.cons rfl (Sub.cons rfl (Sub.cons rfl (Sub.cons rfl (Sub.cons rfl (Sub.cons rfl Sub.nil))))))))))))⟩
    rintro _ mm B8 ⟨rfl, rfl, hsub2⟩
    show W _ _ _ _ _ _
    refine w_sub hsub2 ?_
    repeat (first | refine w_seq ?_ | refine w_region env ?_ | refine wo_nil ?_ | (refine wo_gate ?_ ?_; rfl; refine wo_pure rfl rfl (fun _ => rfl) rfl rfl ?_) | refine wo_not rfl rfl ?_ | refine wo_max rfl rfl rfl rfl ?_ | refine wo_min rfl rfl rfl rfl ?_ | refine wo_notU rfl rfl ?_)
    refine w_block ?_
    refine w_loop (fun j' m' B => ∃ V asg sl, Sta V0 V B [.obj i48 ⟨[.int .i64 (max x.mn y.mn), .int .i64 (min x.mx y.mx), .slice asg sl.length sl.length], false, false, 1, 0⟩, .acc asg 1 (ints sl), .acc ac 3 rc] ∧ Le V7 V ∧ (sl = [] → asg = none) ∧
        ∃ s : Nat, j' + s = 3 ∧ sl = ([(0 : Int), 1, 2].take s).filter (inBoth x y) ∧
        m' = [(291, .int .i64 s), (44, .bool (ok && decide (max x.mn y.mn ≤ min x.mx y.mx))), (46, .pointer (some ⟨B1.length, 0, some 0⟩)), (47, .pointer (some ⟨B1.length + 1, 0, some 0⟩)), (48, .pointer (some ⟨i48, 0, some 0⟩)), (261, .int .i64 i), (260, .int .i64 n), (43, .slice ac rc.length rc.length), (42, .slice ab n cb), (41, .slice aa n ca), (40, .int .i64 n), (13, v13), (5, v5)]) 3
      (Sub.cons rfl (Sub.cons rfl (Sub.cons rfl (Sub.cons rfl (Sub.cons rfl (Sub.cons rfl (Sub.cons rfl (Sub.cons rfl (Sub.cons rfl (Sub.cons rfl (Sub.cons rfl (Sub.cons rfl (Sub.cons rfl Sub.nil))))))))))))) ⟨V7, none, [], st7.addAccs 1, .refl _, fun _ => rfl, 0, rfl, rfl, rfl⟩ ?_
    rintro j' m' B9 ⟨V9, asg, sl, st9, le9, hnil, s, hjs, hsl, rfl⟩
    have hsll : sl.length ≤ 3 := by
      rw [hsl]
      exact Nat.le_trans (List.length_filter_le _ _) (by simp; omega)
    replace hslx := hslx.le le9
    replace hsly := hsly.le le9
    replace hrc := hrc.le le9
    replace h46 := h46.le le9
    replace h47 := h47.le le9
    repeat (first | refine w_seq ?_ | refine w_region env ?_ | refine wo_nil ?_ | (refine wo_gate ?_ ?_; rfl; refine wo_pure rfl rfl (fun _ => rfl) rfl rfl ?_) | refine wo_not rfl rfl ?_ | refine wo_max rfl rfl rfl rfl ?_ | refine wo_min rfl rfl rfl rfl ?_ | refine wo_notU rfl rfl ?_)
    refine w_cond _ rfl (fun hlt => ?_) (fun hge => ?_)
    · have hs3 : s < 3 := by
        have : (s : Int) < 3 := by simpa using hlt
        omega
      refine w_skip ?_
      refine w_seq (w_block ?_)
      repeat (first | refine w_seq ?_ | refine w_region env ?_ | refine wo_nil ?_ | (refine wo_gate ?_ ?_; rfl; refine wo_pure rfl rfl (fun _ => rfl) rfl rfl ?_) | refine wo_not rfl rfl ?_ | refine wo_max rfl rfl rfl rfl ?_ | refine wo_min rfl rfl rfl rfl ?_ | refine wo_notU rfl rfl ?_)
      refine w_draw env 6 (by kernel_rfl) ?_
      repeat (first | refine w_seq ?_ | refine w_region env ?_ | refine wo_nil ?_ | (refine wo_gate ?_ ?_; rfl; refine wo_pure rfl rfl (fun _ => rfl) rfl rfl ?_) | refine wo_not rfl rfl ?_ | refine wo_max rfl rfl rfl rfl ?_ | refine wo_min rfl rfl rfl rfl ?_ | refine wo_notU rfl rfl ?_)
      refine wo_load rfl (h46.rdq st9.le 2 rfl) rfl rfl rfl rfl rfl ?_
      repeat (first | refine w_seq ?_ | refine w_region env ?_ | refine wo_nil ?_ | (refine wo_gate ?_ ?_; rfl; refine wo_pure rfl rfl (fun _ => rfl) rfl rfl ?_) | refine wo_not rfl rfl ?_ | refine wo_max rfl rfl rfl rfl ?_ | refine wo_min rfl rfl rfl rfl ?_ | refine wo_notU rfl rfl ?_)
      refine wo_load rfl (h47.rdq st9.le 2 rfl) rfl rfl rfl rfl rfl ?_
      repeat (first | refine w_seq ?_ | refine w_region env ?_ | refine wo_nil ?_ | (refine wo_gate ?_ ?_; rfl; refine wo_pure rfl rfl (fun _ => rfl) rfl rfl ?_) | refine wo_not rfl rfl ?_ | refine wo_max rfl rfl rfl rfl ?_ | refine wo_min rfl rfl rfl rfl ?_ | refine wo_notU rfl rfl ?_)
      rw [len_zero, len_zero]
      refine wo_load rfl (h46.rdq st9.le 2 rfl) rfl rfl rfl rfl rfl ?_
      repeat (first | refine w_seq ?_ | refine w_region env ?_ | refine wo_nil ?_ | (refine wo_gate ?_ ?_; rfl; refine wo_pure rfl rfl (fun _ => rfl) rfl rfl ?_) | refine wo_not rfl rfl ?_ | refine wo_max rfl rfl rfl rfl ?_ | refine wo_min rfl rfl rfl rfl ?_ | refine wo_notU rfl rfl ?_)
      refine w_block ?_
      refine w_loop (fun j2 m' B => B = B9 ∧ ∃ (q : Nat) (bv : Bool), j2 + q = x.sg.length ∧ bv = (decide (x.sg = []) || decide ((s : Int) ∈ x.sg.take q)) ∧
          m' = [(305, .int .i64 q), (304, .int .i64 x.sg.length), (303, .slice ax x.sg.length cx), (50, .bool bv), (51, .bool (decide (y.sg = []))), (49, .int .i64 s), (291, .int .i64 s), (44, .bool (ok && decide (max x.mn y.mn ≤ min x.mx y.mx))), (46, .pointer (some ⟨B1.length, 0, some 0⟩)), (47, .pointer (some ⟨B1.length + 1, 0, some 0⟩)), (48, .pointer (some ⟨i48, 0, some 0⟩)), (261, .int .i64 i), (260, .int .i64 n), (43, .slice ac rc.length rc.length), (42, .slice ab n cb), (41, .slice aa n ca), (40, .int .i64 n), (13, v13), (5, v5)]) x.sg.length
        (Sub.cons rfl (Sub.cons rfl (Sub.cons rfl (Sub.cons rfl (Sub.cons rfl (Sub.cons rfl (Sub.cons rfl (Sub.cons rfl (Sub.cons rfl (Sub.cons rfl (Sub.cons rfl (Sub.cons rfl (Sub.cons rfl (Sub.cons rfl (Sub.cons rfl (Sub.cons rfl (Sub.cons rfl (Sub.cons rfl (Sub.cons rfl Sub.nil))))))))))))))))))) ⟨rfl, 0, _, by omega, by simp, rfl⟩ ?_
      rintro j2 m2 B10 ⟨rfl, q, bv, hjq, hbv, rfl⟩
      repeat (first | refine w_seq ?_ | refine w_region env ?_ | refine wo_nil ?_ | (refine wo_gate ?_ ?_; rfl; refine wo_pure rfl rfl (fun _ => rfl) rfl rfl ?_) | refine wo_not rfl rfl ?_ | refine wo_max rfl rfl rfl rfl ?_ | refine wo_min rfl rfl rfl rfl ?_ | refine wo_notU rfl rfl ?_)
      refine w_cond _ rfl (fun hlt2 => ?_) (fun hge2 => ?_)
      · have hq : q < x.sg.length := by simpa using hlt2
        refine w_skip ?_
        refine w_seq (w_block ?_)
        repeat (first | refine w_seq ?_ | refine w_region env ?_ | refine wo_nil ?_ | (refine wo_gate ?_ ?_; rfl; refine wo_pure rfl rfl (fun _ => rfl) rfl rfl ?_) | refine wo_not rfl rfl ?_ | refine wo_max rfl rfl rfl rfl ?_ | refine wo_min rfl rfl rfl rfl ?_ | refine wo_notU rfl rfl ?_)
        refine wo_at _ rfl (hslx.le st9.le) rfl rfl rfl rfl rfl (ints_len _).symm (by omega) (ints_get (by simpa using hq)) (fun p hp => ?_)
        refine wo_load rfl hp rfl rfl rfl rfl rfl ?_
        repeat (first | refine w_seq ?_ | refine w_region env ?_ | refine wo_nil ?_ | (refine wo_gate ?_ ?_; rfl; refine wo_pure rfl rfl (fun _ => rfl) rfl rfl ?_) | refine wo_not rfl rfl ?_ | refine wo_max rfl rfl rfl rfl ?_ | refine wo_min rfl rfl rfl rfl ?_ | refine wo_notU rfl rfl ?_)
        have eb := beq_mem hq (decide (x.sg = [])) (s : Int)
        rw [← hbv] at eb
        cases bv with
        | true =>
          repeat (first | refine w_seq ?_ | refine w_region env ?_ | refine wo_nil ?_ | (refine wo_gate ?_ ?_; rfl; refine wo_pure rfl rfl (fun _ => rfl) rfl rfl ?_) | refine wo_not rfl rfl ?_ | refine wo_max rfl rfl rfl rfl ?_ | refine wo_min rfl rfl rfl rfl ?_ | refine wo_notU rfl rfl ?_)
          exact ⟨j2 - 1, [(305, _), (304, _), (303, _), (50, _), (51, _), (49, _), (291, _), (44, _), (46, _), (47, _), (48, _), (261, _), (260, _), (43, _), (42, _), (41, _), (40, _), (13, _), (5, _)], by omega, (Sub.cons rfl (Sub.cons rfl (Sub.cons rfl (Sub.cons rfl (Sub.cons rfl (Sub.cons rfl (Sub.cons rfl (Sub.cons rfl (Sub.cons rfl (Sub.cons rfl (Sub.cons rfl (Sub.cons rfl (Sub.cons rfl (Sub.cons rfl (Sub.cons rfl (Sub.cons rfl (Sub.cons rfl (Sub.cons rfl (Sub.cons rfl Sub.nil))))))))))))))))))), rfl, q + 1, true, by omega, by rw [eb]; rfl, by rw [i64_nat (by omega)]⟩
        | false =>
          repeat (first | refine w_seq ?_ | refine w_region env ?_ | refine wo_nil ?_ | (refine wo_gate ?_ ?_; rfl; refine wo_pure rfl rfl (fun _ => rfl) rfl rfl ?_) | refine wo_not rfl rfl ?_ | refine wo_max rfl rfl rfl rfl ?_ | refine wo_min rfl rfl rfl rfl ?_ | refine wo_notU rfl rfl ?_)
          exact ⟨j2 - 1, [(305, _), (304, _), (303, _), (50, _), (51, _), (49, _), (291, _), (44, _), (46, _), (47, _), (48, _), (261, _), (260, _), (43, _), (42, _), (41, _), (40, _), (13, _), (5, _)], by omega, (Sub.cons rfl (Sub.cons rfl (Sub.cons rfl (Sub.cons rfl (Sub.cons rfl (Sub.cons rfl (Sub.cons rfl (Sub.cons rfl (Sub.cons rfl (Sub.cons rfl (Sub.cons rfl (Sub.cons rfl (Sub.cons rfl (Sub.cons rfl (Sub.cons rfl (Sub.cons rfl (Sub.cons rfl (Sub.cons rfl (Sub.cons rfl Sub.nil))))))))))))))))))), rfl, q + 1, _, by omega, eb.symm, by rw [i64_nat (by omega)]; rfl⟩
      · have hq : q = x.sg.length := by
          have : ¬ (q : Int) < (x.sg.length : Int) := by simpa using hge2
          omega
        subst hq
        rw [List.take_length] at hbv
        rw [hbv]
        refine w_exit ?_
        repeat (first | refine w_seq ?_ | refine w_region env ?_ | refine wo_nil ?_ | (refine wo_gate ?_ ?_; rfl; refine wo_pure rfl rfl (fun _ => rfl) rfl rfl ?_) | refine wo_not rfl rfl ?_ | refine wo_max rfl rfl rfl rfl ?_ | refine wo_min rfl rfl rfl rfl ?_ | refine wo_notU rfl rfl ?_)
        refine wo_load rfl (h47.rdq st9.le 2 rfl) rfl rfl rfl rfl rfl ?_
        repeat (first | refine w_seq ?_ | refine w_region env ?_ | refine wo_nil ?_ | (refine wo_gate ?_ ?_; rfl; refine wo_pure rfl rfl (fun _ => rfl) rfl rfl ?_) | refine wo_not rfl rfl ?_ | refine wo_max rfl rfl rfl rfl ?_ | refine wo_min rfl rfl rfl rfl ?_ | refine wo_notU rfl rfl ?_)
        refine w_block ?_
        refine w_loop (fun j2 m' B => B = B10 ∧ ∃ (q : Nat) (bv : Bool), j2 + q = y.sg.length ∧ bv = (decide (y.sg = []) || decide ((s : Int) ∈ y.sg.take q)) ∧
            m' = [(319, .int .i64 q), (318, .int .i64 y.sg.length), (317, .slice ay y.sg.length cy), (50, .bool (decide (x.sg = []) || decide ((s : Int) ∈ x.sg))), (51, .bool bv), (49, .int .i64 s), (291, .int .i64 s), (44, .bool (ok && decide (max x.mn y.mn ≤ min x.mx y.mx))), (46, .pointer (some ⟨B1.length, 0, some 0⟩)), (47, .pointer (some ⟨B1.length + 1, 0, some 0⟩)), (48, .pointer (some ⟨i48, 0, some 0⟩)), (261, .int .i64 i), (260, .int .i64 n), (43, .slice ac rc.length rc.length), (42, .slice ab n cb), (41, .slice aa n ca), (40, .int .i64 n), (13, v13), (5, v5)]) y.sg.length
          (Sub.cons rfl (Sub.cons rfl (Sub.cons rfl (Sub.cons rfl (Sub.cons rfl (Sub.cons rfl (Sub.cons rfl (Sub.cons rfl (Sub.cons rfl (Sub.cons rfl (Sub.cons rfl (Sub.cons rfl (Sub.cons rfl (Sub.cons rfl (Sub.cons rfl (Sub.cons rfl (Sub.cons rfl (Sub.cons rfl (Sub.cons rfl Sub.nil))))))))))))))))))) ⟨rfl, 0, _, by omega, by simp, rfl⟩ ?_
        rintro j3 m3 B11 ⟨rfl, q, bv2, hjq3, hbv2, rfl⟩
        repeat (first | refine w_seq ?_ | refine w_region env ?_ | refine wo_nil ?_ | (refine wo_gate ?_ ?_; rfl; refine wo_pure rfl rfl (fun _ => rfl) rfl rfl ?_) | refine wo_not rfl rfl ?_ | refine wo_max rfl rfl rfl rfl ?_ | refine wo_min rfl rfl rfl rfl ?_ | refine wo_notU rfl rfl ?_)
        refine w_cond _ rfl (fun hlt3 => ?_) (fun hge3 => ?_)
        · have hq : q < y.sg.length := by simpa using hlt3
          refine w_skip ?_
          refine w_seq (w_block ?_)
          repeat (first | refine w_seq ?_ | refine w_region env ?_ | refine wo_nil ?_ | (refine wo_gate ?_ ?_; rfl; refine wo_pure rfl rfl (fun _ => rfl) rfl rfl ?_) | refine wo_not rfl rfl ?_ | refine wo_max rfl rfl rfl rfl ?_ | refine wo_min rfl rfl rfl rfl ?_ | refine wo_notU rfl rfl ?_)
          refine wo_at _ rfl (hsly.le st9.le) rfl rfl rfl rfl rfl (ints_len _).symm (by omega) (ints_get (by simpa using hq)) (fun p hp => ?_)
          refine wo_load rfl hp rfl rfl rfl rfl rfl ?_
          repeat (first | refine w_seq ?_ | refine w_region env ?_ | refine wo_nil ?_ | (refine wo_gate ?_ ?_; rfl; refine wo_pure rfl rfl (fun _ => rfl) rfl rfl ?_) | refine wo_not rfl rfl ?_ | refine wo_max rfl rfl rfl rfl ?_ | refine wo_min rfl rfl rfl rfl ?_ | refine wo_notU rfl rfl ?_)
          have eb := beq_mem hq (decide (y.sg = [])) (s : Int)
          rw [← hbv2] at eb
          cases bv2 with
          | true =>
            repeat (first | refine w_seq ?_ | refine w_region env ?_ | refine wo_nil ?_ | (refine wo_gate ?_ ?_; rfl; refine wo_pure rfl rfl (fun _ => rfl) rfl rfl ?_) | refine wo_not rfl rfl ?_ | refine wo_max rfl rfl rfl rfl ?_ | refine wo_min rfl rfl rfl rfl ?_ | refine wo_notU rfl rfl ?_)
            exact ⟨j3 - 1, [(319, _), (318, _), (317, _), (50, _), (51, _), (49, _), (291, _), (44, _), (46, _), (47, _), (48, _), (261, _), (260, _), (43, _), (42, _), (41, _), (40, _), (13, _), (5, _)], by omega, (Sub.cons rfl (Sub.cons rfl (Sub.cons rfl (Sub.cons rfl (Sub.cons rfl (Sub.cons rfl (Sub.cons rfl (Sub.cons rfl (Sub.cons rfl (Sub.cons rfl (Sub.cons rfl (Sub.cons rfl (Sub.cons rfl (Sub.cons rfl (Sub.cons rfl (Sub.cons rfl (Sub.cons rfl (Sub.cons rfl (Sub.cons rfl Sub.nil))))))))))))))))))), rfl, q + 1, true, by omega, by rw [eb]; rfl, by rw [i64_nat (by omega)]⟩
          | false =>
            repeat (first | refine w_seq ?_ | refine w_region env ?_ | refine wo_nil ?_ | (refine wo_gate ?_ ?_; rfl; refine wo_pure rfl rfl (fun _ => rfl) rfl rfl ?_) | refine wo_not rfl rfl ?_ | refine wo_max rfl rfl rfl rfl ?_ | refine wo_min rfl rfl rfl rfl ?_ | refine wo_notU rfl rfl ?_)
            exact ⟨j3 - 1, [(319, _), (318, _), (317, _), (50, _), (51, _), (49, _), (291, _), (44, _), (46, _), (47, _), (48, _), (261, _), (260, _), (43, _), (42, _), (41, _), (40, _), (13, _), (5, _)], by omega, (Sub.cons rfl (Sub.cons rfl (Sub.cons rfl (Sub.cons rfl (Sub.cons rfl (Sub.cons rfl (Sub.cons rfl (Sub.cons rfl (Sub.cons rfl (Sub.cons rfl (Sub.cons rfl (Sub.cons rfl (Sub.cons rfl (Sub.cons rfl (Sub.cons rfl (Sub.cons rfl (Sub.cons rfl (Sub.cons rfl (Sub.cons rfl Sub.nil))))))))))))))))))), rfl, q + 1, _, by omega, eb.symm, by rw [i64_nat (by omega)]; rfl⟩
        · have hq : q = y.sg.length := by
            have : ¬ (q : Int) < (y.sg.length : Int) := by simpa using hge3
            omega
          subst hq
          rw [List.take_length] at hbv2
          rw [hbv2]
          refine w_exit ?_
          refine w_seq ?_
          refine w_mono (Q := Mid fun m' B => B = B11 ∧ ∃ bb : Bool, Sub [(345, .bool bb), (49, .int .i64 s), (291, .int .i64 s), (44, .bool (ok && decide (max x.mn y.mn ≤ min x.mx y.mx))), (46, .pointer (some ⟨B1.length, 0, some 0⟩)), (47, .pointer (some ⟨B1.length + 1, 0, some 0⟩)), (48, .pointer (some ⟨i48, 0, some 0⟩)), (261, .int .i64 i), (260, .int .i64 n), (43, .slice ac rc.length rc.length), (42, .slice ab n cb), (41, .slice aa n ca), (40, .int .i64 n), (13, v13), (5, v5)] m' ∧ bb = inBoth x y s) ?_ ?_
          · refine w_region env ?_
            cases hb0 : (decide (x.sg = []) || decide ((s : Int) ∈ x.sg)) with
            | false =>
              repeat (first | refine w_seq ?_ | refine w_region env ?_ | refine wo_nil ?_ | (refine wo_gate ?_ ?_; rfl; refine wo_pure rfl rfl (fun _ => rfl) rfl rfl ?_) | refine wo_not rfl rfl ?_ | refine wo_max rfl rfl rfl rfl ?_ | refine wo_min rfl rfl rfl rfl ?_ | refine wo_notU rfl rfl ?_)
              exact ⟨rfl, rfl, _, (Sub.cons rfl (Sub.cons rfl (Sub.cons rfl (Sub.cons rfl (Sub.cons rfl (Sub.cons rfl (Sub.cons rfl (Sub.cons rfl (Sub.cons rfl (Sub.cons rfl (Sub.cons rfl (Sub.cons rfl (Sub.cons rfl (Sub.cons rfl (Sub.cons rfl Sub.nil))))))))))))))), by unfold inBoth; rw [hb0, Bool.false_and, Bool.false_and]⟩
            | true =>
              cases hb1 : (decide (y.sg = []) || decide ((s : Int) ∈ y.sg)) with
              | false =>
                repeat (first | refine w_seq ?_ | refine w_region env ?_ | refine wo_nil ?_ | (refine wo_gate ?_ ?_; rfl; refine wo_pure rfl rfl (fun _ => rfl) rfl rfl ?_) | refine wo_not rfl rfl ?_ | refine wo_max rfl rfl rfl rfl ?_ | refine wo_min rfl rfl rfl rfl ?_ | refine wo_notU rfl rfl ?_)
                exact ⟨rfl, rfl, _, (Sub.cons rfl (Sub.cons rfl (Sub.cons rfl (Sub.cons rfl (Sub.cons rfl (Sub.cons rfl (Sub.cons rfl (Sub.cons rfl (Sub.cons rfl (Sub.cons rfl (Sub.cons rfl (Sub.cons rfl (Sub.cons rfl (Sub.cons rfl (Sub.cons rfl Sub.nil))))))))))))))), by unfold inBoth; rw [hb1, Bool.and_false, Bool.false_and]⟩
              | true =>
                repeat (first | refine w_seq ?_ | refine w_region env ?_ | refine wo_nil ?_ | (refine wo_gate ?_ ?_; rfl; refine wo_pure rfl rfl (fun _ => rfl) rfl rfl ?_) | refine wo_not rfl rfl ?_ | refine wo_max rfl rfl rfl rfl ?_ | refine wo_min rfl rfl rfl rfl ?_ | refine wo_notU rfl rfl ?_)
                refine wo_load rfl (h46.rdq st9.le 2 rfl) rfl rfl rfl rfl rfl ?_
                iterate 2 (first | refine w_seq ?_ | refine w_region env ?_ | refine wo_nil ?_ | (refine wo_gate ?_ ?_; rfl; refine wo_pure rfl rfl (fun _ => rfl) rfl rfl ?_) | refine wo_not rfl rfl ?_ | refine wo_max rfl rfl rfl rfl ?_ | refine wo_min rfl rfl rfl rfl ?_ | refine wo_notU rfl rfl ?_)
                rw [len_pos]
                cases hx0 : decide (x.sg = []) with
                | false =>
                  repeat (first | refine w_seq ?_ | refine w_region env ?_ | refine wo_nil ?_ | (refine wo_gate ?_ ?_; rfl; refine wo_pure rfl rfl (fun _ => rfl) rfl rfl ?_) | refine wo_not rfl rfl ?_ | refine wo_max rfl rfl rfl rfl ?_ | refine wo_min rfl rfl rfl rfl ?_ | refine wo_notU rfl rfl ?_)
                  exact ⟨rfl, rfl, _, (Sub.cons rfl (Sub.cons rfl (Sub.cons rfl (Sub.cons rfl (Sub.cons rfl (Sub.cons rfl (Sub.cons rfl (Sub.cons rfl (Sub.cons rfl (Sub.cons rfl (Sub.cons rfl (Sub.cons rfl (Sub.cons rfl (Sub.cons rfl (Sub.cons rfl Sub.nil))))))))))))))), by unfold inBoth; rw [hb0, hb1, hx0]; rfl⟩
                | true =>
                  repeat (first | refine w_seq ?_ | refine w_region env ?_ | refine wo_nil ?_ | (refine wo_gate ?_ ?_; rfl; refine wo_pure rfl rfl (fun _ => rfl) rfl rfl ?_) | refine wo_not rfl rfl ?_ | refine wo_max rfl rfl rfl rfl ?_ | refine wo_min rfl rfl rfl rfl ?_ | refine wo_notU rfl rfl ?_)
                  refine wo_load rfl (h47.rdq st9.le 2 rfl) rfl rfl rfl rfl rfl ?_
                  iterate 2 (first | refine w_seq ?_ | refine w_region env ?_ | refine wo_nil ?_ | (refine wo_gate ?_ ?_; rfl; refine wo_pure rfl rfl (fun _ => rfl) rfl rfl ?_) | refine wo_not rfl rfl ?_ | refine wo_max rfl rfl rfl rfl ?_ | refine wo_min rfl rfl rfl rfl ?_ | refine wo_notU rfl rfl ?_)
                  rw [len_pos]
                  repeat (first | refine w_seq ?_ | refine w_region env ?_ | refine wo_nil ?_ | (refine wo_gate ?_ ?_; rfl; refine wo_pure rfl rfl (fun _ => rfl) rfl rfl ?_) | refine wo_not rfl rfl ?_ | refine wo_max rfl rfl rfl rfl ?_ | refine wo_min rfl rfl rfl rfl ?_ | refine wo_notU rfl rfl ?_)
                  exact ⟨rfl, rfl, _, (Sub.cons rfl (Sub.cons rfl (Sub.cons rfl (Sub.cons rfl (Sub.cons rfl (Sub.cons rfl (Sub.cons rfl (Sub.cons rfl (Sub.cons rfl (Sub.cons rfl (Sub.cons rfl (Sub.cons rfl (Sub.cons rfl (Sub.cons rfl (Sub.cons rfl Sub.nil))))))))))))))), by unfold inBoth; rw [hb0, hb1, hx0]; rfl⟩
          · rintro _ mm B12 ⟨rfl, rfl, bb, hsub3, hbb⟩
            show W _ _ _ _ _ _
            refine w_sub hsub3 ?_
            refine w_cond _ rfl (fun hc => ?_) (fun hc => ?_)
            · rw [hc] at hbb
              repeat (first | refine w_seq ?_ | refine w_region env ?_ | refine wo_nil ?_ | (refine wo_gate ?_ ?_; rfl; refine wo_pure rfl rfl (fun _ => rfl) rfl rfl ?_) | refine wo_not rfl rfl ?_ | refine wo_max rfl rfl rfl rfl ?_ | refine wo_min rfl rfl rfl rfl ?_ | refine wo_notU rfl rfl ?_)
              refine wo_load rfl (rd_one (st9.obj (k := 0) rfl) rfl (q := 2) rfl) rfl rfl rfl rfl rfl ?_
              repeat (first | refine w_seq ?_ | refine w_region env ?_ | refine wo_nil ?_ | (refine wo_gate ?_ ?_; rfl; refine wo_pure rfl rfl (fun _ => rfl) rfl rfl ?_) | refine wo_not rfl rfl ?_ | refine wo_max rfl rfl rfl rfl ?_ | refine wo_min rfl rfl rfl rfl ?_ | refine wo_notU rfl rfl ?_)
              refine wo_mkF st9 (cs := [.int .i64 s]) 1 rfl rfl (fun _ => rfl) rfl rfl (fun iN V10 B13 st10 le10 f10 => ?_)
              refine wo_app1 st10 1 rfl rfl rfl f10 rfl (ints_len _).symm (ints_len _).symm rfl (by rw [ints_len]; omega) rfl rfl rfl rfl rfl rfl rfl rfl rfl rfl (fun as3 V11 B14 st11 le11 => ?_)
              repeat (first | refine w_seq ?_ | refine w_region env ?_ | refine wo_nil ?_ | (refine wo_gate ?_ ?_; rfl; refine wo_pure rfl rfl (fun _ => rfl) rfl rfl ?_) | refine wo_not rfl rfl ?_ | refine wo_max rfl rfl rfl rfl ?_ | refine wo_min rfl rfl rfl rfl ?_ | refine wo_notU rfl rfl ?_)
              refine wo_stO st11 0 rfl rfl rfl (by show 2 < 3; omega) (fun _ => rfl) rfl rfl rfl rfl rfl (fun B15 st12 => ?_)
              repeat (first | refine w_seq ?_ | refine w_region env ?_ | refine wo_nil ?_ | (refine wo_gate ?_ ?_; rfl; refine wo_pure rfl rfl (fun _ => rfl) rfl rfl ?_) | refine wo_not rfl rfl ?_ | refine wo_max rfl rfl rfl rfl ?_ | refine wo_min rfl rfl rfl rfl ?_ | refine wo_notU rfl rfl ?_)
              refine ⟨j' - 1, [(291, _), (44, _), (46, _), (47, _), (48, _), (261, _), (260, _), (43, _), (42, _), (41, _), (40, _), (13, _), (5, _)], by omega, (Sub.cons rfl (Sub.cons rfl (Sub.cons rfl (Sub.cons rfl (Sub.cons rfl (Sub.cons rfl (Sub.cons rfl (Sub.cons rfl (Sub.cons rfl (Sub.cons rfl (Sub.cons rfl (Sub.cons rfl (Sub.cons rfl Sub.nil))))))))))))), V11, as3, sl ++ [(s : Int)], ?_, le9.trans (le10.trans le11), by simp, s + 1, by omega, ?_, ?_⟩
              · rw [ints_app, List.length_append]
                rw [ints_len] at st12
                exact st12
              · rw [filter_take3 _ s hs3, ← hbb, ← hsl]; rfl
              · rw [i64_nat (by omega)]
            · rw [hc] at hbb
              refine w_skip ?_
              repeat (first | refine w_seq ?_ | refine w_region env ?_ | refine wo_nil ?_ | (refine wo_gate ?_ ?_; rfl; refine wo_pure rfl rfl (fun _ => rfl) rfl rfl ?_) | refine wo_not rfl rfl ?_ | refine wo_max rfl rfl rfl rfl ?_ | refine wo_min rfl rfl rfl rfl ?_ | refine wo_notU rfl rfl ?_)
              refine ⟨j' - 1, [(291, _), (44, _), (46, _), (47, _), (48, _), (261, _), (260, _), (43, _), (42, _), (41, _), (40, _), (13, _), (5, _)], by omega, (Sub.cons rfl (Sub.cons rfl (Sub.cons rfl (Sub.cons rfl (Sub.cons rfl (Sub.cons rfl (Sub.cons rfl (Sub.cons rfl (Sub.cons rfl (Sub.cons rfl (Sub.cons rfl (Sub.cons rfl (Sub.cons rfl Sub.nil))))))))))))), V9, asg, sl, st9, le9, hnil, s + 1, by omega, ?_, ?_⟩
              · rw [filter_take3 _ s hs3, ← hbb, ← hsl]; simp
              · rw [i64_nat (by omega)]
    · have hs3 : s = 3 := by
        have : ¬ (s : Int) < 3 := by simpa using hge
        omega
      subst hs3
      replace hsl : sl = [(0 : Int), 1, 2].filter (inBoth x y) := hsl
      refine w_exit ?_
      refine w_seq (w_seq ?_)
      -- nothing in common?
      refine w_mono (Q := Mid fun m' B => B = B9 ∧ ∃ bb : Bool, Sub [(368, .bool bb), (44, .bool (ok && decide (max x.mn y.mn ≤ min x.mx y.mx))), (46, .pointer (some ⟨B1.length, 0, some 0⟩)), (47, .pointer (some ⟨B1.length + 1, 0, some 0⟩)), (48, .pointer (some ⟨i48, 0, some 0⟩)), (261, .int .i64 i), (260, .int .i64 n), (43, .slice ac rc.length rc.length), (42, .slice ab n cb), (41, .slice aa n ca), (40, .int .i64 n), (13, v13), (5, v5)] m' ∧ (bb = true ↔ x.sg ≠ [] ∧ y.sg ≠ [] ∧ sl = [])) ?_ ?_
      · refine w_region env ?_
        repeat (first | refine w_seq ?_ | refine w_region env ?_ | refine wo_nil ?_ | (refine wo_gate ?_ ?_; rfl; refine wo_pure rfl rfl (fun _ => rfl) rfl rfl ?_) | refine wo_not rfl rfl ?_ | refine wo_max rfl rfl rfl rfl ?_ | refine wo_min rfl rfl rfl rfl ?_ | refine wo_notU rfl rfl ?_)
        refine wo_load rfl (h46.rdq st9.le 2 rfl) rfl rfl rfl rfl rfl ?_
        iterate 2 (first | refine w_seq ?_ | refine w_region env ?_ | refine wo_nil ?_ | (refine wo_gate ?_ ?_; rfl; refine wo_pure rfl rfl (fun _ => rfl) rfl rfl ?_) | refine wo_not rfl rfl ?_ | refine wo_max rfl rfl rfl rfl ?_ | refine wo_min rfl rfl rfl rfl ?_ | refine wo_notU rfl rfl ?_)
        rw [len_pos]
        cases hx0 : decide (x.sg = []) with
        | true =>
          have hx0' : x.sg = [] := by simpa using hx0
          repeat (first | refine w_seq ?_ | refine w_region env ?_ | refine wo_nil ?_ | (refine wo_gate ?_ ?_; rfl; refine wo_pure rfl rfl (fun _ => rfl) rfl rfl ?_) | refine wo_not rfl rfl ?_ | refine wo_max rfl rfl rfl rfl ?_ | refine wo_min rfl rfl rfl rfl ?_ | refine wo_notU rfl rfl ?_)
          exact ⟨rfl, rfl, _, (Sub.cons rfl (Sub.cons rfl (Sub.cons rfl (Sub.cons rfl (Sub.cons rfl (Sub.cons rfl (Sub.cons rfl (Sub.cons rfl (Sub.cons rfl (Sub.cons rfl (Sub.cons rfl (Sub.cons rfl (Sub.cons rfl Sub.nil))))))))))))), by simp [hx0']⟩
        | false =>
          have hx0' : x.sg ≠ [] := by simpa using hx0
          repeat (first | refine w_seq ?_ | refine w_region env ?_ | refine wo_nil ?_ | (refine wo_gate ?_ ?_; rfl; refine wo_pure rfl rfl (fun _ => rfl) rfl rfl ?_) | refine wo_not rfl rfl ?_ | refine wo_max rfl rfl rfl rfl ?_ | refine wo_min rfl rfl rfl rfl ?_ | refine wo_notU rfl rfl ?_)
          refine wo_load rfl (h47.rdq st9.le 2 rfl) rfl rfl rfl rfl rfl ?_
          iterate 2 (first | refine w_seq ?_ | refine w_region env ?_ | refine wo_nil ?_ | (refine wo_gate ?_ ?_; rfl; refine wo_pure rfl rfl (fun _ => rfl) rfl rfl ?_) | refine wo_not rfl rfl ?_ | refine wo_max rfl rfl rfl rfl ?_ | refine wo_min rfl rfl rfl rfl ?_ | refine wo_notU rfl rfl ?_)
          rw [len_pos]
          cases hy0 : decide (y.sg = []) with
          | true =>
            have hy0' : y.sg = [] := by simpa using hy0
            repeat (first | refine w_seq ?_ | refine w_region env ?_ | refine wo_nil ?_ | (refine wo_gate ?_ ?_; rfl; refine wo_pure rfl rfl (fun _ => rfl) rfl rfl ?_) | refine wo_not rfl rfl ?_ | refine wo_max rfl rfl rfl rfl ?_ | refine wo_min rfl rfl rfl rfl ?_ | refine wo_notU rfl rfl ?_)
            exact ⟨rfl, rfl, _, (Sub.cons rfl (Sub.cons rfl (Sub.cons rfl (Sub.cons rfl (Sub.cons rfl (Sub.cons rfl (Sub.cons rfl (Sub.cons rfl (Sub.cons rfl (Sub.cons rfl (Sub.cons rfl (Sub.cons rfl (Sub.cons rfl Sub.nil))))))))))))), by simp [hy0']⟩
          | false =>
            have hy0' : y.sg ≠ [] := by simpa using hy0
            repeat (first | refine w_seq ?_ | refine w_region env ?_ | refine wo_nil ?_ | (refine wo_gate ?_ ?_; rfl; refine wo_pure rfl rfl (fun _ => rfl) rfl rfl ?_) | refine wo_not rfl rfl ?_ | refine wo_max rfl rfl rfl rfl ?_ | refine wo_min rfl rfl rfl rfl ?_ | refine wo_notU rfl rfl ?_)
            refine wo_load rfl (rd_one (st9.obj (k := 0) rfl) rfl (q := 2) rfl) rfl rfl rfl rfl rfl ?_
            iterate 2 (first | refine w_seq ?_ | refine w_region env ?_ | refine wo_nil ?_ | (refine wo_gate ?_ ?_; rfl; refine wo_pure rfl rfl (fun _ => rfl) rfl rfl ?_) | refine wo_not rfl rfl ?_ | refine wo_max rfl rfl rfl rfl ?_ | refine wo_min rfl rfl rfl rfl ?_ | refine wo_notU rfl rfl ?_)
            rw [len_zero]
            repeat (first | refine w_seq ?_ | refine w_region env ?_ | refine wo_nil ?_ | (refine wo_gate ?_ ?_; rfl; refine wo_pure rfl rfl (fun _ => rfl) rfl rfl ?_) | refine wo_not rfl rfl ?_ | refine wo_max rfl rfl rfl rfl ?_ | refine wo_min rfl rfl rfl rfl ?_ | refine wo_notU rfl rfl ?_)
            exact ⟨rfl, rfl, _, (Sub.cons rfl (Sub.cons rfl (Sub.cons rfl (Sub.cons rfl (Sub.cons rfl (Sub.cons rfl (Sub.cons rfl (Sub.cons rfl (Sub.cons rfl (Sub.cons rfl (Sub.cons rfl (Sub.cons rfl (Sub.cons rfl Sub.nil))))))))))))), by simp [hx0', hy0']⟩
      · rintro _ mm B12 ⟨rfl, rfl, bb, hsub3, hbb⟩
        show W _ _ _ _ _ _
        refine w_sub hsub3 ?_
        refine w_mono (Q := Mid fun m' B => ∃ V row, Sta V0 V B [.obj i48 ⟨row, false, false, 1, 0⟩, .acc ac 3 rc] ∧ Le V9 V ∧ CellR V row (bothS x y).1 ∧ Sub [(44, .bool (ok && (bothS x y).2)), (46, .pointer (some ⟨B1.length, 0, some 0⟩)), (47, .pointer (some ⟨B1.length + 1, 0, some 0⟩)), (48, .pointer (some ⟨i48, 0, some 0⟩)), (261, .int .i64 i), (260, .int .i64 n), (43, .slice ac rc.length rc.length), (42, .slice ab n cb), (41, .slice aa n ca), (40, .int .i64 n), (13, v13), (5, v5)] m') ?_ ?_
        · refine w_cond _ rfl (fun hc => ?_) (fun hc => ?_)
          · obtain ⟨g1, g2, g3⟩ := hbb.1 hc
            have e : bothS x y = (⟨0, 0, x.sg⟩, decide (max x.mn y.mn ≤ min x.mx y.mx) && decide (max x.mn y.mn = 0)) := by
              unfold bothS
              simp only
              rw [if_pos ⟨g1, g2, hsl.symm.trans g3⟩]
            refine w_seq ?_
            refine w_mono (Q := Mid fun m' B => B = B12 ∧ Sub [(44, .bool (ok && (bothS x y).2)), (46, .pointer (some ⟨B1.length, 0, some 0⟩)), (47, .pointer (some ⟨B1.length + 1, 0, some 0⟩)), (48, .pointer (some ⟨i48, 0, some 0⟩)), (261, .int .i64 i), (260, .int .i64 n), (43, .slice ac rc.length rc.length), (42, .slice ab n cb), (41, .slice aa n ca), (40, .int .i64 n), (13, v13), (5, v5)] m') ?_ ?_
            · refine w_region env ?_
              cases hok2 : (ok && decide (max x.mn y.mn ≤ min x.mx y.mx)) with
              | false =>
                repeat (first | refine w_seq ?_ | refine w_region env ?_ | refine wo_nil ?_ | (refine wo_gate ?_ ?_; rfl; refine wo_pure rfl rfl (fun _ => rfl) rfl rfl ?_) | refine wo_not rfl rfl ?_ | refine wo_max rfl rfl rfl rfl ?_ | refine wo_min rfl rfl rfl rfl ?_ | refine wo_notU rfl rfl ?_)
                refine ⟨rfl, rfl, Sub.cons ?_ (Sub.cons rfl (Sub.cons rfl (Sub.cons rfl (Sub.cons rfl (Sub.cons rfl (Sub.cons rfl (Sub.cons rfl (Sub.cons rfl (Sub.cons rfl (Sub.cons rfl (Sub.cons rfl Sub.nil)))))))))))⟩
                refine some_bool ?_
                rw [e, ← Bool.and_assoc, hok2, Bool.false_and]
              | true =>
                repeat (first | refine w_seq ?_ | refine w_region env ?_ | refine wo_nil ?_ | (refine wo_gate ?_ ?_; rfl; refine wo_pure rfl rfl (fun _ => rfl) rfl rfl ?_) | refine wo_not rfl rfl ?_ | refine wo_max rfl rfl rfl rfl ?_ | refine wo_min rfl rfl rfl rfl ?_ | refine wo_notU rfl rfl ?_)
                refine wo_load rfl (rd_one (st9.obj (k := 0) rfl) rfl (q := 0) rfl) rfl rfl rfl rfl rfl ?_
                repeat (first | refine w_seq ?_ | refine w_region env ?_ | refine wo_nil ?_ | (refine wo_gate ?_ ?_; rfl; refine wo_pure rfl rfl (fun _ => rfl) rfl rfl ?_) | refine wo_not rfl rfl ?_ | refine wo_max rfl rfl rfl rfl ?_ | refine wo_min rfl rfl rfl rfl ?_ | refine wo_notU rfl rfl ?_)
                refine ⟨rfl, rfl, Sub.cons ?_ (Sub.cons rfl (Sub.cons rfl (Sub.cons rfl (Sub.cons rfl (Sub.cons rfl (Sub.cons rfl (Sub.cons rfl (Sub.cons rfl (Sub.cons rfl (Sub.cons rfl (Sub.cons rfl Sub.nil)))))))))))⟩
                refine some_bool ?_
                rw [e, ← Bool.and_assoc, hok2, Bool.true_and]
                by_cases h0 : max x.mn y.mn = 0
                · rw [h0]; rfl
                · rw [decide_eq_false h0, beq_eq_false_iff_ne]; exact h0
            · rintro _ m3 B13 ⟨rfl, rfl, hsub4⟩
              show W _ _ _ _ _ _
              refine w_sub hsub4 ?_
              refine w_region env ?_
              repeat (first | refine w_seq ?_ | refine w_region env ?_ | refine wo_nil ?_ | (refine wo_gate ?_ ?_; rfl; refine wo_pure rfl rfl (fun _ => rfl) rfl rfl ?_) | refine wo_not rfl rfl ?_ | refine wo_max rfl rfl rfl rfl ?_ | refine wo_min rfl rfl rfl rfl ?_ | refine wo_notU rfl rfl ?_)
              refine wo_load rfl (h46.rdq st9.le 2 rfl) rfl rfl rfl rfl rfl ?_
              repeat (first | refine w_seq ?_ | refine w_region env ?_ | refine wo_nil ?_ | (refine wo_gate ?_ ?_; rfl; refine wo_pure rfl rfl (fun _ => rfl) rfl rfl ?_) | refine wo_not rfl rfl ?_ | refine wo_max rfl rfl rfl rfl ?_ | refine wo_min rfl rfl rfl rfl ?_ | refine wo_notU rfl rfl ?_)
              refine wo_stW st9 0 rfl rfl rfl rfl (fun _ => rfl) rfl rfl rfl rfl (fun B14 st10 => ?_)
              repeat (first | refine w_seq ?_ | refine w_region env ?_ | refine wo_nil ?_ | (refine wo_gate ?_ ?_; rfl; refine wo_pure rfl rfl (fun _ => rfl) rfl rfl ?_) | refine wo_not rfl rfl ?_ | refine wo_max rfl rfl rfl rfl ?_ | refine wo_min rfl rfl rfl rfl ?_ | refine wo_notU rfl rfl ?_)
              refine ⟨rfl, V9, [.int .i64 0, .int .i64 0, .slice ax x.sg.length cx], st10.drop1 1, .refl _, ?_, (Sub.cons rfl (Sub.cons rfl (Sub.cons rfl (Sub.cons rfl (Sub.cons rfl (Sub.cons rfl (Sub.cons rfl (Sub.cons rfl (Sub.cons rfl (Sub.cons rfl (Sub.cons rfl (Sub.cons rfl Sub.nil))))))))))))⟩
              rw [e]
              exact ⟨ax, cx, rfl, hslx, hnx⟩
          · have hne : ¬ (x.sg ≠ [] ∧ y.sg ≠ [] ∧ sl = []) := fun h => by rw [hbb.2 h] at hc; cases hc
            have e : bothS x y = (⟨max x.mn y.mn, min x.mx y.mx, sl⟩, decide (max x.mn y.mn ≤ min x.mx y.mx)) := by
              unfold bothS
              simp only
              rw [if_neg (fun h => hne ⟨h.1, h.2.1, by rw [hsl]; exact h.2.2⟩), hsl]
              rfl
            obtain ⟨V10, st10, le10, hsl10, _⟩ := st9.frzAcc (k := 1) rfl
            refine w_skip ⟨rfl, V10, [.int .i64 (max x.mn y.mn), .int .i64 (min x.mx y.mx), .slice asg sl.length sl.length], st10, le10, ?_, ?_⟩
            · rw [e]
              exact ⟨asg, sl.length, rfl, hsl10, hnil⟩
            · rw [e]; exact (Sub.cons rfl (Sub.cons rfl (Sub.cons rfl (Sub.cons rfl (Sub.cons rfl (Sub.cons rfl (Sub.cons rfl (Sub.cons rfl (Sub.cons rfl (Sub.cons rfl (Sub.cons rfl (Sub.cons rfl Sub.nil))))))))))))
        · rintro _ m3 B13 ⟨rfl, V10, row, st10, le10, hrow, hsub4⟩
          show W _ _ _ _ _ _
          refine w_sub hsub4 ?_
          obtain ⟨ar, cr, rfl, hslr, hnr⟩ := hrow
          refine w_region env ?_
          repeat (first | refine w_seq ?_ | refine w_region env ?_ | refine wo_nil ?_ | (refine wo_gate ?_ ?_; rfl; refine wo_pure rfl rfl (fun _ => rfl) rfl rfl ?_) | refine wo_not rfl rfl ?_ | refine wo_max rfl rfl rfl rfl ?_ | refine wo_min rfl rfl rfl rfl ?_ | refine wo_notU rfl rfl ?_)
          refine wo_loads rfl (rd_ver (st10.obj (k := 0) rfl) rfl _ 3 (Nat.le_of_ble_eq_true rfl)) rfl rfl rfl rfl rfl rfl ?_
          refine wo_mkF st10 (cs := cellV (bothS x y).1 ar cr) 3 rfl rfl (fun _ => rfl) rfl rfl (fun iN V11 B14 st11 le11 f11 => ?_)
          refine wo_app1 st11 1 rfl rfl rfl f11 rfl rfl rfl rfl (by omega) rfl rfl rfl rfl rfl rfl rfl rfl rfl rfl (fun ac3 V12 B15 st12 le12 => ?_)
          obtain ⟨V13, st13, le13, _⟩ := st12.frzO 0 rfl
          replace st13 : Sta V0 V13 B15 [.acc ac3 3 (rc ++ [cellV (bothS x y).1 ar cr])] := st13
          repeat (first | refine w_seq ?_ | refine w_region env ?_ | refine wo_nil ?_ | (refine wo_gate ?_ ?_; rfl; refine wo_pure rfl rfl (fun _ => rfl) rfl rfl ?_) | refine wo_not rfl rfl ?_ | refine wo_max rfl rfl rfl rfl ?_ | refine wo_min rfl rfl rfl rfl ?_ | refine wo_notU rfl rfl ?_)
          have leb : Le V9 V13 := le10.trans (le11.trans (le12.trans le13))
          have hzi : (List.zip pa pb)[i]? = some (x, y) := by
            rw [List.getElem?_zip_eq_some]
            exact ⟨by rw [hxe]; simp, by rw [hye]; simp⟩
          have hwi : (List.zipWith (fun a b => (bothS a b).1) pa pb)[i]? = some (bothS x y).1 := by
            rw [← List.map_uncurry_zip_eq_zipWith, List.getElem?_map, hzi]; rfl
          refine ⟨j - 1, [(44, _), (261, _), (260, _), (43, _), (42, _), (41, _), (40, _), (13, _), (5, _)], by omega, (Sub.cons rfl (Sub.cons rfl (Sub.cons rfl (Sub.cons rfl (Sub.cons rfl (Sub.cons rfl (Sub.cons rfl (Sub.cons rfl (Sub.cons rfl Sub.nil))))))))), V13, ac3, _, st13, le1.trans (lea.trans (le7.trans (le9.trans leb))), i + 1, by omega, ?_, ?_⟩
          · rw [List.take_add_one, hwi]
            exact (hrc.le leb).snoc ⟨ar, cr, rfl, hslr.le (le11.trans (le12.trans le13)), hnr⟩
          · rw [List.take_add_one, hzi, List.all_append, ← hok, i64_nat (by omega), List.length_append]
            simp only [Option.toList_some, List.all_cons, List.all_nil, Bool.and_true]
            rfl
  · have hin : i = n := by
      have : ¬ (i : Int) < (n : Int) := by simpa using hge
      omega
    subst hin
    refine w_exit ?_
    have hwel := st1.welAcc (k := 0) rfl
    obtain ⟨V5, st5, le5, hsl5, hwel5⟩ := st1.frzAcc (k := 0) rfl
    rw [List.take_of_length_le (by simp; omega)] at hrc
    rw [List.take_of_length_le (by simp; omega)]
    exact k _ _ V5 ac rc st5 (le1.trans le5) hsl5 hwel5 (hrc.le le5) (Sub.cons rfl (Sub.cons rfl (Sub.cons rfl (Sub.cons rfl (Sub.cons rfl (Sub.cons rfl (Sub.cons rfl Sub.nil)))))))
end Go.Proofs.YtdjcbpicdnhciaaGreat
