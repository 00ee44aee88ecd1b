/- The law about marks on a wall: its pieces behind the two walls. -/
import Derived.Test.YtdjcbpicdnhciaaGreatMx
set_option linter.unusedVariables false
set_option linter.unusedSimpArgs false
open Go Go.Dx Go.Proofs
namespace Go.Proofs.YtdjcbpicdnhciaaGreat
set_option maxRecDepth 20000
-- NEWU

/-- How the law ends. -/
def lawQ (V0 : Hp) (e : Exit) (m : TF) (B : Hp) : Prop := (e = .normal ∨ e = .ret) ∧ Gr V0 B ∧ ∃ vs, ressM Tryz.prog m B Tryz.f5.results.toList = some vs ∧ oneOf vs = .bool true

theorem wo_min3 {P : Program} {E : List TypeId} {n : Nat} {m : TF} {A : Hp} {K : TF → Hp → Prop} {ops : List Oper} {c k : Nat} {rest : List Oper} {d : Nat} {ty : TypeId} {ps : String} {af : Array Edge} {g : Option (Nat × Bool)}
    {x y z : Operand} {ts : Array TypeId} {kk : IntKind} {p q r : Int} (hx : evM m x = some (.int kk p)) (hy : evM m y = some (.int kk q)) (hz : evM m z = some (.int kk r)) (hw : wantM ops m ⟨some d, .call { callee := .builtin .min, args := #[x, y, z], argTypes := ts }, ty, ps, af, g⟩ = some true) (hd : Nat.blt d n = true)
    (hn : Wo E P n ops c rest (k + 1) ((d, .int kk (min (min p q) r)) :: m) A K) : Wo E P n ops c (⟨some d, .call { callee := .builtin .min, args := #[x, y, z], argTypes := ts }, ty, ps, af, g⟩ :: rest) k m A K := by
  refine wo_pure (v := .int kk (min (min p q) r)) ?_ hw (fun _ => rfl) rfl hd hn
  simp only [dOp, evs, hx, hy, hz, Option.bind_some, Option.map_some, dBuiltin, dMinMax, if_true, min_go]

/-- An append to an empty slice that was just made: a copy. -/
theorem wo_appE {P : Program} {E : List TypeId} {n : Nat} {m : TF} {base V B : Hp} {os : List Own1} {K : TF → Hp → Prop} {ops : List Oper} {c k : Nat} {rest : List Oper} {d : Nat} {ty : TypeId} {ps : String} {af : Array Edge} {g : Option (Nat × Bool)}
    (hst : Sta base V B os) {t u e : TypeId} {s x : Operand} {ie : TypeInfo} {z : Value} {xa : Option Addr} {i xl xc sz : Nat} {xrows : List (List Value)}
    (hs : evM m s = some (.slice (some ⟨i, 0, some 0⟩) 0 0)) (hx : evM m x = some (.slice xa xl xc)) (hb : V[i]? = some (.cells ⟨[], true, false, sz, 0⟩)) (hX : Sl V xa sz xrows) (hxl : xl = xrows.length) (hcl : xrows.flatten.all isCell = true) (hb2 : xrows.length ≤ 100000)
    (hw : wantM ops m ⟨some d, .call { callee := .builtin .append, args := #[s, x], argTypes := #[t, u] }, ty, ps, af, g⟩ = some true) (hd : Nat.blt d n = true)
    (ht : P.underlying t = some (.slice e)) (hu : P.underlying u = some (.slice e)) (hi : P.info? e = some ie) (hz : ie.zero = some z) (hzl : z.cells.toList.length = ie.size) (hsz : ie.size = sz) (hby : Nat.ble ie.bytes 1000 = true)
    (hn : ∀ a' cap V' B', Sta base V' B' os → Le V V' → Sl V' a' sz xrows → Wo E P n ops c rest (k + 1) ((d, .slice a' xl cap) :: m) B' K) :
    Wo E P n ops c (⟨some d, .call { callee := .builtin .append, args := #[s, x], argTypes := #[t, u] }, ty, ps, af, g⟩ :: rest) k m B K := by
  have hby' := Nat.le_of_ble_eq_true hby
  obtain ⟨b', k2, k3, k4, k5, k6⟩ := hst.le i _ hb
  obtain ⟨bcs, bro, bopn, bes, bver⟩ := b'
  simp only at k3 k4 k5 k6
  subst k3; subst k4; subst k5; subst k6
  by_cases h0 : xrows.length = 0
  · have hr : xrows = [] := List.eq_nil_of_length_eq_zero h0
    subst hr
    simp only [List.length_nil] at hxl
    subst hxl
    refine wo_pure (v := .slice (some ⟨i, 0, some 0⟩) 0 0) ?_ hw (fun _ => rfl) rfl hd (hn _ 0 V B hst (.refl _) (.inl rfl))
    have hrd : rdFirst B ie.size 0 (.slice xa 0 xc) = some [] := by cases xa <;> rfl
    simp only [dOp, evs, hs, hx, Option.bind_some, Option.map_some, dBuiltin, ht, hu, hi, hz, if_true, hzl, hrd, dAppend]
    rfl
  · refine wo_append_new (rows := []) hs hx k2 rfl rfl (by simp) (by simp) rfl (by simp) (by simp) (hX.le hst.le) hxl hcl (by omega) ?_ (by simp; omega) hw hd ht hu hi hz hzl hsz (fun i' B' s' _ => ?_)
    · simp only [List.length_nil, Nat.zero_add]
      exact Nat.le_trans (Nat.mul_le_mul hb2 hby') (by omega)
    · simp only [List.nil_append] at s' ⊢
      obtain ⟨V', h1, h2, h3⟩ := hst.nf s'
      subst hxl
      exact hn _ _ V' B' h1 h2 (sl_of_at h3 rfl hX.lens rfl)

theorem e5_9_13 {V0 V B : Hp} {m : TF} {hs os : List HoleS} {ah ao : Option Addr} {ch co : Nat} {v13 v5 : Value} {rest : Code} {Q : Exit → TF → Hp → Prop} (st : Sta V0 V B []) (hh : Sl V ah 3 (hs.map holeRow)) (hwh : Wel V ah 3) (hch : hs.length ≤ ch) (hho : ∀ h ∈ hs, h.Ok)
    (ho : Sl V ao 3 (os.map holeRow)) (hwo : Wel V ao 3) (hco : os.length ≤ co) (hoo : ∀ h ∈ os, h.Ok) (hsub : Sub [(13, v13), (3, .slice ah hs.length ch), (4, .slice ao os.length co), (5, v5)] m)
    (k : ∀ m' B' V' aa ab ra rb n, n = min (min hs.length os.length) 3 → Sta V0 V' B' [] → Le V V' → Sl V' aa 3 ra → Wel V' aa 3 → CellsR V' ra ((hs.take n).map holeCell) → Sl V' ab 3 rb → Wel V' ab 3 → CellsR V' rb ((os.take n).map holeCell) →
      Sub [(44, .bool true), (43, .slice none 0 0), (42, .slice ab n n), (41, .slice aa n n), (40, .int .i64 n), (13, v13), (5, v5)] m' → W Tryz.prog 549 rest m' B' Q) :
    W Tryz.prog 549 (.seq (e5 9) (.seq (e5 10) (.seq (e5 11) (.seq (e5 12) (.seq (e5 13) rest))))) m B Q := by
  refine w_sub hsub ?_
  obtain ⟨n, hn⟩ : ∃ n, n = min (min hs.length os.length) 3 := ⟨_, rfl⟩
  have hmin : min (min (hs.length : Int) os.length) 3 = (n : Int) := by omega
  repeat (first | refine w_seq ?_ | refine w_region env ?_ | refine wo_nil ?_ | (refine wo_gate ?_ ?_; rfl; refine wo_pure rfl rfl (fun _ => rfl) rfl rfl ?_) | refine wo_not rfl rfl ?_ | refine wo_max rfl rfl rfl rfl ?_ | refine wo_min rfl rfl rfl rfl ?_ | refine wo_notU rfl rfl ?_)
  refine wo_min3 rfl rfl rfl rfl rfl ?_
  rw [hmin]
  repeat (first | refine w_seq ?_ | refine w_region env ?_ | refine wo_nil ?_ | (refine wo_gate ?_ ?_; rfl; refine wo_pure rfl rfl (fun _ => rfl) rfl rfl ?_) | refine wo_not rfl rfl ?_ | refine wo_max rfl rfl rfl rfl ?_ | refine wo_min rfl rfl rfl rfl ?_ | refine wo_notU rfl rfl ?_)
  refine wo_callX st (cellsL_fun hh hch hwh hho (n := n) (by omega) (by omega)) rfl rfl rfl ?_
  rintro v r hr ⟨aa, ra, rfl, haa, hwa, hra⟩
  obtain ⟨V1, st1, le1, le2⟩ := st.callE hr
  replace haa := haa.le le2
  replace hwa := hwa.le' le2
  replace hra := hra.le le2
  replace ho := ho.le le1
  replace hwo := hwo.le' le1
  repeat (first | refine w_seq ?_ | refine w_region env ?_ | refine wo_nil ?_ | (refine wo_gate ?_ ?_; rfl; refine wo_pure rfl rfl (fun _ => rfl) rfl rfl ?_) | refine wo_not rfl rfl ?_ | refine wo_max rfl rfl rfl rfl ?_ | refine wo_min rfl rfl rfl rfl ?_ | refine wo_notU rfl rfl ?_)
  refine wo_callX st1 (cellsL_fun ho hco hwo hoo (n := n) (by omega) (by omega)) rfl rfl rfl ?_
  rintro v r2 hr2 ⟨ab, rb, rfl, hab, hwb, hrb⟩
  obtain ⟨V2, st2, le3, le4⟩ := st1.callE hr2
  have lra : ra.length = n := by have := hra.1; simp at this; omega
  have lrb : rb.length = n := by have := hrb.1; simp at this; omega
  repeat (first | refine w_seq ?_ | refine w_region env ?_ | refine wo_nil ?_ | (refine wo_gate ?_ ?_; rfl; refine wo_pure rfl rfl (fun _ => rfl) rfl rfl ?_) | refine wo_not rfl rfl ?_ | refine wo_max rfl rfl rfl rfl ?_ | refine wo_min rfl rfl rfl rfl ?_ | refine wo_notU rfl rfl ?_)
  refine k _ _ V2 aa ab ra rb n hn st2 (le1.trans le3) (haa.le le3) (hwa.le' le3) (hra.le le3) (hab.le le4) (hwb.le' le4) (hrb.le le4) ?_
  rw [lra, lrb]
  exact (Sub.cons rfl (Sub.cons rfl (Sub.cons rfl (Sub.cons rfl (Sub.cons rfl (Sub.cons rfl (Sub.cons rfl Sub.nil)))))))

theorem holeCell_ok {h : HoleS} (ho : h.Ok) : CellOK' 3 (holeCell h) ∧ (holeCell h).sg ∈ subs3 ∧ 0 ≤ (holeCell h).mn ∧ (holeCell h).mn ≤ (holeCell h).mx ∧ (holeCell h).mx ≤ 4 := by
  obtain ⟨a, b, c⟩ := ho
  have hs := signsOf_in h.sg
  refine ⟨⟨?_, ?_, ?_, subs3_rise _ hs, ?_⟩, hs, ?_, ?_, ?_⟩
  all_goals simp only [holeCell]
  · omega
  · omega
  · omega
  · have := subs3_len _ hs; omega
  · omega
  · omega
  · omega

theorem bothS_ok {a b : CellS} (ha : a.sg ∈ subs3 ∧ 0 ≤ a.mn ∧ a.mn ≤ a.mx ∧ a.mx ≤ 4) (hb : b.sg ∈ subs3 ∧ 0 ≤ b.mn ∧ b.mn ≤ b.mx ∧ b.mx ≤ 4) (h : (bothS a b).2 = true) : CellOK' 3 (bothS a b).1 := by
  unfold bothS at h ⊢
  simp only at h ⊢
  split at h
  · rename_i h0
    rw [if_pos h0]
    exact ⟨by show (0 : Int) ≤ 0; omega, by show (0 : Int) ≤ 0; omega, by show (0 : Int) ≤ 9; omega, subs3_rise _ ha.1, by have := subs3_len _ ha.1; show a.sg.length ≤ 1000; omega⟩
  · rename_i h0
    rw [if_neg h0]
    simp only [decide_eq_true_eq] at h
    have hf := filter3 (fun s => (decide (a.sg = []) || decide (s ∈ a.sg)) && (decide (b.sg = []) || decide (s ∈ b.sg)) && (!decide (a.sg = []) || !decide (b.sg = [])))
    exact ⟨by show 0 ≤ max a.mn b.mn; omega, h, by show min a.mx b.mx ≤ 9; omega, subs3_rise _ hf, Nat.le_trans (subs3_len _ hf) (by omega)⟩

/-- The state of the law behind the two walls. -/
structure Two (pa pb : List CellS) (n : Nat) : Prop where
  la : pa.length = n
  lb : pb.length = n
  n3 : n ≤ 3
  a : ∀ c ∈ pa, CellOK' 3 c ∧ c.sg ∈ subs3 ∧ 0 ≤ c.mn ∧ c.mn ≤ c.mx ∧ c.mx ≤ 4
  b : ∀ c ∈ pb, CellOK' 3 c ∧ c.sg ∈ subs3 ∧ 0 ≤ c.mn ∧ c.mn ≤ c.mx ∧ c.mx ≤ 4

def bothL (pa pb : List CellS) : List CellS := List.zipWith (fun a b => (bothS a b).1) pa pb
def fitsL (pa pb : List CellS) : Bool := (List.zip pa pb).all fun p => (bothS p.1 p.2).2

theorem Two.fit {pa pb : List CellS} {n : Nat} (h : Two pa pb n) (hF : fitsL pa pb = true) (i : Nat) (h1 : i < pa.length) (h2 : i < pb.length) : (bothS pa[i] pb[i]).2 = true :=
  List.all_eq_true.1 hF (pa[i], pb[i]) (List.mem_iff_getElem?.2 ⟨i, by rw [List.getElem?_zip_eq_some]; exact ⟨by simp, by simp⟩⟩)

theorem Two.len {pa pb : List CellS} {n : Nat} (h : Two pa pb n) : (bothL pa pb).length = n := by
  simp [bothL, h.la, h.lb]

theorem Two.ok {pa pb : List CellS} {n : Nat} (h : Two pa pb n) (hF : fitsL pa pb = true) : ∀ c ∈ bothL pa pb, CellOK' 3 c := by
  intro c hc
  obtain ⟨i, hi, rfl⟩ := List.mem_iff_getElem.1 hc
  have hl := h.len
  have h1 : i < pa.length := by have := h.la; omega
  have h2 : i < pb.length := by have := h.lb; omega
  have : (bothL pa pb)[i] = (bothS pa[i] pb[i]).1 := by simp [bothL]
  rw [this]
  exact bothS_ok (h.a _ (List.getElem_mem h1)).2 (h.b _ (List.getElem_mem h2)).2 (h.fit hF i h1 h2)

theorem Two.meets {pa pb : List CellS} {n : Nat} (h : Two pa pb n) (hF : fitsL pa pb = true) : meets pa pb = bothL pa pb := by
  apply List.ext_getElem (by simp [Go.Proofs.YtdjcbpicdnhciaaGreat.meets, bothL])
  intro i h1 h2
  have hl := h.len
  have g1 : i < pa.length := by have := h.la; omega
  have g2 : i < pb.length := by have := h.lb; omega
  simp only [Go.Proofs.YtdjcbpicdnhciaaGreat.meets, bothL, List.getElem_zipWith]
  exact ((both_meet (h.a _ (List.getElem_mem g1)).2.1 (h.b _ (List.getElem_mem g2)).2.1).2 (h.fit hF i g1 g2)).symm

/-- The walls together, by the program. -/
theorem e5_15_17 {V0 V B : Hp} {m : TF} {pa pb : List CellS} {aa ab ac : Option Addr} {ra rb rc : List (List Value)} {n iS i13 ca cb : Nat} {v5 : Value} {rest : Code} (h2 : Two pa pb n) (st : Sta V0 V B []) (hs : HasSigns V iS) (h13 : At V i13 [.int .i64 1, .slice (some ⟨iS, 0, some 0⟩) 3 3])
    (haa : Sl V aa 3 ra) (hra : CellsR V ra pa) (hab : Sl V ab 3 rb) (hrb : CellsR V rb pb) (hac : Sl V ac 3 rc) (hrc : CellsR V rc (bothL pa pb))
    (hsub : Sub [(44, .bool (fitsL pa pb)), (43, .slice ac rc.length rc.length), (42, .slice ab rb.length cb), (41, .slice aa ra.length ca), (40, .int .i64 n), (13, .pointer (some ⟨i13, 0, some 0⟩)), (5, v5)] m)
    (k : ∀ m' B' V' am rm, fitsL pa pb = true → Sta V0 V' B' [] → Le V V' → Sl V' am 3 rm → CellsR V' rm (bothL pa pb) →
      Sub [(56, .slice am rm.length rm.length), (43, .slice ac rc.length rc.length), (42, .slice ab rb.length cb), (41, .slice aa ra.length ca), (40, .int .i64 n), (13, .pointer (some ⟨i13, 0, some 0⟩)), (5, v5)] m' → W Tryz.prog 549 rest m' B' (lawQ V0)) :
    W Tryz.prog 549 (.seq (e5 15) (.seq (e5 16) (.seq (e5 17) rest))) m B (lawQ V0) := by
  refine w_sub hsub ?_
  have hla := h2.la
  have hlb := h2.lb
  have hn3 := h2.n3
  repeat (first | refine w_seq ?_ | refine w_region env ?_ | refine wo_nil ?_ | (refine wo_gate ?_ ?_; rfl; refine wo_pure rfl rfl (fun _ => rfl) rfl rfl ?_) | refine wo_not rfl rfl ?_ | refine wo_max rfl rfl rfl rfl ?_ | refine wo_min rfl rfl rfl rfl ?_ | refine wo_notU rfl rfl ?_ | refine wo_loads rfl (h13.rds st.le 2 rfl) rfl rfl rfl rfl rfl rfl ?_)
  refine wo_callX st (Meet_fun hs haa hra hab hrb (fun c hc => (h2.a c hc).1) (fun c hc => (h2.b c hc).1) (by omega) (by omega)) rfl rfl rfl ?_
  intro v r hr hv
  obtain ⟨V1, st1, le1, le2⟩ := st.callE hr
  have hno : ∀ (q : Nat) (g1 : q < pa.length) (g2 : q < pb.length), (bothS pa[q] pb[q]).2 = (meetS pa[q] pb[q]).2 := fun q g1 g2 => (both_meet (h2.a _ (List.getElem_mem g1)).2.1 (h2.b _ (List.getElem_mem g2)).2.1).1
  cases hF : fitsL pa pb with
  | false =>
    have hv' : v = .tuple #[.slice none 0 0, .int .i64 71] := by
      rcases hv with ⟨_, hv⟩ | ⟨hall, _⟩
      · exact hv
      · exfalso
        have : fitsL pa pb = true := by
          rw [fitsL, List.all_eq_true]
          intro p hp
          obtain ⟨q, hq⟩ := List.mem_iff_getElem?.1 hp
          rw [List.getElem?_zip_eq_some] at hq
          obtain ⟨q1, q2⟩ := hq
          obtain ⟨g1, e1⟩ := List.getElem?_eq_some_iff.1 q1
          obtain ⟨g2, e2⟩ := List.getElem?_eq_some_iff.1 q2
          rw [← e1, ← e2, hno q g1 g2]
          exact hall q g1 g2
        rw [this] at hF; cases hF
    subst hv'
    repeat (first | refine w_seq ?_ | refine w_region env ?_ | refine wo_nil ?_ | (refine wo_gate ?_ ?_; rfl; refine wo_pure rfl rfl (fun _ => rfl) rfl rfl ?_) | refine wo_not rfl rfl ?_ | refine wo_max rfl rfl rfl rfl ?_ | refine wo_min rfl rfl rfl rfl ?_ | refine wo_notU rfl rfl ?_)
    refine w_cond _ rfl (fun _ => ?_) (fun h => by cases h)
    repeat (first | refine w_seq ?_ | refine w_region env ?_ | refine wo_nil ?_ | (refine wo_gate ?_ ?_; rfl; refine wo_pure rfl rfl (fun _ => rfl) rfl rfl ?_) | refine wo_not rfl rfl ?_ | refine wo_max rfl rfl rfl rfl ?_ | refine wo_min rfl rfl rfl rfl ?_ | refine wo_notU rfl rfl ?_)
    refine wo_callX st1 (reads_fun) rfl rfl rfl ?_
    rintro v r2 hr2 rfl
    obtain ⟨V2, st2, le3, _⟩ := st1.callE hr2
    repeat (first | refine w_seq ?_ | refine w_region env ?_ | refine wo_nil ?_ | (refine wo_gate ?_ ?_; rfl; refine wo_pure rfl rfl (fun _ => rfl) rfl rfl ?_) | refine wo_not rfl rfl ?_ | refine wo_max rfl rfl rfl rfl ?_ | refine wo_min rfl rfl rfl rfl ?_ | refine wo_notU rfl rfl ?_)
    exact w_ret ⟨.inr rfl, st2.gr, _, rfl, rfl⟩
  | true =>
    have hv' : ∃ a' rows, v = .tuple #[.slice a' rows.length rows.length, .int .i64 0] ∧ Sl (V ++ r) a' 3 rows ∧ CellsR (V ++ r) rows (meets pa pb) := by
      rcases hv with ⟨⟨q, g1, g2, hq⟩, _⟩ | ⟨_, hv⟩
      · exfalso
        rw [← hno q g1 g2, h2.fit hF q g1 g2] at hq; cases hq
      · exact hv
    obtain ⟨am, rm, rfl, ham, hrm⟩ := hv'
    rw [h2.meets hF] at hrm
    replace ham := ham.le le2
    replace hrm := hrm.le le2
    repeat (first | refine w_seq ?_ | refine w_region env ?_ | refine wo_nil ?_ | (refine wo_gate ?_ ?_; rfl; refine wo_pure rfl rfl (fun _ => rfl) rfl rfl ?_) | refine wo_not rfl rfl ?_ | refine wo_max rfl rfl rfl rfl ?_ | refine wo_min rfl rfl rfl rfl ?_ | refine wo_notU rfl rfl ?_)
    refine w_cond _ rfl (fun h => by cases h) (fun _ => ?_)
    refine w_skip ?_
    repeat (first | refine w_seq ?_ | refine w_region env ?_ | refine wo_nil ?_ | (refine wo_gate ?_ ?_; rfl; refine wo_pure rfl rfl (fun _ => rfl) rfl rfl ?_) | refine wo_not rfl rfl ?_ | refine wo_max rfl rfl rfl rfl ?_ | refine wo_min rfl rfl rfl rfl ?_ | refine wo_notU rfl rfl ?_)
    refine wo_callX st1 (sameCells_fun ham hrm (hac.le le1) (hrc.le le1) (fun c hc => (h2.ok hF c hc).len) (by have := h2.len; omega)) rfl rfl rfl ?_
    rintro v r2 hr2 rfl
    rw [decide_eq_true rfl]
    obtain ⟨V2, st2, le3, _⟩ := st1.callE hr2
    repeat (first | refine w_seq ?_ | refine w_region env ?_ | refine wo_nil ?_ | (refine wo_gate ?_ ?_; rfl; refine wo_pure rfl rfl (fun _ => rfl) rfl rfl ?_) | refine wo_not rfl rfl ?_ | refine wo_max rfl rfl rfl rfl ?_ | refine wo_min rfl rfl rfl rfl ?_ | refine wo_notU rfl rfl ?_)
    refine w_cond _ rfl (fun h => by cases h) (fun _ => ?_)
    refine w_skip ?_
    exact k _ _ V2 am rm hF st2 (le1.trans le3) (ham.le le3) (hrm.le le3) (Sub.cons rfl (Sub.cons rfl (Sub.cons rfl (Sub.cons rfl (Sub.cons rfl (Sub.cons rfl (Sub.cons rfl Sub.nil)))))))
end Go.Proofs.YtdjcbpicdnhciaaGreat
