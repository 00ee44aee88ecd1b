/- The law about marks on a wall: the cells are as they are due; what two walls have in common. -/
import Derived.Test.YtdjcbpicdnhciaaGreatMu
import Derived.Test.YtdjcbpicdnhciaaGreatEi
set_option linter.unusedVariables false
set_option linter.unusedSimpArgs false
open Go Go.Dx Go.Proofs
namespace Go.Proofs.YtdjcbpicdnhciaaGreat
set_option maxRecDepth 20000
-- NEW

theorem e5_78 {V0 V B : Hp} {m : TF} {ms : List MarkS} {ar ad a a1 a2 : Option Addr} {dd : List (List Value)} {f g : List Int} {ly : Int} {i13 iS : Nat} {v3 v4 v5 : Value} {rest : Code} {Q : Exit → TF → Hp → Prop} (st : Sta V0 V B []) (hF : FamsAt V a a1 a2 f g) (hf : f ∈ subs3) (hg : g ∈ subs3)
    (hs : HasSigns V iS) (h13 : At V i13 [.int .i64 1, .slice (some ⟨iS, 0, some 0⟩) 3 3]) (hm : Sl V ar 4 (ms.map markRow)) (hms : ∀ t ∈ ms, t.Ok) (hml : ms.length ≤ 4) (had : Sl V ad 3 dd) (hdd : CellsR V dd (ms.map (markCell (ly % 2) f g))) (hly : 0 ≤ ly ∧ ly ≤ 255)
    (hsub : Sub [(19, .slice ar ms.length ms.length), (20, .slice ad dd.length dd.length), (14, .slice a 2 2), (13, .pointer (some ⟨i13, 0, some 0⟩)), (2, .int .u8 ly), (3, v3), (4, v4), (5, v5)] m)
    (k : ∀ m' B' V', Sta V0 V' B' [] → Le V V' → Sub [(13, .pointer (some ⟨i13, 0, some 0⟩)), (3, v3), (4, v4), (5, v5)] m' → W Tryz.prog 549 rest m' B' Q) :
    W Tryz.prog 549 (.seq (e5 7) (.seq (e5 8) rest)) m B Q := by
  refine w_sub hsub ?_
  have ely : dwrap .i64 (ly.tmod 2) = ly % 2 := by
    rw [Int.tmod_eq_emod_of_nonneg hly.1, i64_small (by omega) (by omega)]
  repeat (first | refine w_seq ?_ | refine w_region env ?_ | refine wo_nil ?_ | (refine wo_gate ?_ ?_; rfl; refine wo_pure rfl rfl (fun _ => rfl) rfl rfl ?_) | refine wo_not rfl rfl ?_ | refine wo_max rfl rfl rfl rfl ?_ | refine wo_min rfl rfl rfl rfl ?_ | refine wo_loads rfl (h13.rds st.le 2 rfl) rfl rfl rfl rfl rfl rfl ?_)
  rw [ely]
  refine wo_callX st (of_fun hs hm hms hml hf hg (by omega) hF.1 hF.2.1 hF.2.2) rfl rfl rfl ?_
  rintro v r hr ⟨ao, rows, rfl, hao, hrows⟩
  obtain ⟨V1, st1, le1, le2⟩ := st.callE hr
  replace hao := hao.le le2
  replace hrows := hrows.le le2
  replace hs := hs.le le1
  replace h13 := h13.le le1
  replace had := had.le le1
  replace hdd := hdd.le le1
  have hdl : dd.length = ms.length := by have := hdd.1; simpa using this
  repeat (first | refine w_seq ?_ | refine w_region env ?_ | refine wo_nil ?_ | (refine wo_gate ?_ ?_; rfl; refine wo_pure rfl rfl (fun _ => rfl) rfl rfl ?_) | refine wo_not rfl rfl ?_ | refine wo_max rfl rfl rfl rfl ?_ | refine wo_min rfl rfl rfl rfl ?_)
  refine wo_callX st1 (sameCells_fun hao hrows had hdd (fun c hc => ?_) (by simp; omega)) rfl rfl rfl ?_
  · obtain ⟨m0, hm0, rfl⟩ := List.mem_map.1 hc
    exact (markCell_ok (hms m0 hm0) _ _ _).len
  rintro v r2 hr2 rfl
  rw [decide_eq_true rfl]
  obtain ⟨V2, st2, le3, _⟩ := st1.callE hr2
  replace hs := hs.le le3
  replace h13 := h13.le le3
  replace had := had.le le3
  replace hdd := hdd.le le3
  repeat (first | refine w_seq ?_ | refine w_region env ?_ | refine wo_nil ?_ | (refine wo_gate ?_ ?_; rfl; refine wo_pure rfl rfl (fun _ => rfl) rfl rfl ?_) | refine wo_not rfl rfl ?_ | refine wo_max rfl rfl rfl rfl ?_ | refine wo_min rfl rfl rfl rfl ?_ | refine wo_loads rfl (h13.rds st2.le 2 rfl) rfl rfl rfl rfl rfl rfl ?_)
  refine wo_callX st2 (wallCheck_fun hs had hdd (fun c hc => ?_) (by simp; omega)) rfl rfl rfl ?_
  · obtain ⟨m0, hm0, rfl⟩ := List.mem_map.1 hc
    exact markCell_ok (hms m0 hm0) _ _ _
  rintro v r3 hr3 rfl
  obtain ⟨V3, st3, le4, _⟩ := st2.callE hr3
  repeat (first | refine w_seq ?_ | refine w_region env ?_ | refine wo_nil ?_ | (refine wo_gate ?_ ?_; rfl; refine wo_pure rfl rfl (fun _ => rfl) rfl rfl ?_) | refine wo_not rfl rfl ?_ | refine wo_max rfl rfl rfl rfl ?_ | refine wo_min rfl rfl rfl rfl ?_)
  refine w_cond _ rfl (fun h => by cases h) (fun _ => ?_)
  refine w_skip ?_
  exact k _ _ V3 st3 (le1.trans (le3.trans le4)) (Sub.cons rfl (Sub.cons rfl (Sub.cons rfl (Sub.cons rfl Sub.nil))))

/-- What two cells have in common, as the law tells it. -/
def bothS (a b : CellS) : CellS × Bool :=
  let sg := [(0 : Int), 1, 2].filter fun s => (decide (a.sg = []) || decide (s ∈ a.sg)) && (decide (b.sg = []) || decide (s ∈ b.sg)) && (!decide (a.sg = []) || !decide (b.sg = []))
  if a.sg ≠ [] ∧ b.sg ≠ [] ∧ sg = [] then (⟨0, 0, a.sg⟩, decide (max a.mn b.mn ≤ min a.mx b.mx) && decide (max a.mn b.mn = 0)) else (⟨max a.mn b.mn, min a.mx b.mx, sg⟩, decide (max a.mn b.mn ≤ min a.mx b.mx))

theorem both_meet {a b : CellS} (ha : a.sg ∈ subs3) (hb : b.sg ∈ subs3) : (bothS a b).2 = (meetS a b).2 ∧ ((bothS a b).2 = true → (bothS a b).1 = (meetS a b).1) := by
  obtain ⟨mn, mx, sg⟩ := a
  obtain ⟨mn2, mx2, sg2⟩ := b
  simp only at ha hb
  have hin : ∀ s : List Int, s ∈ subs3 → s ≠ [] → [(0 : Int), 1, 2].filter (fun x => decide (x ∈ s)) = s := fun s hs _ => filter_has hs
  unfold bothS meetS
  simp only
  by_cases hlt : max mn mn2 > min mx mx2
  · rw [if_pos hlt]
    have h1 : ¬ max mn mn2 ≤ min mx mx2 := by omega
    split
    · simp [h1]
    · simp [h1]
  · rw [if_neg hlt]
    have h1 : max mn mn2 ≤ min mx mx2 := by omega
    by_cases h2 : sg = []
    · subst h2
      simp only [ne_eq, not_true_eq_false, false_and, if_false, if_true, decide_true, Bool.true_or, Bool.not_true, Bool.true_and, Bool.false_or]
      refine ⟨by simp [h1], fun _ => ?_⟩
      congr 1
      by_cases h3 : sg2 = []
      · subst h3; simp
      · simp only [h3, decide_false, Bool.false_or, Bool.not_false, Bool.and_true]
        exact filter_has hb
    · by_cases h3 : sg2 = []
      · subst h3
        simp only [ne_eq, not_true_eq_false, false_and, and_false, if_false, if_true, h2, decide_true, decide_false, Bool.true_or, Bool.not_true, Bool.true_and, Bool.false_or, Bool.and_true, Bool.not_false, Bool.true_or]
        refine ⟨by simp [h1], fun _ => ?_⟩
        congr 1
        exact filter_has ha
      · have e : [(0 : Int), 1, 2].filter (fun s => (decide (sg = []) || decide (s ∈ sg)) && (decide (sg2 = []) || decide (s ∈ sg2)) && (!decide (sg = []) || !decide (sg2 = []))) = sg.filter (fun s => decide (s ∈ sg2)) := by
          simp only [h2, h3, decide_false, Bool.false_or, Bool.not_false, Bool.or_true, Bool.and_true]
          rw [← filter_has ha, List.filter_filter]
          apply List.filter_congr
          intro x _
          rw [filter_has ha, Bool.and_comm]
        rw [e, if_neg h2, if_neg h3]
        by_cases h4 : sg.filter (fun s => decide (s ∈ sg2)) = []
        · rw [if_pos ⟨h2, h3, h4⟩, if_pos h4]
          simp [h1]
        · rw [if_neg (fun h => h4 h.2.2), if_neg h4]
          simp [h1]
end Go.Proofs.YtdjcbpicdnhciaaGreat
