/- The law about marks on a wall: what is lost; the whole law. -/
import Derived.Test.YtdjcbpicdnhciaaGreatMz
set_option linter.unusedVariables false
set_option linter.unusedSimpArgs false
open Go Go.Dx Go.Proofs
namespace Go.Proofs.YtdjcbpicdnhciaaGreat
set_option maxRecDepth 20000
-- NEWU

theorem partK_take (k : Nat) (l : List (Int × Int)) (i : Nat) (c x : Int) (h : l[i]? = some (c, x)) : partK k (l.take (i + 1)) = partK k (l.take i) ++ (if c = (k : Int) then [x] else []) := by
  rw [List.take_add_one, h, Option.toList_some, partK_snoc]

theorem e5_26 {V0 V B : Hp} {m : TF} {o1 o2 o3 : Option (List Int)} {v60 v61 v62 v63 v64 v65 v66 v38 v67 v68 v69 v70 v57 v43 v40 v13 : Value} {rest : Code} {Q : Exit → TF → Hp → Prop} (st : Sta V0 V B []) (t1 : toldV V o1 v60 v61 (.bool true) (.bool false)) (t2 : toldV V o2 v62 v63 (.bool true) (.bool false))
    (t3 : toldV V o3 v64 v65 (.bool true) (.bool false)) (t4 : toldV V o3 v66 v38 (.int .i64 0) (.int .i64 71)) (t5 : toldV V o1 v67 v68 (.int .i64 0) (.int .i64 71)) (t6 : toldV V o2 v69 v70 (.int .i64 0) (.int .i64 71)) (himp : o3.isSome = true → o1.isSome = true ∧ o2.isSome = true) (hlen : ∀ r, o3 = some r → r.length ≤ 1000)
    (hsub : Sub [(61, v61), (63, v63), (64, v64), (65, v65), (66, v66), (38, v38), (68, v68), (70, v70), (57, v57), (43, v43), (40, v40), (13, v13)] m)
    (k : ∀ m' B' V', Sta V0 V' B' [] → Le V V' → Sub [(64, v64), (65, .bool o3.isSome), (57, v57), (43, v43), (40, v40), (13, v13)] m' → W Tryz.prog 549 rest m' B' Q) :
    W Tryz.prog 549 (.seq (e5 26) rest) m B Q := by
  refine w_sub hsub ?_
  refine w_seq (w_seq ?_)
  refine w_mono (Q := Mid fun m' B' => ∃ V', Sta V0 V' B' [] ∧ Le V V' ∧ Sub [(499, .bool false), (64, v64), (65, .bool o3.isSome), (57, v57), (43, v43), (40, v40), (13, v13)] m') ?_ ?_
  · refine w_region env ?_
    cases o3 with
    | none =>
      obtain ⟨rfl, rfl⟩ := t3
      obtain ⟨rfl, rfl⟩ := t4
      cases o1 with
      | none =>
        obtain ⟨rfl, rfl⟩ := t1
        obtain ⟨rfl, rfl⟩ := t5
        cases o2 with
        | none =>
          obtain ⟨rfl, rfl⟩ := t2
          obtain ⟨rfl, rfl⟩ := t6
          repeat (first | refine w_seq ?_ | refine w_region env ?_ | refine wo_nil ?_ | (refine wo_gate ?_ ?_; rfl; refine wo_pure rfl rfl (fun _ => rfl) rfl rfl ?_) | refine wo_not rfl rfl ?_ | refine wo_max rfl rfl rfl rfl ?_ | refine wo_min rfl rfl rfl rfl ?_ | refine wo_notU rfl rfl ?_)
          exact ⟨rfl, V, st, .refl _, (Sub.cons rfl (Sub.cons rfl (Sub.cons rfl (Sub.cons rfl (Sub.cons rfl (Sub.cons rfl (Sub.cons rfl Sub.nil)))))))⟩
        | some r2 =>
          obtain ⟨_, _, rfl, rfl, _⟩ := t2
          obtain ⟨_, _, rfl, rfl, _⟩ := t6
          repeat (first | refine w_seq ?_ | refine w_region env ?_ | refine wo_nil ?_ | (refine wo_gate ?_ ?_; rfl; refine wo_pure rfl rfl (fun _ => rfl) rfl rfl ?_) | refine wo_not rfl rfl ?_ | refine wo_max rfl rfl rfl rfl ?_ | refine wo_min rfl rfl rfl rfl ?_ | refine wo_notU rfl rfl ?_)
          exact ⟨rfl, V, st, .refl _, (Sub.cons rfl (Sub.cons rfl (Sub.cons rfl (Sub.cons rfl (Sub.cons rfl (Sub.cons rfl (Sub.cons rfl Sub.nil)))))))⟩
      | some r1 =>
        obtain ⟨_, _, rfl, rfl, _⟩ := t1
        obtain ⟨_, _, rfl, rfl, _⟩ := t5
        cases o2 with
        | none =>
          obtain ⟨rfl, rfl⟩ := t2
          obtain ⟨rfl, rfl⟩ := t6
          repeat (first | refine w_seq ?_ | refine w_region env ?_ | refine wo_nil ?_ | (refine wo_gate ?_ ?_; rfl; refine wo_pure rfl rfl (fun _ => rfl) rfl rfl ?_) | refine wo_not rfl rfl ?_ | refine wo_max rfl rfl rfl rfl ?_ | refine wo_min rfl rfl rfl rfl ?_ | refine wo_notU rfl rfl ?_)
          exact ⟨rfl, V, st, .refl _, (Sub.cons rfl (Sub.cons rfl (Sub.cons rfl (Sub.cons rfl (Sub.cons rfl (Sub.cons rfl (Sub.cons rfl Sub.nil)))))))⟩
        | some r2 =>
          obtain ⟨_, _, rfl, rfl, _⟩ := t2
          obtain ⟨_, _, rfl, rfl, _⟩ := t6
          repeat (first | refine w_seq ?_ | refine w_region env ?_ | refine wo_nil ?_ | (refine wo_gate ?_ ?_; rfl; refine wo_pure rfl rfl (fun _ => rfl) rfl rfl ?_) | refine wo_not rfl rfl ?_ | refine wo_max rfl rfl rfl rfl ?_ | refine wo_min rfl rfl rfl rfl ?_ | refine wo_notU rfl rfl ?_)
          exact ⟨rfl, V, st, .refl _, (Sub.cons rfl (Sub.cons rfl (Sub.cons rfl (Sub.cons rfl (Sub.cons rfl (Sub.cons rfl (Sub.cons rfl Sub.nil)))))))⟩
    | some r3 =>
      obtain ⟨g1, g2⟩ := himp rfl
      obtain ⟨r1, rfl⟩ := Option.isSome_iff_exists.1 g1
      obtain ⟨r2, rfl⟩ := Option.isSome_iff_exists.1 g2
      obtain ⟨_, _, rfl, rfl, _⟩ := t1
      obtain ⟨_, _, rfl, rfl, _⟩ := t2
      obtain ⟨a3, c3, rfl, rfl, h3⟩ := t3
      obtain ⟨a4, c4, rfl, rfl, h4⟩ := t4
      obtain ⟨_, _, rfl, rfl, _⟩ := t5
      obtain ⟨_, _, rfl, rfl, _⟩ := t6
      have := hlen r3 rfl
      repeat (first | refine w_seq ?_ | refine w_region env ?_ | refine wo_nil ?_ | (refine wo_gate ?_ ?_; rfl; refine wo_pure rfl rfl (fun _ => rfl) rfl rfl ?_) | refine wo_not rfl rfl ?_ | refine wo_max rfl rfl rfl rfl ?_ | refine wo_min rfl rfl rfl rfl ?_ | refine wo_notU rfl rfl ?_)
      refine wo_callX st (sameInts_fun h4 h3 (by omega)) rfl rfl rfl ?_
      rintro v r hr rfl
      rw [decide_eq_true rfl]
      obtain ⟨V1, st1, le1, _⟩ := st.callE hr
      repeat (first | refine w_seq ?_ | refine w_region env ?_ | refine wo_nil ?_ | (refine wo_gate ?_ ?_; rfl; refine wo_pure rfl rfl (fun _ => rfl) rfl rfl ?_) | refine wo_not rfl rfl ?_ | refine wo_max rfl rfl rfl rfl ?_ | refine wo_min rfl rfl rfl rfl ?_ | refine wo_notU rfl rfl ?_)
      exact ⟨rfl, V1, st1, le1, (Sub.cons rfl (Sub.cons rfl (Sub.cons rfl (Sub.cons rfl (Sub.cons rfl (Sub.cons rfl (Sub.cons rfl Sub.nil)))))))⟩
  · rintro _ mm B1 ⟨rfl, V1, st1, le1, hsub2⟩
    show W _ _ _ _ _ _
    refine w_sub hsub2 ?_
    refine w_cond _ rfl (fun h => by cases h) (fun _ => ?_)
    exact w_skip (k _ _ V1 st1 le1 (Sub.cons rfl (Sub.cons rfl (Sub.cons rfl (Sub.cons rfl (Sub.cons rfl (Sub.cons rfl Sub.nil)))))))

theorem e5_27_29 {V0 V B : Hp} {m : TF} {cs : List CellS} {ac az : Option Addr} {rc : List (List Value)} {n iS i13 : Nat} {zs : List Int} {v64 v65 : Value} (hlc : cs.length = n) (hn3 : n ≤ 3) (hok : ∀ c ∈ cs, CellOK' 3 c) (st : Sta V0 V B []) (hs : HasSigns V iS) (h13 : At V i13 [.int .i64 1, .slice (some ⟨iS, 0, some 0⟩) 3 3])
    (hac : Sl V ac 3 rc) (hrc : CellsR V rc cs) (hzl : zs.length ≤ 6) (hz2 : ∀ z ∈ zs, 0 ≤ z ∧ z ≤ 2) (hz : Sl V az 1 (ints zs)) (t3 : toldV V (stoodS cs zs) v64 v65 (.bool true) (.bool false))
    (hsub : Sub [(64, v64), (65, .bool (stoodS cs zs).isSome), (57, .slice az zs.length zs.length), (43, .slice ac rc.length rc.length), (40, .int .i64 n), (13, .pointer (some ⟨i13, 0, some 0⟩))] m) :
    W Tryz.prog 549 (.seq (e5 27) (.seq (e5 28) .ret)) m B (lawQ V0) := by
  refine w_sub hsub ?_
  refine w_seq ?_
  refine w_mono (Q := fun e m' B' => (e = .normal ∧ ∃ V', Sta V0 V' B' []) ∨ lawQ V0 e m' B' ∧ e = .ret) ?_ ?_
  · refine w_seq (w_region env ?_)
    cases hS : stoodS cs zs with
    | none =>
      repeat (first | refine w_seq ?_ | refine w_region env ?_ | refine wo_nil ?_ | (refine wo_gate ?_ ?_; rfl; refine wo_pure rfl rfl (fun _ => rfl) rfl rfl ?_) | refine wo_not rfl rfl ?_ | refine wo_max rfl rfl rfl rfl ?_ | refine wo_min rfl rfl rfl rfl ?_ | refine wo_notU rfl rfl ?_)
      refine w_cond _ rfl (fun h => by cases h) (fun _ => ?_)
      exact w_skip (.inl ⟨rfl, V, st⟩)
    | some r =>
      rw [hS] at t3
      obtain ⟨ay, cy, rfl, _, hy⟩ := t3
      obtain ⟨hrl, hrz⟩ := stoodS_range hS
      replace hrl : r.length = zs.length := by
        rcases hrl with h | ⟨c, h1, h2⟩
        · exact h
        · have := (hok c h1).lo; omega
      repeat (first | refine w_seq ?_ | refine w_region env ?_ | refine wo_nil ?_ | (refine wo_gate ?_ ?_; rfl; refine wo_pure rfl rfl (fun _ => rfl) rfl rfl ?_) | refine wo_not rfl rfl ?_ | refine wo_max rfl rfl rfl rfl ?_ | refine wo_min rfl rfl rfl rfl ?_ | refine wo_notU rfl rfl ?_)
      refine w_cond _ rfl (fun _ => ?_) (fun h => by cases h)
      repeat (first | refine w_seq ?_ | refine w_region env ?_ | refine wo_nil ?_ | (refine wo_gate ?_ ?_; rfl; refine wo_pure rfl rfl (fun _ => rfl) rfl rfl ?_) | refine wo_not rfl rfl ?_ | refine wo_max rfl rfl rfl rfl ?_ | refine wo_min rfl rfl rfl rfl ?_ | refine wo_notU rfl rfl ?_ | refine wo_loads rfl (h13.rds st.le 2 rfl) rfl rfl rfl rfl rfl rfl ?_)
      refine wo_callX st (lost_fun (cy := cy) hs hac hrc hok (by omega) hz (by omega) hz2 hS hy) rfl rfl rfl ?_
      rintro v r0 hr0 ⟨al, rows, rfl, hal, hparts⟩
      obtain ⟨V1, st1, le1, le1'⟩ := st.callE hr0
      replace hal := hal.le le1'
      replace hz := hz.le le1
      replace hy := hy.le le1
      have hpl : rows.length = cs.length := by have := hparts.1; simpa using this
      replace hparts : ∀ q, q < n → ∃ a cap, rows[q]? = some [.slice a (partK q (r.zip zs)).length cap] ∧ Sl V1 a 1 (ints (partK q (r.zip zs))) := by
        intro q hq
        obtain ⟨a, cap, g1, g2⟩ := hparts.2 q (by simp; omega)
        simp only [List.getElem_map, List.getElem_range] at g1 g2
        exact ⟨a, cap, g1, g2.le le1'⟩
      clear st
      repeat (first | refine w_seq ?_ | refine w_region env ?_ | refine wo_nil ?_ | (refine wo_gate ?_ ?_; rfl; refine wo_pure rfl rfl (fun _ => rfl) rfl rfl ?_) | refine wo_not rfl rfl ?_ | refine wo_max rfl rfl rfl rfl ?_ | refine wo_min rfl rfl rfl rfl ?_ | refine wo_notU rfl rfl ?_)
      have e0 : ((cs.length : Int) != (n : Int)) = false := by rw [hlc]; simp
      rw [e0]
      refine w_cond _ rfl (fun h => by cases h) (fun _ => ?_)
      refine w_skip ?_
      repeat (first | refine w_seq ?_ | refine w_region env ?_ | refine wo_nil ?_ | (refine wo_gate ?_ ?_; rfl; refine wo_pure rfl rfl (fun _ => rfl) rfl rfl ?_) | refine wo_not rfl rfl ?_ | refine wo_max rfl rfl rfl rfl ?_ | refine wo_min rfl rfl rfl rfl ?_ | refine wo_notU rfl rfl ?_)
      refine w_block ?_
      refine w_loop (fun j m' B => ∃ V, Sta V0 V B [] ∧ Le V1 V ∧ ∃ q : Nat, j + q = n ∧
          m' = [(519, .int .i64 q), (518, .int .i64 n), (71, .slice al cs.length cs.length), (64, .slice ay r.length cy), (57, .slice az zs.length zs.length)]) n
        (Sub.cons rfl (Sub.cons rfl (Sub.cons rfl (Sub.cons rfl (Sub.cons rfl Sub.nil))))) ⟨V1, st1, .refl _, 0, by omega, rfl⟩ ?_
      clear st1
      rintro j m' B2 ⟨V2, st2, le2, q, hjq, rfl⟩
      repeat (first | refine w_seq ?_ | refine w_region env ?_ | refine wo_nil ?_ | (refine wo_gate ?_ ?_; rfl; refine wo_pure rfl rfl (fun _ => rfl) rfl rfl ?_) | refine wo_not rfl rfl ?_ | refine wo_max rfl rfl rfl rfl ?_ | refine wo_min rfl rfl rfl rfl ?_ | refine wo_notU rfl rfl ?_)
      refine w_cond _ rfl (fun hlt => ?_) (fun hge => ?_)
      · have hq : q < n := by simpa using hlt
        refine w_skip ?_
        refine w_seq (w_block ?_)
        repeat (first | refine w_seq ?_ | refine w_region env ?_ | refine wo_nil ?_ | (refine wo_gate ?_ ?_; rfl; refine wo_pure rfl rfl (fun _ => rfl) rfl rfl ?_) | refine wo_not rfl rfl ?_ | refine wo_max rfl rfl rfl rfl ?_ | refine wo_min rfl rfl rfl rfl ?_ | refine wo_notU rfl rfl ?_)
        refine w_block ?_
        refine w_loop (fun j' m' B => ∃ V ap pp, Sta V0 V B [.acc ap 1 (ints pp)] ∧ Le V2 V ∧ ∃ i : Nat, j' + i = r.length ∧ pp = partK q ((r.zip zs).take i) ∧
            m' = [(524, .int .i64 i), (523, .int .i64 r.length), (522, .slice ay r.length cy), (74, .slice ap pp.length pp.length), (73, .int .i64 q), (519, .int .i64 q), (518, .int .i64 n), (71, .slice al cs.length cs.length), (64, .slice ay r.length cy), (57, .slice az zs.length zs.length)]) r.length
          (Sub.cons rfl (Sub.cons rfl (Sub.cons rfl (Sub.cons rfl (Sub.cons rfl (Sub.cons rfl (Sub.cons rfl (Sub.cons rfl (Sub.cons rfl (Sub.cons rfl Sub.nil)))))))))) ⟨V2, none, [], st2.addAcc 1, .refl _, 0, by omega, by simp [partK], rfl⟩ ?_
        rintro j' m' B3 ⟨V3, ap, pp, st3, le3, i, hji, hpp, rfl⟩
        have lea : Le V1 V3 := le2.trans le3
        repeat (first | refine w_seq ?_ | refine w_region env ?_ | refine wo_nil ?_ | (refine wo_gate ?_ ?_; rfl; refine wo_pure rfl rfl (fun _ => rfl) rfl rfl ?_) | refine wo_not rfl rfl ?_ | refine wo_max rfl rfl rfl rfl ?_ | refine wo_min rfl rfl rfl rfl ?_ | refine wo_notU rfl rfl ?_)
        refine w_cond _ rfl (fun hlt2 => ?_) (fun hge2 => ?_)
        · have hi : i < r.length := by simpa using hlt2
          have hiz : i < zs.length := by omega
          have hpl2 : pp.length ≤ 6 := by
            have := partK_len q ((r.zip zs).take i)
            rw [← hpp] at this
            simp only [List.length_take, List.length_zip] at this
            omega
          have hzi : (r.zip zs)[i]? = some (r[i], zs[i]) := by
            rw [List.getElem?_zip_eq_some]
            exact ⟨by simp [hi], by simp [hiz]⟩
          refine w_skip ?_
          refine w_seq (w_block ?_)
          repeat (first | refine w_seq ?_ | refine w_region env ?_ | refine wo_nil ?_ | (refine wo_gate ?_ ?_; rfl; refine wo_pure rfl rfl (fun _ => rfl) rfl rfl ?_) | refine wo_not rfl rfl ?_ | refine wo_max rfl rfl rfl rfl ?_ | refine wo_min rfl rfl rfl rfl ?_ | refine wo_notU rfl rfl ?_)
          refine wo_at _ rfl ((hy.le lea).le st3.le) rfl rfl rfl rfl rfl (ints_len _).symm (by omega) (ints_get (by simpa using hi)) (fun p hp => ?_)
          refine wo_load rfl hp rfl rfl rfl rfl rfl ?_
          repeat (first | refine w_seq ?_ | refine w_region env ?_ | refine wo_nil ?_ | (refine wo_gate ?_ ?_; rfl; refine wo_pure rfl rfl (fun _ => rfl) rfl rfl ?_) | refine wo_not rfl rfl ?_ | refine wo_max rfl rfl rfl rfl ?_ | refine wo_min rfl rfl rfl rfl ?_ | refine wo_notU rfl rfl ?_)
          refine w_cond _ rfl (fun hc => ?_) (fun hc => ?_)
          · have hc' : r[i] = (q : Int) := by simpa using hc
            repeat (first | refine w_seq ?_ | refine w_region env ?_ | refine wo_nil ?_ | (refine wo_gate ?_ ?_; rfl; refine wo_pure rfl rfl (fun _ => rfl) rfl rfl ?_) | refine wo_not rfl rfl ?_ | refine wo_max rfl rfl rfl rfl ?_ | refine wo_min rfl rfl rfl rfl ?_ | refine wo_notU rfl rfl ?_)
            refine wo_at _ rfl ((hz.le lea).le st3.le) rfl rfl rfl rfl rfl (ints_len _).symm (by omega) (ints_get (i := i) (by omega)) (fun p2 hp2 => ?_)
            refine wo_load rfl hp2 rfl rfl rfl rfl rfl ?_
            refine wo_mkF st3 (cs := [.int .i64 zs[i]]) 1 rfl rfl (fun _ => rfl) rfl rfl (fun iN V4 B4 st4 le4 f4 => ?_)
            refine wo_app1 st4 0 rfl rfl rfl f4 rfl (ints_len _).symm (ints_len _).symm rfl (by rw [ints_len]; omega) rfl rfl rfl rfl rfl rfl rfl rfl rfl rfl (fun a5 V5 B5 st5 le5 => ?_)
            repeat (first | refine w_seq ?_ | refine w_region env ?_ | refine wo_nil ?_ | (refine wo_gate ?_ ?_; rfl; refine wo_pure rfl rfl (fun _ => rfl) rfl rfl ?_) | refine wo_not rfl rfl ?_ | refine wo_max rfl rfl rfl rfl ?_ | refine wo_min rfl rfl rfl rfl ?_ | refine wo_notU rfl rfl ?_)
            refine ⟨j' - 1, [(524, _), (523, _), (522, _), (74, _), (73, _), (519, _), (518, _), (71, _), (64, _), (57, _)], by omega, (Sub.cons rfl (Sub.cons rfl (Sub.cons rfl (Sub.cons rfl (Sub.cons rfl (Sub.cons rfl (Sub.cons rfl (Sub.cons rfl (Sub.cons rfl (Sub.cons rfl Sub.nil)))))))))), V5, a5, pp ++ [zs[i]], ?_, le3.trans (le4.trans le5), i + 1, by omega, ?_, ?_⟩
            · rw [ints_app]; exact st5
            · rw [partK_take q _ i _ _ hzi, if_pos hc', ← hpp]
            · rw [i64_nat (by omega), List.length_append, ints_len]; rfl
          · have hc' : ¬ r[i] = (q : Int) := by simpa using hc
            refine w_skip ?_
            repeat (first | refine w_seq ?_ | refine w_region env ?_ | refine wo_nil ?_ | (refine wo_gate ?_ ?_; rfl; refine wo_pure rfl rfl (fun _ => rfl) rfl rfl ?_) | refine wo_not rfl rfl ?_ | refine wo_max rfl rfl rfl rfl ?_ | refine wo_min rfl rfl rfl rfl ?_ | refine wo_notU rfl rfl ?_)
            refine ⟨j' - 1, [(524, _), (523, _), (522, _), (74, _), (73, _), (519, _), (518, _), (71, _), (64, _), (57, _)], by omega, (Sub.cons rfl (Sub.cons rfl (Sub.cons rfl (Sub.cons rfl (Sub.cons rfl (Sub.cons rfl (Sub.cons rfl (Sub.cons rfl (Sub.cons rfl (Sub.cons rfl Sub.nil)))))))))), V3, ap, pp, st3, le3, i + 1, by omega, ?_, by rw [i64_nat (by omega)]⟩
            rw [partK_take q _ i _ _ hzi, if_neg hc', List.append_nil, ← hpp]
        · have hi : i = r.length := by
            have : ¬ (i : Int) < (r.length : Int) := by simpa using hge2
            omega
          have hpp2 : pp = partK q (r.zip zs) := by rw [hpp, hi, List.take_of_length_le (by simp [List.length_zip]; omega)]
          refine w_exit ?_
          obtain ⟨V4, st4, le4, hsl4, _⟩ := st3.frzAcc (k := 0) rfl
          obtain ⟨ak, ck, hk1, hk2⟩ := hparts q hq
          repeat (first | refine w_seq ?_ | refine w_region env ?_ | refine wo_nil ?_ | (refine wo_gate ?_ ?_; rfl; refine wo_pure rfl rfl (fun _ => rfl) rfl rfl ?_) | refine wo_not rfl rfl ?_ | refine wo_max rfl rfl rfl rfl ?_ | refine wo_min rfl rfl rfl rfl ?_ | refine wo_notU rfl rfl ?_)
          refine wo_at [.slice ak (partK q (r.zip zs)).length ck] rfl ((hal.le (lea.trans le4)).le st4.le) rfl rfl rfl rfl rfl (by omega) (by omega) (by simpa using hk1) (fun p hp => ?_)
          refine wo_load rfl hp rfl rfl rfl rfl rfl ?_
          repeat (first | refine w_seq ?_ | refine w_region env ?_ | refine wo_nil ?_ | (refine wo_gate ?_ ?_; rfl; refine wo_pure rfl rfl (fun _ => rfl) rfl rfl ?_) | refine wo_not rfl rfl ?_ | refine wo_max rfl rfl rfl rfl ?_ | refine wo_min rfl rfl rfl rfl ?_ | refine wo_notU rfl rfl ?_)
          have hsz : (partK q (r.zip zs)).length ≤ 1000 := by
            have := partK_len q (r.zip zs)
            simp only [List.length_zip] at this
            omega
          refine wo_callX st4 (sameInts_fun (hk2.le (lea.trans le4)) hsl4 (by omega)) rfl rfl rfl ?_
          rintro v r5 hr5 rfl
          rw [hpp2, decide_eq_true rfl]
          obtain ⟨V5, st5, le5, _⟩ := st4.callE hr5
          repeat (first | refine w_seq ?_ | refine w_region env ?_ | refine wo_nil ?_ | (refine wo_gate ?_ ?_; rfl; refine wo_pure rfl rfl (fun _ => rfl) rfl rfl ?_) | refine wo_not rfl rfl ?_ | refine wo_max rfl rfl rfl rfl ?_ | refine wo_min rfl rfl rfl rfl ?_ | refine wo_notU rfl rfl ?_)
          refine w_cond _ rfl (fun h => by cases h) (fun _ => ?_)
          refine w_skip ?_
          repeat (first | refine w_seq ?_ | refine w_region env ?_ | refine wo_nil ?_ | (refine wo_gate ?_ ?_; rfl; refine wo_pure rfl rfl (fun _ => rfl) rfl rfl ?_) | refine wo_not rfl rfl ?_ | refine wo_max rfl rfl rfl rfl ?_ | refine wo_min rfl rfl rfl rfl ?_ | refine wo_notU rfl rfl ?_)
          exact ⟨j - 1, [(519, _), (518, _), (71, _), (64, _), (57, _)], by omega, (Sub.cons rfl (Sub.cons rfl (Sub.cons rfl (Sub.cons rfl (Sub.cons rfl Sub.nil))))), V5, st5, le2.trans (le3.trans (le4.trans le5)), q + 1, by omega, by rw [i64_nat (by omega)]⟩
      · exact w_exit (.inl ⟨rfl, V2, st2⟩)
  · rintro e mm B1 (⟨rfl, V1, st1⟩ | ⟨h, rfl⟩)
    · show W _ _ _ _ _ _
      repeat (first | refine w_seq ?_ | refine w_region env ?_ | refine wo_nil ?_ | (refine wo_gate ?_ ?_; rfl; refine wo_pure rfl rfl (fun _ => rfl) rfl rfl ?_) | refine wo_not rfl rfl ?_ | refine wo_max rfl rfl rfl rfl ?_ | refine wo_min rfl rfl rfl rfl ?_ | refine wo_notU rfl rfl ?_)
      refine wo_callX st1 (reads_fun) rfl rfl rfl ?_
      rintro v r2 hr2 rfl
      obtain ⟨V2, st2, le3, _⟩ := st1.callE hr2
      repeat (first | refine w_seq ?_ | refine w_region env ?_ | refine wo_nil ?_ | (refine wo_gate ?_ ?_; rfl; refine wo_pure rfl rfl (fun _ => rfl) rfl rfl ?_) | refine wo_not rfl rfl ?_ | refine wo_max rfl rfl rfl rfl ?_ | refine wo_min rfl rfl rfl rfl ?_ | refine wo_notU rfl rfl ?_)
      exact w_ret ⟨.inr rfl, st2.gr, _, rfl, rfl⟩
    · exact h
end Go.Proofs.YtdjcbpicdnhciaaGreat
