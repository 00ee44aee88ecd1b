/- The law about marks on a wall: the marks and the cells that are due. -/
import Derived.Test.YtdjcbpicdnhciaaGreatMq
set_option linter.unusedVariables false
set_option linter.unusedSimpArgs false
open Go Go.Dx Go.Proofs
namespace Go.Proofs.YtdjcbpicdnhciaaGreat
set_option maxRecDepth 20000
-- NEW

/-- Three bytes of a mark. -/
structure TriS where
  a : Int
  b : Int
  c : Int

structure TriS.Ok (t : TriS) : Prop where
  a : 0 ≤ t.a ∧ t.a ≤ 255
  b : 0 ≤ t.b ∧ t.b ≤ 255
  c : 0 ≤ t.c ∧ t.c ≤ 255

def triRow (t : TriS) : List Value := [.int .u8 t.a, .int .u8 t.b, .int .u8 t.c]

def triMark (t : TriS) : MarkS := ⟨t.a % 4 - 1, t.b % 4, t.c % 3, t.c % 3 + t.c / 3 % 4⟩

theorem triMark_ok {t : TriS} (h : t.Ok) : (triMark t).Ok := by
  obtain ⟨a, b, c⟩ := h
  exact ⟨by simp only [triMark]; omega, by simp only [triMark]; omega, by simp only [triMark]; omega⟩

theorem u8_modc {z n : Int} (h : 0 ≤ z ∧ z ≤ 255) (hn : n = 3 ∨ n = 4) : dwrap .i64 (z.tmod n) = z % n := by
  rw [Int.tmod_eq_emod_of_nonneg h.1, i64_small (by rcases hn with rfl | rfl <;> omega) (by rcases hn with rfl | rfl <;> omega)]

theorem u8_small {z : Int} (h : 0 ≤ z) (h2 : z ≤ 255) : dwrap .u8 z = z := by
  simp only [dwrap]
  rw [if_pos ⟨h, h2⟩]

/-- Which of the three signs there are. -/
def hasL (p : Int → Bool) : List Value := [.bool (p 0), .bool (p 1), .bool (p 2)]

theorem hasL_get (p : Int → Bool) {s : Nat} (h : s < 3) : (hasL p)[s]? = some (.bool (p s)) := by
  rcases s with _ | _ | _ | s
  · rfl
  · rfl
  · rfl
  · omega

theorem hasL_set (p : Int → Bool) {s : Nat} (h : s < 3) (b : Bool) : (hasL p).set s (.bool b) = hasL (fun t => if t = (s : Int) then b else p t) := by
  rcases s with _ | _ | _ | s
  · rfl
  · rfl
  · rfl
  · omega

theorem filter_has {sg : List Int} (h : sg ∈ subs3) : [(0 : Int), 1, 2].filter (fun s => decide (s ∈ sg)) = sg := by
  simp only [subs3, List.mem_cons, List.not_mem_nil, or_false] at h
  rcases h with rfl | rfl | rfl | rfl | rfl | rfl | rfl | rfl <;> decide

theorem hasL_congr {p q : Int → Bool} (h0 : p 0 = q 0) (h1 : p 1 = q 1) (h2 : p 2 = q 2) : hasL p = hasL q := by
  simp only [hasL, h0, h1, h2]

/-- The signs that look like one, of the first families. -/
def upTo (sign : Int) (f g : List Int) (q : Nat) (s : Int) : Bool := decide (s = sign) || (decide (0 < q) && decide (sign ∈ f) && decide (s ∈ f)) || (decide (1 < q) && decide (sign ∈ g) && decide (s ∈ g))

theorem upTo_two {sign : Int} {f g : List Int} : hasL (upTo sign f g 2) = hasL (fun s => decide (s ∈ famS sign f g)) := by
  refine hasL_congr ?_ ?_ ?_ <;> simp [upTo, famS]

theorem mem_take_succ {xs : List Int} {k : Nat} (h : k < xs.length) (s : Int) : decide (s ∈ xs.take (k + 1)) = (decide (s ∈ xs.take k) || decide (s = xs[k])) := by
  rw [Bool.eq_iff_iff]
  simp only [decide_eq_true_eq, Bool.or_eq_true]
  rw [List.take_add_one, List.getElem?_eq_getElem h]
  simp only [Option.toList_some, List.mem_append, List.mem_singleton]

/-- A way into a piece of code. -/
def nav : List Nat → Code → Code
  | 0 :: p, .seq a _ => nav p a
  | 1 :: p, .seq _ b => nav p b
  | 0 :: p, .cond _ a _ => nav p a
  | 1 :: p, .cond _ _ b => nav p b
  | 0 :: p, .block _ b => nav p b
  | 0 :: p, .loop b => nav p b
  | _, c => c

/-- The families that look like the sign, put in. -/
theorem e5_dam {V0 V B : Hp} {m : TF} {os : List Own1} {a a1 a2 : Option Addr} {f g : List Int} {i27 : Nat} {sign : Int} {w26 w110 w109 w108 w19 w20 w13 w2 w3 w4 w5 : Value} (st : Sta V0 V B (.obj i27 ⟨hasL (fun _ => false), false, false, 1, 0⟩ :: os)) (hF : FamsAt V a a1 a2 f g) (hf : f ∈ subs3) (hg : g ∈ subs3) (hs : 0 ≤ sign ∧ sign ≤ 2)
    (hsub : Sub [(27, .pointer (some ⟨i27, 0, some 0⟩)), (23, .int .i64 sign), (26, w26), (110, w110), (109, w109), (108, w108), (19, w19), (20, w20), (14, .slice a 2 2), (13, w13), (2, w2), (3, w3), (4, w4), (5, w5)] m) :
    W Tryz.prog 549 (nav [1, 0, 0, 1, 1, 0, 0, 1, 1, 1, 1, 1, 1, 0, 0, 1, 1, 1, 1, 1, 0] (e5 6)) m B (Mid fun m' B' => Sta V0 V B' (.obj i27 ⟨hasL (fun s => decide (s ∈ famS sign f g)), false, false, 1, 0⟩ :: os) ∧ Sub [(27, .pointer (some ⟨i27, 0, some 0⟩)), (26, w26), (110, w110), (109, w109), (108, w108), (19, w19), (20, w20), (14, .slice a 2 2), (13, w13), (2, w2), (3, w3), (4, w4), (5, w5)] m') := by
  refine w_sub hsub ?_
  obtain ⟨sg, rfl⟩ : ∃ sg : Nat, sign = (sg : Int) := ⟨sign.toNat, by omega⟩
  repeat (first | refine w_seq ?_ | refine w_region env ?_ | refine wo_nil ?_ | (refine wo_gate ?_ ?_; rfl; refine wo_pure rfl rfl (fun _ => rfl) rfl rfl ?_) | refine wo_not rfl rfl ?_ | refine wo_max rfl rfl rfl rfl ?_ | refine wo_min rfl rfl rfl rfl ?_)
  refine wo_ixA sg 1 sg rfl rfl rfl (by omega) (by omega) rfl rfl rfl rfl ?_
  refine wo_stO st 0 rfl rfl rfl (by show sg < 3; omega) (fun _ => rfl) rfl rfl rfl rfl rfl (fun B1 st1 => ?_)
  have e0 : (hasL fun _ => false).set sg (.bool true) = hasL (upTo sg f g 0) := by
    rw [hasL_set _ (by omega)]
    refine hasL_congr ?_ ?_ ?_ <;> · simp [upTo]
  rw [e0] at st1
  replace st1 : Sta V0 V B1 (.obj i27 ⟨hasL (upTo sg f g 0), false, false, 1, 0⟩ :: os) := st1
  repeat (first | refine w_seq ?_ | refine w_region env ?_ | refine wo_nil ?_ | (refine wo_gate ?_ ?_; rfl; refine wo_pure rfl rfl (fun _ => rfl) rfl rfl ?_) | refine wo_not rfl rfl ?_ | refine wo_max rfl rfl rfl rfl ?_ | refine wo_min rfl rfl rfl rfl ?_)
  refine w_block ?_
  refine w_loop (fun j m' B => ∃ q : Nat, j + q = 2 ∧ Sta V0 V B (.obj i27 ⟨hasL (upTo sg f g q), false, false, 1, 0⟩ :: os) ∧
      m' = [(172, .int .i64 q), (171, .int .i64 2), (170, .slice a 2 2), (27, .pointer (some ⟨i27, 0, some 0⟩)), (23, .int .i64 sg), (26, w26), (110, w110), (109, w109), (108, w108), (19, w19), (20, w20), (14, .slice a 2 2), (13, w13), (2, w2), (3, w3), (4, w4), (5, w5)]) 2
    (Sub.cons rfl (Sub.cons rfl (Sub.cons rfl (Sub.cons rfl (Sub.cons rfl (Sub.cons rfl (Sub.cons rfl (Sub.cons rfl (Sub.cons rfl (Sub.cons rfl (Sub.cons rfl (Sub.cons rfl (Sub.cons rfl (Sub.cons rfl (Sub.cons rfl (Sub.cons rfl (Sub.cons rfl Sub.nil))))))))))))))))) ⟨0, rfl, st1, rfl⟩ ?_
  clear st1 st
  rintro j m' B2 ⟨q, hjq, st, rfl⟩
  repeat (first | refine w_seq ?_ | refine w_region env ?_ | refine wo_nil ?_ | (refine wo_gate ?_ ?_; rfl; refine wo_pure rfl rfl (fun _ => rfl) rfl rfl ?_) | refine wo_not rfl rfl ?_ | refine wo_max rfl rfl rfl rfl ?_ | refine wo_min rfl rfl rfl rfl ?_)
  refine w_cond _ rfl (fun hlt => ?_) (fun hge => ?_)
  · have hq2 : q < 2 := by
      have : (q : Int) < 2 := by simpa using hlt
      omega
    obtain ⟨fq, aq, hfq, hrow, hsl, hup⟩ : ∃ (fq : List Int) (aq : Option Addr), fq ∈ subs3 ∧ [[Value.slice a1 f.length f.length], [Value.slice a2 g.length g.length]][q]? = some [.slice aq fq.length fq.length] ∧ Sl V aq 1 (ints fq) ∧
        ∀ s, upTo sg f g (q + 1) s = (upTo sg f g q s || (decide ((sg : Int) ∈ fq) && decide (s ∈ fq))) := by
      rcases q with _ | _ | q
      · exact ⟨f, a1, hf, rfl, hF.2.1.sl, fun s => by simp [upTo]⟩
      · exact ⟨g, a2, hg, rfl, hF.2.2.sl, fun s => by simp [upTo]⟩
      · omega
    have hfl := subs3_len fq hfq
    refine w_skip ?_
    refine w_seq (w_block ?_)
    repeat (first | refine w_seq ?_ | refine w_region env ?_ | refine wo_nil ?_ | (refine wo_gate ?_ ?_; rfl; refine wo_pure rfl rfl (fun _ => rfl) rfl rfl ?_) | refine wo_not rfl rfl ?_ | refine wo_max rfl rfl rfl rfl ?_ | refine wo_min rfl rfl rfl rfl ?_)
    refine wo_at _ rfl (hF.1.sl.le st.le) rfl rfl rfl rfl rfl rfl (by omega) (by rw [Int.toNat_natCast]; exact hrow) (fun p hp => ?_)
    refine wo_load rfl hp rfl rfl rfl rfl rfl ?_
    repeat (first | refine w_seq ?_ | refine w_region env ?_ | refine wo_nil ?_ | (refine wo_gate ?_ ?_; rfl; refine wo_pure rfl rfl (fun _ => rfl) rfl rfl ?_) | refine wo_not rfl rfl ?_ | refine wo_max rfl rfl rfl rfl ?_ | refine wo_min rfl rfl rfl rfl ?_)
    refine w_block ?_
    refine w_loop (fun j m' B => B = B2 ∧ ∃ k : Nat, j + k = fq.length ∧
        m' = [(178, .int .i64 k), (177, .int .i64 fq.length), (176, .slice aq fq.length fq.length), (30, .bool (decide ((sg : Int) ∈ fq.take k))), (29, .slice aq fq.length fq.length), (172, .int .i64 q), (171, .int .i64 2), (170, .slice a 2 2), (27, .pointer (some ⟨i27, 0, some 0⟩)), (23, .int .i64 sg), (26, w26), (110, w110), (109, w109), (108, w108), (19, w19), (20, w20), (14, .slice a 2 2), (13, w13), (2, w2), (3, w3), (4, w4), (5, w5)]) fq.length
      (Sub.cons rfl (Sub.cons rfl (Sub.cons rfl (Sub.cons rfl (Sub.cons rfl (Sub.cons rfl (Sub.cons rfl (Sub.cons rfl (Sub.cons rfl (Sub.cons rfl (Sub.cons rfl (Sub.cons rfl (Sub.cons rfl (Sub.cons rfl (Sub.cons rfl (Sub.cons rfl (Sub.cons rfl (Sub.cons rfl (Sub.cons rfl (Sub.cons rfl (Sub.cons rfl (Sub.cons rfl Sub.nil)))))))))))))))))))))) ⟨rfl, 0, by omega, rfl⟩ ?_
    rintro j1 m1 B3 ⟨rfl, k, hjk, rfl⟩
    repeat (first | refine w_seq ?_ | refine w_region env ?_ | refine wo_nil ?_ | (refine wo_gate ?_ ?_; rfl; refine wo_pure rfl rfl (fun _ => rfl) rfl rfl ?_) | refine wo_not rfl rfl ?_ | refine wo_max rfl rfl rfl rfl ?_ | refine wo_min rfl rfl rfl rfl ?_)
    refine w_cond _ rfl (fun hlt => ?_) (fun hge => ?_)
    · have hk : k < fq.length := by simpa using hlt
      refine w_skip ?_
      refine w_seq (w_block ?_)
      repeat (first | refine w_seq ?_ | refine w_region env ?_ | refine wo_nil ?_ | (refine wo_gate ?_ ?_; rfl; refine wo_pure rfl rfl (fun _ => rfl) rfl rfl ?_) | refine wo_not rfl rfl ?_ | refine wo_max rfl rfl rfl rfl ?_ | refine wo_min rfl rfl rfl rfl ?_)
      refine wo_at _ rfl (hsl.le st.le) rfl rfl rfl rfl rfl (ints_len _).symm (by omega) (ints_get (by simpa using hk)) (fun p hp => ?_)
      refine wo_load rfl hp rfl rfl rfl rfl rfl ?_
      repeat (first | refine w_seq ?_ | refine w_region env ?_ | refine wo_nil ?_ | (refine wo_gate ?_ ?_; rfl; refine wo_pure rfl rfl (fun _ => rfl) rfl rfl ?_) | refine wo_not rfl rfl ?_ | refine wo_max rfl rfl rfl rfl ?_ | refine wo_min rfl rfl rfl rfl ?_)
      cases hb : decide ((sg : Int) ∈ fq.take k) with
      | true =>
        repeat (first | refine w_seq ?_ | refine w_region env ?_ | refine wo_nil ?_ | (refine wo_gate ?_ ?_; rfl; refine wo_pure rfl rfl (fun _ => rfl) rfl rfl ?_) | refine wo_not rfl rfl ?_ | refine wo_max rfl rfl rfl rfl ?_ | refine wo_min rfl rfl rfl rfl ?_)
        exact ⟨j1 - 1, [(178, _), (177, _), (176, _), (30, _), (29, _), (172, _), (171, _), (170, _), (27, _), (23, _), (26, _), (110, _), (109, _), (108, _), (19, _), (20, _), (14, _), (13, _), (2, _), (3, _), (4, _), (5, _)], by omega, (Sub.cons rfl (Sub.cons rfl (Sub.cons rfl (Sub.cons rfl (Sub.cons rfl (Sub.cons rfl (Sub.cons rfl (Sub.cons rfl (Sub.cons rfl (Sub.cons rfl (Sub.cons rfl (Sub.cons rfl (Sub.cons rfl (Sub.cons rfl (Sub.cons rfl (Sub.cons rfl (Sub.cons rfl (Sub.cons rfl (Sub.cons rfl (Sub.cons rfl (Sub.cons rfl (Sub.cons rfl Sub.nil)))))))))))))))))))))), rfl, k + 1, by omega, by rw [i64_nat (by omega), mem_take_succ hk, hb]; rfl⟩
      | false =>
        repeat (first | refine w_seq ?_ | refine w_region env ?_ | refine wo_nil ?_ | (refine wo_gate ?_ ?_; rfl; refine wo_pure rfl rfl (fun _ => rfl) rfl rfl ?_) | refine wo_not rfl rfl ?_ | refine wo_max rfl rfl rfl rfl ?_ | refine wo_min rfl rfl rfl rfl ?_)
        refine ⟨j1 - 1, [(178, _), (177, _), (176, _), (30, _), (29, _), (172, _), (171, _), (170, _), (27, _), (23, _), (26, _), (110, _), (109, _), (108, _), (19, _), (20, _), (14, _), (13, _), (2, _), (3, _), (4, _), (5, _)], by omega, (Sub.cons rfl (Sub.cons rfl (Sub.cons rfl (Sub.cons rfl (Sub.cons rfl (Sub.cons rfl (Sub.cons rfl (Sub.cons rfl (Sub.cons rfl (Sub.cons rfl (Sub.cons rfl (Sub.cons rfl (Sub.cons rfl (Sub.cons rfl (Sub.cons rfl (Sub.cons rfl (Sub.cons rfl (Sub.cons rfl (Sub.cons rfl (Sub.cons rfl (Sub.cons rfl (Sub.cons rfl Sub.nil)))))))))))))))))))))), rfl, k + 1, by omega, ?_⟩
        rw [i64_nat (by omega), mem_take_succ hk, hb]
        have : (fq[(k : Int).toNat] == (sg : Int)) = decide ((sg : Int) = fq[k]) := by
          simp only [Int.toNat_natCast]
          by_cases h : (sg : Int) = fq[k]
          · rw [decide_eq_true h, h]; simp
          · rw [decide_eq_false h, beq_eq_false_iff_ne]
            exact fun h2 => h h2.symm
        rw [this]; rfl
    · have hk : k = fq.length := by
        have : ¬ (k : Int) < (fq.length : Int) := by simpa using hge
        omega
      subst hk
      rw [List.take_length]
      refine w_exit ?_
      repeat (first | refine w_seq ?_ | refine w_region env ?_ | refine wo_nil ?_ | (refine wo_gate ?_ ?_; rfl; refine wo_pure rfl rfl (fun _ => rfl) rfl rfl ?_) | refine wo_not rfl rfl ?_ | refine wo_max rfl rfl rfl rfl ?_ | refine wo_min rfl rfl rfl rfl ?_)
      refine w_block ?_
      refine w_loop (fun j m' B => ∃ k : Nat, j + k = fq.length ∧ Sta V0 V B (.obj i27 ⟨hasL (fun s => upTo sg f g q s || (decide ((sg : Int) ∈ fq) && decide (s ∈ fq.take k))), false, false, 1, 0⟩ :: os) ∧
          m' = [(191, .int .i64 k), (190, .int .i64 fq.length), (189, .slice aq fq.length fq.length), (30, .bool (decide ((sg : Int) ∈ fq))), (172, .int .i64 q), (171, .int .i64 2), (170, .slice a 2 2), (27, .pointer (some ⟨i27, 0, some 0⟩)), (23, .int .i64 sg), (26, w26), (110, w110), (109, w109), (108, w108), (19, w19), (20, w20), (14, .slice a 2 2), (13, w13), (2, w2), (3, w3), (4, w4), (5, w5)]) fq.length
        (Sub.cons rfl (Sub.cons rfl (Sub.cons rfl (Sub.cons rfl (Sub.cons rfl (Sub.cons rfl (Sub.cons rfl (Sub.cons rfl (Sub.cons rfl (Sub.cons rfl (Sub.cons rfl (Sub.cons rfl (Sub.cons rfl (Sub.cons rfl (Sub.cons rfl (Sub.cons rfl (Sub.cons rfl (Sub.cons rfl (Sub.cons rfl (Sub.cons rfl (Sub.cons rfl Sub.nil))))))))))))))))))))) ⟨0, by omega, by simpa using st, rfl⟩ ?_
      clear st
      rintro j2 m2 B4 ⟨k, hjk2, st, rfl⟩
      repeat (first | refine w_seq ?_ | refine w_region env ?_ | refine wo_nil ?_ | (refine wo_gate ?_ ?_; rfl; refine wo_pure rfl rfl (fun _ => rfl) rfl rfl ?_) | refine wo_not rfl rfl ?_ | refine wo_max rfl rfl rfl rfl ?_ | refine wo_min rfl rfl rfl rfl ?_)
      refine w_cond _ rfl (fun hlt => ?_) (fun hge => ?_)
      · have hk : k < fq.length := by simpa using hlt
        obtain ⟨z1, z2⟩ := subs3_in fq hfq fq[k] (by simp)
        obtain ⟨z, hz⟩ : ∃ z : Nat, fq[k] = (z : Int) := ⟨fq[k].toNat, by omega⟩
        have hzi : fq[(k : Int).toNat] = (z : Int) := hz
        refine w_skip ?_
        refine w_seq (w_block ?_)
        repeat (first | refine w_seq ?_ | refine w_region env ?_ | refine wo_nil ?_ | (refine wo_gate ?_ ?_; rfl; refine wo_pure rfl rfl (fun _ => rfl) rfl rfl ?_) | refine wo_not rfl rfl ?_ | refine wo_max rfl rfl rfl rfl ?_ | refine wo_min rfl rfl rfl rfl ?_)
        refine wo_at _ rfl (hsl.le st.le) rfl rfl rfl rfl rfl (ints_len _).symm (by omega) (ints_get (by simpa using hk)) (fun p hp => ?_)
        refine wo_load rfl hp rfl rfl rfl rfl rfl ?_
        rw [hzi]
        repeat (first | refine w_seq ?_ | refine w_region env ?_ | refine wo_nil ?_ | (refine wo_gate ?_ ?_; rfl; refine wo_pure rfl rfl (fun _ => rfl) rfl rfl ?_) | refine wo_not rfl rfl ?_ | refine wo_max rfl rfl rfl rfl ?_ | refine wo_min rfl rfl rfl rfl ?_)
        refine wo_ixA z 1 z rfl rfl rfl (by omega) (by omega) rfl rfl rfl rfl ?_
        refine wo_load rfl (rd_one (st.obj (k := 0) rfl) rfl (hasL_get (s := z) (fun s => upTo sg f g q s || (decide ((sg : Int) ∈ fq) && decide (s ∈ fq.take k))) (by omega))) rfl rfl rfl rfl rfl ?_
        have fin : ∀ b, b = ((upTo sg f g q z || (decide ((sg : Int) ∈ fq) && decide ((z : Int) ∈ fq.take k))) || decide ((sg : Int) ∈ fq)) →
            (hasL (fun s => upTo sg f g q s || (decide ((sg : Int) ∈ fq) && decide (s ∈ fq.take k)))).set z (.bool b) = hasL (fun s => upTo sg f g q s || (decide ((sg : Int) ∈ fq) && decide (s ∈ fq.take (k + 1)))) := by
          rintro _ rfl
          rw [hasL_set _ (by omega)]
          have hcore : ∀ s : Int, (if s = (z : Int) then ((upTo sg f g q z || (decide ((sg : Int) ∈ fq) && decide ((z : Int) ∈ fq.take k))) || decide ((sg : Int) ∈ fq)) else (upTo sg f g q s || (decide ((sg : Int) ∈ fq) && decide (s ∈ fq.take k)))) = (upTo sg f g q s || (decide ((sg : Int) ∈ fq) && decide (s ∈ fq.take (k + 1)))) := by
            intro s
            rw [mem_take_succ hk, hz]
            split
            · rename_i h; subst h
              cases upTo sg f g q z <;> cases decide ((sg : Int) ∈ fq) <;> simp
            · rename_i h; simp [h]
          exact hasL_congr (hcore 0) (hcore 1) (hcore 2)
        cases hb : (upTo sg f g q z || (decide ((sg : Int) ∈ fq) && decide ((z : Int) ∈ fq.take k))) with
        | true =>
          repeat (first | refine w_seq ?_ | refine w_region env ?_ | refine wo_nil ?_ | (refine wo_gate ?_ ?_; rfl; refine wo_pure rfl rfl (fun _ => rfl) rfl rfl ?_) | refine wo_not rfl rfl ?_ | refine wo_max rfl rfl rfl rfl ?_ | refine wo_min rfl rfl rfl rfl ?_)
          refine wo_ixA z 1 z rfl rfl rfl (by omega) (by omega) rfl rfl rfl rfl ?_
          refine wo_stO st 0 rfl rfl rfl (by show z < 3; omega) (fun _ => rfl) rfl rfl rfl rfl rfl (fun B5 st5 => ?_)
          rw [fin true (by rw [hb]; rfl)] at st5
          repeat (first | refine w_seq ?_ | refine w_region env ?_ | refine wo_nil ?_ | (refine wo_gate ?_ ?_; rfl; refine wo_pure rfl rfl (fun _ => rfl) rfl rfl ?_) | refine wo_not rfl rfl ?_ | refine wo_max rfl rfl rfl rfl ?_ | refine wo_min rfl rfl rfl rfl ?_)
          exact ⟨j2 - 1, [(191, _), (190, _), (189, _), (30, _), (172, _), (171, _), (170, _), (27, _), (23, _), (26, _), (110, _), (109, _), (108, _), (19, _), (20, _), (14, _), (13, _), (2, _), (3, _), (4, _), (5, _)], by omega, (Sub.cons rfl (Sub.cons rfl (Sub.cons rfl (Sub.cons rfl (Sub.cons rfl (Sub.cons rfl (Sub.cons rfl (Sub.cons rfl (Sub.cons rfl (Sub.cons rfl (Sub.cons rfl (Sub.cons rfl (Sub.cons rfl (Sub.cons rfl (Sub.cons rfl (Sub.cons rfl (Sub.cons rfl (Sub.cons rfl (Sub.cons rfl (Sub.cons rfl (Sub.cons rfl Sub.nil))))))))))))))))))))), k + 1, by omega, st5, by rw [i64_nat (by omega)]⟩
        | false =>
          repeat (first | refine w_seq ?_ | refine w_region env ?_ | refine wo_nil ?_ | (refine wo_gate ?_ ?_; rfl; refine wo_pure rfl rfl (fun _ => rfl) rfl rfl ?_) | refine wo_not rfl rfl ?_ | refine wo_max rfl rfl rfl rfl ?_ | refine wo_min rfl rfl rfl rfl ?_)
          refine wo_ixA z 1 z rfl rfl rfl (by omega) (by omega) rfl rfl rfl rfl ?_
          refine wo_stO st 0 rfl rfl rfl (by show z < 3; omega) (fun _ => rfl) rfl rfl rfl rfl rfl (fun B5 st5 => ?_)
          rw [fin _ (by rw [hb]; rfl)] at st5
          repeat (first | refine w_seq ?_ | refine w_region env ?_ | refine wo_nil ?_ | (refine wo_gate ?_ ?_; rfl; refine wo_pure rfl rfl (fun _ => rfl) rfl rfl ?_) | refine wo_not rfl rfl ?_ | refine wo_max rfl rfl rfl rfl ?_ | refine wo_min rfl rfl rfl rfl ?_)
          exact ⟨j2 - 1, [(191, _), (190, _), (189, _), (30, _), (172, _), (171, _), (170, _), (27, _), (23, _), (26, _), (110, _), (109, _), (108, _), (19, _), (20, _), (14, _), (13, _), (2, _), (3, _), (4, _), (5, _)], by omega, (Sub.cons rfl (Sub.cons rfl (Sub.cons rfl (Sub.cons rfl (Sub.cons rfl (Sub.cons rfl (Sub.cons rfl (Sub.cons rfl (Sub.cons rfl (Sub.cons rfl (Sub.cons rfl (Sub.cons rfl (Sub.cons rfl (Sub.cons rfl (Sub.cons rfl (Sub.cons rfl (Sub.cons rfl (Sub.cons rfl (Sub.cons rfl (Sub.cons rfl (Sub.cons rfl Sub.nil))))))))))))))))))))), k + 1, by omega, st5, by rw [i64_nat (by omega)]⟩
      · have hk : k = fq.length := by
          have : ¬ (k : Int) < (fq.length : Int) := by simpa using hge
          omega
        subst hk
        refine w_exit ?_
        repeat (first | refine w_seq ?_ | refine w_region env ?_ | refine wo_nil ?_ | (refine wo_gate ?_ ?_; rfl; refine wo_pure rfl rfl (fun _ => rfl) rfl rfl ?_) | refine wo_not rfl rfl ?_ | refine wo_max rfl rfl rfl rfl ?_ | refine wo_min rfl rfl rfl rfl ?_)
        refine ⟨j - 1, [(172, _), (171, _), (170, _), (27, _), (23, _), (26, _), (110, _), (109, _), (108, _), (19, _), (20, _), (14, _), (13, _), (2, _), (3, _), (4, _), (5, _)], by omega, (Sub.cons rfl (Sub.cons rfl (Sub.cons rfl (Sub.cons rfl (Sub.cons rfl (Sub.cons rfl (Sub.cons rfl (Sub.cons rfl (Sub.cons rfl (Sub.cons rfl (Sub.cons rfl (Sub.cons rfl (Sub.cons rfl (Sub.cons rfl (Sub.cons rfl (Sub.cons rfl (Sub.cons rfl Sub.nil))))))))))))))))), q + 1, by omega, ?_, by rw [i64_nat (by omega)]⟩
        rw [List.take_length] at st
        have : hasL (upTo sg f g (q + 1)) = hasL (fun s => upTo sg f g q s || (decide ((sg : Int) ∈ fq) && decide (s ∈ fq))) := hasL_congr (hup 0) (hup 1) (hup 2)
        rw [this]; exact st
  · have hq2 : q = 2 := by
      have : ¬ (q : Int) < 2 := by simpa using hge
      omega
    subst hq2
    rw [upTo_two] at st
    exact w_exit ⟨rfl, st, (Sub.cons rfl (Sub.cons rfl (Sub.cons rfl (Sub.cons rfl (Sub.cons rfl (Sub.cons rfl (Sub.cons rfl (Sub.cons rfl (Sub.cons rfl (Sub.cons rfl (Sub.cons rfl (Sub.cons rfl (Sub.cons rfl Sub.nil)))))))))))))⟩
end Go.Proofs.YtdjcbpicdnhciaaGreat
