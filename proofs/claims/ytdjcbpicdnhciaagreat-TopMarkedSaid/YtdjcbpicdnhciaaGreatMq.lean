/- The law about marks on a wall: its pieces; the signs and the families. -/
import Derived.Test.YtdjcbpicdnhciaaGreatMp
import Derived.Test.YtdjcbpicdnhciaaGreatMr
set_option linter.unusedVariables false
set_option linter.unusedSimpArgs false
open Go Go.Dx Go.Proofs
namespace Go.Proofs.YtdjcbpicdnhciaaGreat
set_option maxRecDepth 20000
-- NEW

def snd1 : Code → Code
  | .seq _ b => b
  | c => c
def fst1 : Code → Code
  | .seq a _ => a
  | c => c
def dropS : Nat → Code → Code
  | 0, c => c
  | k + 1, c => dropS k (snd1 c)

noncomputable def bodyOf (fn : Func) : Code := match fn.body with
  | some c => c
  | none => .skip

/-- Piece k of the law about marks. -/
noncomputable def e5 (k : Nat) : Code := fst1 (dropS k (bodyOf Tryz.f5))

/-- The state of the law, behind a piece. -/
def Mid (R : TF → Hp → Prop) (e : Exit) (m : TF) (B : Hp) : Prop := e = .normal ∧ R m B

theorem w_then {P : Program} {n : Nat} {a b : Code} {m : TF} {A : Hp} {Q : Exit → TF → Hp → Prop} {R : TF → Hp → Prop} (h : W P n a m A (Mid R)) (k : ∀ m' B, R m' B → W P n b m' B Q) : W P n (.seq a b) m A Q := by
  refine w_seq (w_mono h ?_)
  rintro e m' B ⟨rfl, hR⟩
  exact k m' B hR

theorem signsOf_in (z : Int) : signsOf z 3 ∈ subs3 := by
  have : signsOf z 3 = [(0 : Int), 1, 2].filter (fun s => bitB z s.toNat) := by
    simp only [signsOf]
    cases h0 : bitB z 0 <;> cases h1 : bitB z 1 <;> cases h2 : bitB z 2 <;> simp [List.range, List.range.loop, List.filter, h0, h1, h2]
  rw [this]
  exact filter3 _

theorem frzAt {base V B : Hp} {os : List Own1} (h : Sta base V B os) (k : Nat) {sz : Nat} {a : Option Addr} {rows : List (List Value)} (hk : os[k]? = some (.acc a sz rows)) (hn : rows = [] → a = none) :
    ∃ V', Sta base V' B (os.eraseIdx k) ∧ Le V V' ∧ AccAt V' a sz rows := by
  cases a with
  | none =>
    obtain ⟨V', h1, h2, h3, _⟩ := h.frzAcc hk
    refine ⟨V', h1, h2, ?_⟩
    rcases h3 with h3 | ⟨i, off, ver, b, he, _⟩
    · exact .inl ⟨rfl, h3⟩
    · cases he
  | some p =>
    obtain ⟨o, g1, g2⟩ := h.own _ (List.mem_of_getElem? hk)
    have hat := own_at g1
    cases o with
    | none => cases g1.1
    | some i =>
      obtain ⟨ver, he, h4, h5, h6⟩ := g1
      cases he
      obtain ⟨V', h1, h2, h3⟩ := h.frzX k hk h4 rfl
      exact ⟨V', h1, h2, .inr ⟨fun h => (by have := hn h; cases this), i, ver, true, rfl, h3, h5⟩⟩

/-- The families, as they lie in memory. -/
def FamsAt (V : Hp) (a a1 a2 : Option Addr) (f g : List Int) : Prop := AccAt V a 1 [[.slice a1 f.length f.length], [.slice a2 g.length g.length]] ∧ AccAt V a1 1 (ints f) ∧ AccAt V a2 1 (ints g)

theorem FamsAt.le {V W : Hp} {a a1 a2 : Option Addr} {f g : List Int} (h : FamsAt V a a1 a2 f g) (hl : Le V W) : FamsAt W a a1 a2 f g := ⟨h.1.le hl, h.2.1.le hl, h.2.2.le hl⟩

theorem e5_01 {V0 V B : Hp} {m : TF} {al0 al1 : Int} {v0 v2 v3 v4 v5 : Value} {rest : Code} {Q : Exit → TF → Hp → Prop} (st : Sta V0 V B []) (hsub : Sub [(1, .agg ⟨[.int .u8 al0, .int .u8 al1]⟩), (0, v0), (2, v2), (3, v3), (4, v4), (5, v5)] m)
    (k : ∀ m' B' V' i7 i13 iS, Sta V0 V' B' [] → Le V V' → HasSigns V' iS → At V' i7 [.int .u8 al0, .int .u8 al1] → At V' i13 [.int .i64 1, .slice (some ⟨iS, 0, some 0⟩) 3 3] →
      Sub [(14, .slice none 0 0), (13, .pointer (some ⟨i13, 0, some 0⟩)), (7, .pointer (some ⟨i7, 0, some 0⟩)), (0, v0), (2, v2), (3, v3), (4, v4), (5, v5)] m' → W Tryz.prog 549 rest m' B' Q) :
    W Tryz.prog 549 (.seq (e5 0) (.seq (e5 1) (.seq (e5 2) rest))) m B Q := by
  refine w_sub hsub ?_
  refine w_seq (w_region env ?_)
  refine wo_allocF st (cs := [.int .u8 al0, .int .u8 al1]) 1 rfl rfl (fun _ => rfl) rfl rfl (fun i7 V1 B1 st1 le1 h7 => ?_)
  repeat (first | refine w_seq ?_ | refine w_region env ?_ | refine wo_nil ?_ | (refine wo_gate ?_ ?_; rfl; refine wo_pure rfl rfl (fun _ => rfl) rfl rfl ?_) | refine wo_not rfl rfl ?_ | refine wo_max rfl rfl rfl rfl ?_ | refine wo_min rfl rfl rfl rfl ?_)
  refine wo_mkF st1 (cs := signs3) 5 rfl rfl (fun _ => rfl) rfl rfl (fun iS V2 B2 st2 le2 f2 => ?_)
  have hs : HasSigns V2 iS := ⟨true, f2⟩
  repeat (first | refine w_seq ?_ | refine w_region env ?_ | refine wo_nil ?_ | (refine wo_gate ?_ ?_; rfl; refine wo_pure rfl rfl (fun _ => rfl) rfl rfl ?_) | refine wo_not rfl rfl ?_ | refine wo_max rfl rfl rfl rfl ?_ | refine wo_min rfl rfl rfl rfl ?_)
  refine wo_varsF st2 rfl (fun _ h => by cases h; rfl) rfl rfl rfl rfl rfl rfl rfl rfl rfl rfl rfl (fun i13 V3 B3 st3 le3 h13 => ?_)
  repeat (first | refine w_seq ?_ | refine w_region env ?_ | refine wo_nil ?_ | (refine wo_gate ?_ ?_; rfl; refine wo_pure rfl rfl (fun _ => rfl) rfl rfl ?_) | refine wo_not rfl rfl ?_ | refine wo_max rfl rfl rfl rfl ?_ | refine wo_min rfl rfl rfl rfl ?_)
  exact k _ _ V3 i7 i13 iS st3 (le1.trans (le2.trans le3)) (hs.le le3) (h7.le (le2.trans le3)) h13 (Sub.cons rfl (Sub.cons rfl (Sub.cons rfl (Sub.cons rfl (Sub.cons rfl (Sub.cons rfl (Sub.cons rfl (Sub.cons rfl Sub.nil))))))))

theorem e5_3 {V0 V B : Hp} {m : TF} {al0 al1 : Int} {v0 v2 v3 v4 v5 v13 : Value} {i7 : Nat} {rest : Code} {Q : Exit → TF → Hp → Prop} (st : Sta V0 V B []) (h7 : At V i7 [.int .u8 al0, .int .u8 al1]) (hal0 : 0 ≤ al0 ∧ al0 ≤ 255) (hal1 : 0 ≤ al1 ∧ al1 ≤ 255)
    (hsub : Sub [(14, .slice none 0 0), (13, v13), (7, .pointer (some ⟨i7, 0, some 0⟩)), (0, v0), (2, v2), (3, v3), (4, v4), (5, v5)] m)
    (k : ∀ m' B' V' a a1 a2, Sta V0 V' B' [] → Le V V' → FamsAt V' a a1 a2 (signsOf al0 3) (signsOf al1 3) →
      Sub [(14, .slice a 2 2), (13, v13), (0, v0), (2, v2), (3, v3), (4, v4), (5, v5)] m' → W Tryz.prog 549 rest m' B' Q) :
    W Tryz.prog 549 (.seq (e5 3) rest) m B Q := by
  refine w_sub hsub ?_
  obtain ⟨V_, hV_⟩ : ∃ V_, V_ = V := ⟨_, rfl⟩
  repeat (first | refine w_seq ?_ | refine w_region env ?_ | refine wo_nil ?_ | (refine wo_gate ?_ ?_; rfl; refine wo_pure rfl rfl (fun _ => rfl) rfl rfl ?_) | refine wo_not rfl rfl ?_ | refine wo_max rfl rfl rfl rfl ?_ | refine wo_min rfl rfl rfl rfl ?_)
  refine wo_loads rfl (h7.rds st.le 2 rfl) rfl rfl rfl rfl rfl rfl ?_
  repeat (first | refine w_seq ?_ | refine w_region env ?_ | refine wo_nil ?_ | (refine wo_gate ?_ ?_; rfl; refine wo_pure rfl rfl (fun _ => rfl) rfl rfl ?_) | refine wo_not rfl rfl ?_ | refine wo_max rfl rfl rfl rfl ?_ | refine wo_min rfl rfl rfl rfl ?_)
  refine w_block ?_
  refine w_loop (fun j m' B => ∃ V a fs, Sta V0 V B [.acc a 1 (fs.map fun (g : Option Addr × List Int) => [.slice g.1 g.2.length g.2.length])] ∧ (fs = [] → a = none) ∧ (∀ g ∈ fs, AccAt V g.1 1 (ints g.2)) ∧
      ∃ q : Nat, j + q = 2 ∧ fs.map (·.2) = ([al0, al1].take q).map (fun z => signsOf z 3) ∧ Le V_ V ∧
      m' = [(83, .int .i64 q), (82, .agg ⟨[.int .u8 al0, .int .u8 al1]⟩), (14, .slice a fs.length fs.length), (13, v13), (0, v0), (2, v2), (3, v3), (4, v4), (5, v5)]) 2
    (Sub.cons rfl (Sub.cons rfl (Sub.cons rfl (Sub.cons rfl (Sub.cons rfl (Sub.cons rfl (Sub.cons rfl (Sub.cons rfl (Sub.cons rfl Sub.nil))))))))) ⟨V, none, [], st.addAcc 1, fun _ => rfl, by simp, 0, rfl, rfl, by rw [hV_]; exact .refl _, rfl⟩ ?_
  rintro j m' B1 ⟨V1, a, fs, st1, hnil, hacc, q, hjq, hfs, le1, rfl⟩
  have hfl : fs.length = q := by
    have := congrArg List.length hfs
    simp at this; omega
  repeat (first | refine w_seq ?_ | refine w_region env ?_ | refine wo_nil ?_ | (refine wo_gate ?_ ?_; rfl; refine wo_pure rfl rfl (fun _ => rfl) rfl rfl ?_) | refine wo_not rfl rfl ?_ | refine wo_max rfl rfl rfl rfl ?_ | refine wo_min rfl rfl rfl rfl ?_)
  refine w_cond _ rfl (fun hlt => ?_) (fun hge => ?_)
  · have hq : q < 2 := by
      have : (q : Int) < 2 := by simpa using hlt
      omega
    obtain ⟨x, hx, hxq, hxc⟩ : ∃ x : Int, (0 ≤ x ∧ x ≤ 255) ∧ [al0, al1][q]? = some x ∧ [Value.int .u8 al0, .int .u8 al1][q]? = some (.int .u8 x) := by
      rcases q with _ | _ | q
      · exact ⟨al0, hal0, rfl, rfl⟩
      · exact ⟨al1, hal1, rfl, rfl⟩
      · omega
    refine w_skip ?_
    refine w_seq (w_block ?_)
    refine w_seq (w_region env ?_)
    refine wo_index1 q rfl rfl rfl hq hxc rfl rfl rfl rfl rfl ?_
    repeat (first | refine w_seq ?_ | refine w_region env ?_ | refine wo_nil ?_ | (refine wo_gate ?_ ?_; rfl; refine wo_pure rfl rfl (fun _ => rfl) rfl rfl ?_) | refine wo_not rfl rfl ?_ | refine wo_max rfl rfl rfl rfl ?_ | refine wo_min rfl rfl rfl rfl ?_)
    refine w_block ?_
    refine w_loop (fun j' m' B => ∃ V a2 sg, Sta V0 V B [.acc a2 1 (ints sg), .acc a 1 (fs.map fun (g : Option Addr × List Int) => [.slice g.1 g.2.length g.2.length])] ∧ Le V1 V ∧ (sg = [] → a2 = none) ∧
        ∃ s : Nat, j' + s = 3 ∧ sg = signsOf x s ∧
        m' = [(86, .int .i64 s), (16, .int .u8 x), (17, .slice a2 sg.length sg.length), (83, .int .i64 q), (82, .agg ⟨[.int .u8 al0, .int .u8 al1]⟩), (14, .slice a fs.length fs.length), (13, v13), (0, v0), (2, v2), (3, v3), (4, v4), (5, v5)]) 3
      (Sub.cons rfl (Sub.cons rfl (Sub.cons rfl (Sub.cons rfl (Sub.cons rfl (Sub.cons rfl (Sub.cons rfl (Sub.cons rfl (Sub.cons rfl (Sub.cons rfl (Sub.cons rfl (Sub.cons rfl Sub.nil)))))))))))) ⟨V1, none, [], st1.addAcc 1, .refl _, fun _ => rfl, 0, rfl, rfl, rfl⟩ ?_
    rintro j' m' B4 ⟨V4, a2, sg, st4, le4, hnil2, s, hjs, hsg, rfl⟩
    have hsl : sg.length ≤ s := by rw [hsg]; exact signsOf_len _ _
    repeat (first | refine w_seq ?_ | refine w_region env ?_ | refine wo_nil ?_ | (refine wo_gate ?_ ?_; rfl; refine wo_pure rfl rfl (fun _ => rfl) rfl rfl ?_) | refine wo_not rfl rfl ?_ | refine wo_max rfl rfl rfl rfl ?_ | refine wo_min rfl rfl rfl rfl ?_)
    refine w_cond _ rfl (fun hlt => ?_) (fun hge => ?_)
    · have hs3 : s < 3 := by
        have : (s : Int) < 3 := by simpa using hlt
        omega
      refine w_skip ?_
      refine w_seq (w_block ?_)
      repeat (first | refine w_seq ?_ | refine w_region env ?_ | refine wo_nil ?_ | (refine wo_gate ?_ ?_; rfl; refine wo_pure rfl rfl (fun _ => rfl) rfl rfl ?_) | refine wo_not rfl rfl ?_ | refine wo_max rfl rfl rfl rfl ?_ | refine wo_min rfl rfl rfl rfl ?_)
      refine w_cond (bitB x s) ?_ (fun hb => ?_) (fun hb => ?_)
      · rw [← bitD_eq hx hs3]; rfl
      · repeat (first | refine w_seq ?_ | refine w_region env ?_ | refine wo_nil ?_ | (refine wo_gate ?_ ?_; rfl; refine wo_pure rfl rfl (fun _ => rfl) rfl rfl ?_) | refine wo_not rfl rfl ?_ | refine wo_max rfl rfl rfl rfl ?_ | refine wo_min rfl rfl rfl rfl ?_)
        refine wo_mkF st4 (cs := [.int .i64 s]) 1 rfl rfl (fun _ => rfl) rfl rfl (fun iN V5 B5 st5 le5 f5 => ?_)
        refine wo_app1 st5 0 rfl rfl rfl f5 rfl (ints_len _).symm (ints_len _).symm rfl (by rw [ints_len]; omega) rfl rfl rfl rfl rfl rfl rfl rfl rfl rfl (fun a3 V6 B6 st6 le6 => ?_)
        repeat (first | refine w_seq ?_ | refine w_region env ?_ | refine wo_nil ?_ | (refine wo_gate ?_ ?_; rfl; refine wo_pure rfl rfl (fun _ => rfl) rfl rfl ?_) | refine wo_not rfl rfl ?_ | refine wo_max rfl rfl rfl rfl ?_ | refine wo_min rfl rfl rfl rfl ?_)
        refine ⟨j' - 1, [(86, _), (16, _), (17, _), (83, _), (82, _), (14, _), (13, _), (0, _), (2, _), (3, _), (4, _), (5, _)], by omega, (Sub.cons rfl (Sub.cons rfl (Sub.cons rfl (Sub.cons rfl (Sub.cons rfl (Sub.cons rfl (Sub.cons rfl (Sub.cons rfl (Sub.cons rfl (Sub.cons rfl (Sub.cons rfl (Sub.cons rfl Sub.nil)))))))))))), V6, a3, sg ++ [(s : Int)], ?_, le4.trans (le5.trans le6), by simp, s + 1, by omega, ?_, ?_⟩
        · rw [ints_app]
          exact st6
        · rw [signsOf_succ, hb, ← hsg]; rfl
        · rw [i64_nat (by omega), List.length_append, ints_len]; rfl
      · refine w_skip ?_
        repeat (first | refine w_seq ?_ | refine w_region env ?_ | refine wo_nil ?_ | (refine wo_gate ?_ ?_; rfl; refine wo_pure rfl rfl (fun _ => rfl) rfl rfl ?_) | refine wo_not rfl rfl ?_ | refine wo_max rfl rfl rfl rfl ?_ | refine wo_min rfl rfl rfl rfl ?_)
        refine ⟨j' - 1, [(86, _), (16, _), (17, _), (83, _), (82, _), (14, _), (13, _), (0, _), (2, _), (3, _), (4, _), (5, _)], by omega, (Sub.cons rfl (Sub.cons rfl (Sub.cons rfl (Sub.cons rfl (Sub.cons rfl (Sub.cons rfl (Sub.cons rfl (Sub.cons rfl (Sub.cons rfl (Sub.cons rfl (Sub.cons rfl (Sub.cons rfl Sub.nil)))))))))))), V4, a2, sg, st4, le4, hnil2, s + 1, by omega, ?_, ?_⟩
        · rw [signsOf_succ, hb, ← hsg]; simp
        · rw [i64_nat (by omega)]
    · have hs3 : s = 3 := by
        have : ¬ (s : Int) < 3 := by simpa using hge
        omega
      subst hs3
      refine w_exit ?_
      obtain ⟨V5, st5, le5, hat⟩ := frzAt st4 0 rfl (fun h => hnil2 (by cases sg with
        | nil => rfl
        | cons => cases h))
      repeat (first | refine w_seq ?_ | refine w_region env ?_ | refine wo_nil ?_ | (refine wo_gate ?_ ?_; rfl; refine wo_pure rfl rfl (fun _ => rfl) rfl rfl ?_) | refine wo_not rfl rfl ?_ | refine wo_max rfl rfl rfl rfl ?_ | refine wo_min rfl rfl rfl rfl ?_)
      refine wo_mkF st5 (cs := [.slice a2 sg.length sg.length]) 1 rfl rfl (fun _ => rfl) rfl rfl (fun iN V6 B6 st6 le6 f6 => ?_)
      refine wo_app1 st6 0 rfl rfl rfl f6 rfl (by simp) (by simp) rfl (by simp; omega) rfl rfl rfl rfl rfl rfl rfl rfl rfl rfl (fun a3 V7 B7 st7 le7 => ?_)
      repeat (first | refine w_seq ?_ | refine w_region env ?_ | refine wo_nil ?_ | (refine wo_gate ?_ ?_; rfl; refine wo_pure rfl rfl (fun _ => rfl) rfl rfl ?_) | refine wo_not rfl rfl ?_ | refine wo_max rfl rfl rfl rfl ?_ | refine wo_min rfl rfl rfl rfl ?_)
      refine ⟨j - 1, [(83, _), (82, _), (14, _), (13, _), (0, _), (2, _), (3, _), (4, _), (5, _)], by omega, (Sub.cons rfl (Sub.cons rfl (Sub.cons rfl (Sub.cons rfl (Sub.cons rfl (Sub.cons rfl (Sub.cons rfl (Sub.cons rfl (Sub.cons rfl Sub.nil))))))))), V7, a3, fs ++ [(a2, sg)], ?_, by simp, ?_, q + 1, by omega, ?_, le1.trans (le4.trans (le5.trans (le6.trans le7))), ?_⟩
      · rw [List.map_append]
        exact st7
      · intro g hg
        rcases List.mem_append.1 hg with hg | hg
        · exact (hacc g hg).le (le4.trans (le5.trans (le6.trans le7)))
        · simp at hg; subst hg; exact hat.le (le6.trans le7)
      · rw [List.take_add_one, List.map_append, List.map_append, hfs, hxq, hsg]; rfl
      · rw [i64_nat (by omega), List.length_append, List.length_map]; rfl
  · have hq : q = 2 := by
      have : ¬ (q : Int) < 2 := by simpa using hge
      omega
    subst hq
    refine w_exit ?_
    obtain ⟨⟨a1, f1⟩, ⟨a2, f2⟩, rfl⟩ : ∃ x y, fs = [x, y] := by
      match fs, hfl with
      | [x, y], _ => exact ⟨x, y, rfl⟩
    simp at hfs
    obtain ⟨rfl, rfl⟩ := hfs
    obtain ⟨V5, st5, le5, hat⟩ := frzAt st1 0 rfl (fun h => by cases h)
    exact k _ _ V5 a a1 a2 st5 (hV_ ▸ le1.trans le5) ⟨hat, (hacc (a1, _) (.head _)).le le5, (hacc (a2, _) (.tail _ (.head _))).le le5⟩ (Sub.cons rfl (Sub.cons rfl (Sub.cons rfl (Sub.cons rfl (Sub.cons rfl (Sub.cons rfl (Sub.cons rfl Sub.nil)))))))
end Go.Proofs.YtdjcbpicdnhciaaGreat
