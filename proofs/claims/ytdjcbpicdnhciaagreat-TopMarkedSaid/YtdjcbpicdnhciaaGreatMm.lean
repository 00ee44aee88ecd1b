/- The law's cells of a wall (TopMarked$1). -/
import Derived.Test.YtdjcbpicdnhciaaGreatMl
set_option linter.unusedVariables false
set_option linter.unusedSimpArgs false
open Go Go.Dx Go.Proofs
namespace Go.Proofs.YtdjcbpicdnhciaaGreat
set_option maxRecDepth 20000
-- NEW

/-- A hole, as the law gets it. -/
structure HoleS where
  mn : Int
  more : Int
  sg : Int

structure HoleS.Ok (h : HoleS) : Prop where
  a : 0 ≤ h.mn ∧ h.mn ≤ 255
  b : 0 ≤ h.more ∧ h.more ≤ 255
  c : 0 ≤ h.sg ∧ h.sg ≤ 255

def holeRow (h : HoleS) : List Value := [.int .u8 h.mn, .int .u8 h.more, .int .u8 h.sg]

/-- Bit s of a byte. -/
def bitB (z : Int) (s : Nat) : Bool := decide (z / 2 ^ s % 2 = 1)

def bitD (z : Int) (s : Int) : Bool := IntKind.wrap .u8 (BitVec.ofInt (IntKind.bits .u8) (z.fdiv (2 ^ (min s.toNat (IntKind.bits .u8)))) &&& BitVec.ofInt (IntKind.bits .u8) 1).toNat == 1

theorem bit_all : ((List.range 256).all fun z => (List.range 3).all fun s => bitD (Int.ofNat z) (Int.ofNat s) == bitB (Int.ofNat z) s) = true := by kernel_rfl

theorem bitD_eq {z : Int} (h : 0 ≤ z ∧ z ≤ 255) {s : Nat} (hs : s < 3) : bitD z s = bitB z s := by
  have := List.all_eq_true.1 bit_all z.toNat (List.mem_range.2 (by omega))
  have := List.all_eq_true.1 this s (List.mem_range.2 hs)
  have e : Int.ofNat z.toNat = z := by show (z.toNat : Int) = z; omega
  rw [e] at this
  simpa using this

def signsOf (z : Int) (n : Nat) : List Int := ((List.range n).filter (bitB z)).map (Int.ofNat)

theorem signsOf_succ (z : Int) (n : Nat) : signsOf z (n + 1) = signsOf z n ++ (if bitB z n then [Int.ofNat n] else []) := by
  simp only [signsOf, List.range_succ, List.filter_append, List.map_append]
  congr 1
  by_cases h : bitB z n <;> simp [h]

theorem signsOf_len (z : Int) (n : Nat) : (signsOf z n).length ≤ n := by
  simp only [signsOf, List.length_map]
  exact Nat.le_trans (List.length_filter_le _ _) (by simp)

def holeCell (h : HoleS) : CellS := ⟨h.mn % 3, h.mn % 3 + h.more % 3, signsOf h.sg 3⟩

theorem u8_mod {z : Int} (h : 0 ≤ z ∧ z ≤ 255) : dwrap .i64 (z.tmod 3) = z % 3 := by
  rw [Int.tmod_eq_emod_of_nonneg h.1, i64_small (by omega) (by omega)]

/-- F37 -/
theorem cellsL_fun {A : Hp} {a : Option Addr} {hs : List HoleS} {ca n : Nat} (ha : Sl A a 3 (hs.map holeRow)) (hca : hs.length ≤ ca) (hwa : Wel A a 3) (hok : ∀ h ∈ hs, h.Ok) (hn : n ≤ hs.length) (hn2 : n ≤ 60) :
    Fun Tryz.prog 37 [.slice a hs.length ca, .int .i64 n] A fun v B => ∃ a' rows, v = .slice a' rows.length rows.length ∧ Sl B a' 3 rows ∧ Wel B a' 3 ∧ CellsR B rows ((hs.take n).map holeCell) := by
  refine fun_walkV (fn := Tryz.f37) Tryz.func37 rfl rfl (fun V0 le0 st0 => ?_)
  replace hwa := hwa.le' le0
  replace ha := ha.le le0
  repeat (first | refine w_seq ?_ | refine w_region env ?_ | refine wo_nil ?_ | (refine wo_gate ?_ ?_; rfl; refine wo_pure rfl rfl (fun _ => rfl) rfl rfl ?_) | refine wo_not rfl rfl ?_ | refine wo_max rfl rfl rfl rfl ?_ | refine wo_min rfl rfl rfl rfl ?_)
  refine wo_slice (l := 0) (h := n) rfl (ha.le st0.le) (by simp) hca rfl rfl rfl rfl rfl rfl (hwa.le' st0.le) (dBound_eq rfl (by omega)) rfl (by omega) (by simpa using hn) (fun a1 ha1 _ _ => ?_)
  have ha1' : Sl V0 a1 3 (((hs.map holeRow).take n).drop 0) := ha1
  repeat (first | refine w_seq ?_ | refine w_region env ?_ | refine wo_nil ?_ | (refine wo_gate ?_ ?_; rfl; refine wo_pure rfl rfl (fun _ => rfl) rfl rfl ?_) | refine wo_not rfl rfl ?_ | refine wo_max rfl rfl rfl rfl ?_ | refine wo_min rfl rfl rfl rfl ?_)
  refine w_block ?_
  refine w_loop (fun j m' B => ∃ V a' rows, Sta V0 V B [.acc a' 3 rows] ∧ Le V0 V ∧ ∃ i : Nat, j + i = n ∧ CellsR V rows ((hs.take i).map holeCell) ∧
      m' = [(14, .int .i64 i), (13, .int .i64 n), (12, .slice a1 n (ca - 0)), (5, .slice a' rows.length rows.length)]) n
    (Sub.cons rfl (Sub.cons rfl (Sub.cons rfl (Sub.cons rfl Sub.nil)))) ⟨V0, none, [], st0.addAcc 3, .refl _, 0, by omega, CellsR.nil, rfl⟩ ?_
  rintro j m' B ⟨V, a', rows, st, le1, i, hji, hR, rfl⟩
  have hrl : rows.length = i := by have := hR.1; simp at this; omega
  repeat (first | refine w_seq ?_ | refine w_region env ?_ | refine wo_nil ?_ | (refine wo_gate ?_ ?_; rfl; refine wo_pure rfl rfl (fun _ => rfl) rfl rfl ?_) | refine wo_not rfl rfl ?_ | refine wo_max rfl rfl rfl rfl ?_ | refine wo_min rfl rfl rfl rfl ?_)
  refine w_cond _ rfl (fun hlt => ?_) (fun hge => ?_)
  · have hin : i < n := by simpa using hlt
    have hih : i < hs.length := by omega
    obtain ⟨oa, ob, oc⟩ := hok hs[i] (by simp)
    refine w_skip ?_
    refine w_seq (w_block ?_)
    repeat (first | refine w_seq ?_ | refine w_region env ?_ | refine wo_nil ?_ | (refine wo_gate ?_ ?_; rfl; refine wo_pure rfl rfl (fun _ => rfl) rfl rfl ?_) | refine wo_not rfl rfl ?_ | refine wo_max rfl rfl rfl rfl ?_ | refine wo_min rfl rfl rfl rfl ?_)
    refine wo_at (holeRow hs[i]) rfl (ha1'.le (le1.trans st.le)) rfl rfl rfl rfl rfl (by simp; omega) (by omega) (by simp [hin, hih]) (fun p hp => ?_)
    refine wo_loads rfl hp rfl rfl rfl rfl rfl rfl ?_
    refine wo_varsF st rfl (fun _ h => by cases h; rfl) rfl rfl rfl rfl rfl rfl rfl rfl rfl rfl rfl (fun i7 V1 B1 st1 le7 h7 => ?_)
    repeat (first | refine w_seq ?_ | refine w_region env ?_ | refine wo_nil ?_ | (refine wo_gate ?_ ?_; rfl; refine wo_pure rfl rfl (fun _ => rfl) rfl rfl ?_) | refine wo_not rfl rfl ?_ | refine wo_max rfl rfl rfl rfl ?_ | refine wo_min rfl rfl rfl rfl ?_ | refine wo_load rfl (h7.rdq st1.le 0 rfl) rfl rfl rfl rfl rfl ?_)
    rw [u8_mod oa]
    refine wo_varsO st1 rfl (fun _ h => by cases h; rfl) rfl rfl rfl rfl rfl rfl rfl rfl rfl rfl rfl (fun i8 V2 B2 st2 le8 => ?_)
    replace h7 := h7.le le8
    repeat (first | refine w_seq ?_ | refine w_region env ?_ | refine wo_nil ?_ | (refine wo_gate ?_ ?_; rfl; refine wo_pure rfl rfl (fun _ => rfl) rfl rfl ?_) | refine wo_not rfl rfl ?_ | refine wo_max rfl rfl rfl rfl ?_ | refine wo_min rfl rfl rfl rfl ?_ | refine wo_load rfl (h7.rdq st2.le 1 rfl) rfl rfl rfl rfl rfl ?_)
    refine wo_load rfl (rd_one (st2.obj (k := 0) rfl) rfl rfl) rfl rfl rfl rfl rfl ?_
    repeat (first | refine w_seq ?_ | refine w_region env ?_ | refine wo_nil ?_ | (refine wo_gate ?_ ?_; rfl; refine wo_pure rfl rfl (fun _ => rfl) rfl rfl ?_) | refine wo_not rfl rfl ?_ | refine wo_max rfl rfl rfl rfl ?_ | refine wo_min rfl rfl rfl rfl ?_ | refine wo_load rfl (h7.rdq st2.le 1 rfl) rfl rfl rfl rfl rfl ?_)
    rw [u8_mod ob, i64_small (by omega) (by omega)]
    refine wo_stO st2 0 rfl rfl rfl (by show 1 < 3; omega) (fun _ => rfl) rfl rfl rfl rfl rfl (fun B3 st3 => ?_)
    replace st3 : Sta V0 V2 B3 [.obj i8 ⟨[.int .i64 (hs[i].mn % 3), .int .i64 (hs[i].mn % 3 + hs[i].more % 3), .slice none 0 0], false, false, 1, 0⟩, .acc a' 3 rows] := st3
    repeat (first | refine w_seq ?_ | refine w_region env ?_ | refine wo_nil ?_ | (refine wo_gate ?_ ?_; rfl; refine wo_pure rfl rfl (fun _ => rfl) rfl rfl ?_) | refine wo_not rfl rfl ?_ | refine wo_max rfl rfl rfl rfl ?_ | refine wo_min rfl rfl rfl rfl ?_ | refine wo_load rfl (h7.rdq st3.le 1 rfl) rfl rfl rfl rfl rfl ?_)
    refine w_block ?_
    refine w_loop (fun j' m' B => ∃ V a2 sg, Sta V0 V B [.obj i8 ⟨[.int .i64 (hs[i].mn % 3), .int .i64 (hs[i].mn % 3 + hs[i].more % 3), .slice a2 sg.length sg.length], false, false, 1, 0⟩, .acc a2 1 (ints sg), .acc a' 3 rows] ∧ Le V2 V ∧ (sg = [] → a2 = none) ∧
        ∃ s : Nat, j' + s = 3 ∧ sg = signsOf hs[i].sg s ∧
        m' = [(31, .int .i64 s), (7, .pointer (some ⟨i7, 0, some 0⟩)), (8, .pointer (some ⟨i8, 0, some 0⟩)), (14, .int .i64 i), (13, .int .i64 n), (12, .slice a1 n (ca - 0)), (5, .slice a' rows.length rows.length)]) 3
      (Sub.cons rfl (Sub.cons rfl (Sub.cons rfl (Sub.cons rfl (Sub.cons rfl (Sub.cons rfl (Sub.cons rfl Sub.nil))))))) ⟨V2, none, [], st3.addAccs 1, .refl _, fun _ => rfl, 0, rfl, rfl, rfl⟩ ?_
    clear st3 st2 st1
    rintro j' m' B4 ⟨V4, a2, sg, st4, le4, hnil, s, hjs, hsg, rfl⟩
    have hsl : sg.length ≤ s := by rw [hsg]; exact signsOf_len _ _
    replace h7 := h7.le le4
    repeat (first | refine w_seq ?_ | refine w_region env ?_ | refine wo_nil ?_ | (refine wo_gate ?_ ?_; rfl; refine wo_pure rfl rfl (fun _ => rfl) rfl rfl ?_) | refine wo_not rfl rfl ?_ | refine wo_max rfl rfl rfl rfl ?_ | refine wo_min rfl rfl rfl rfl ?_)
    refine w_cond _ rfl (fun hlt => ?_) (fun hge => ?_)
    · have hs3 : s < 3 := by
        have : (s : Int) < 3 := by simpa using hlt
        omega
      refine w_skip ?_
      refine w_seq (w_block ?_)
      repeat (first | refine w_seq ?_ | refine w_region env ?_ | refine wo_nil ?_ | (refine wo_gate ?_ ?_; rfl; refine wo_pure rfl rfl (fun _ => rfl) rfl rfl ?_) | refine wo_not rfl rfl ?_ | refine wo_max rfl rfl rfl rfl ?_ | refine wo_min rfl rfl rfl rfl ?_ | refine wo_load rfl (h7.rdq st4.le 2 rfl) rfl rfl rfl rfl rfl ?_)
      refine w_cond (bitB hs[i].sg s) ?_ (fun hb => ?_) (fun hb => ?_)
      · rw [← bitD_eq oc hs3]; rfl
      · repeat (first | refine w_seq ?_ | refine w_region env ?_ | refine wo_nil ?_ | (refine wo_gate ?_ ?_; rfl; refine wo_pure rfl rfl (fun _ => rfl) rfl rfl ?_) | refine wo_not rfl rfl ?_ | refine wo_max rfl rfl rfl rfl ?_ | refine wo_min rfl rfl rfl rfl ?_ | refine wo_load rfl (h7.rdq st4.le 2 rfl) rfl rfl rfl rfl rfl ?_)
        refine wo_load rfl (rd_one (st4.obj (k := 0) rfl) rfl (q := 2) rfl) rfl rfl rfl rfl rfl ?_
        repeat (first | refine w_seq ?_ | refine w_region env ?_ | refine wo_nil ?_ | (refine wo_gate ?_ ?_; rfl; refine wo_pure rfl rfl (fun _ => rfl) rfl rfl ?_) | refine wo_not rfl rfl ?_ | refine wo_max rfl rfl rfl rfl ?_ | refine wo_min rfl rfl rfl rfl ?_ | refine wo_load rfl (h7.rdq st4.le 2 rfl) rfl rfl rfl rfl rfl ?_)
        refine wo_mkF st4 (cs := [.int .i64 s]) 1 rfl rfl (fun _ => rfl) rfl rfl (fun iN V5 B5 st5 le5 f5 => ?_)
        refine wo_app1 st5 1 rfl rfl rfl f5 rfl (ints_len _).symm (ints_len _).symm rfl (by rw [ints_len]; omega) rfl rfl rfl rfl rfl rfl rfl rfl rfl rfl (fun a3 V6 B6 st6 le6 => ?_)
        repeat (first | refine w_seq ?_ | refine w_region env ?_ | refine wo_nil ?_ | (refine wo_gate ?_ ?_; rfl; refine wo_pure rfl rfl (fun _ => rfl) rfl rfl ?_) | refine wo_not rfl rfl ?_ | refine wo_max rfl rfl rfl rfl ?_ | refine wo_min rfl rfl rfl rfl ?_ | refine wo_load rfl (h7.rdq st6.le 2 rfl) rfl rfl rfl rfl rfl ?_)
        refine wo_stO st6 0 rfl rfl rfl (by show 2 < 3; omega) (fun _ => rfl) rfl rfl rfl rfl rfl (fun B7 st7 => ?_)
        repeat (first | refine w_seq ?_ | refine w_region env ?_ | refine wo_nil ?_ | (refine wo_gate ?_ ?_; rfl; refine wo_pure rfl rfl (fun _ => rfl) rfl rfl ?_) | refine wo_not rfl rfl ?_ | refine wo_max rfl rfl rfl rfl ?_ | refine wo_min rfl rfl rfl rfl ?_ | refine wo_load rfl (h7.rdq st7.le 2 rfl) rfl rfl rfl rfl rfl ?_)
        refine ⟨j' - 1, [(31, _), (7, _), (8, _), (14, _), (13, _), (12, _), (5, _)], by omega, (Sub.cons rfl (Sub.cons rfl (Sub.cons rfl (Sub.cons rfl (Sub.cons rfl (Sub.cons rfl (Sub.cons rfl Sub.nil))))))), V6, a3, sg ++ [(s : Int)], ?_, le4.trans (le5.trans le6), by simp, s + 1, by omega, ?_, ?_⟩
        · rw [ints_app, List.length_append]
          rw [ints_len] at st7
          exact st7
        · rw [signsOf_succ, hb, ← hsg]; rfl
        · rw [i64_nat (by omega)]
      · refine w_skip ?_
        repeat (first | refine w_seq ?_ | refine w_region env ?_ | refine wo_nil ?_ | (refine wo_gate ?_ ?_; rfl; refine wo_pure rfl rfl (fun _ => rfl) rfl rfl ?_) | refine wo_not rfl rfl ?_ | refine wo_max rfl rfl rfl rfl ?_ | refine wo_min rfl rfl rfl rfl ?_ | refine wo_load rfl (h7.rdq st4.le 2 rfl) rfl rfl rfl rfl rfl ?_)
        refine ⟨j' - 1, [(31, _), (7, _), (8, _), (14, _), (13, _), (12, _), (5, _)], by omega, (Sub.cons rfl (Sub.cons rfl (Sub.cons rfl (Sub.cons rfl (Sub.cons rfl (Sub.cons rfl (Sub.cons rfl Sub.nil))))))), V4, a2, sg, st4, le4, hnil, s + 1, by omega, ?_, ?_⟩
        · rw [signsOf_succ, hb, ← hsg]; simp
        · rw [i64_nat (by omega)]
    · have hs3 : s = 3 := by
        have : ¬ (s : Int) < 3 := by simpa using hge
        omega
      subst hs3
      refine w_exit ?_
      obtain ⟨V5, st5, le5, hsl5, _⟩ := st4.frzAcc (k := 1) rfl
      repeat (first | refine w_seq ?_ | refine w_region env ?_ | refine wo_nil ?_ | (refine wo_gate ?_ ?_; rfl; refine wo_pure rfl rfl (fun _ => rfl) rfl rfl ?_) | refine wo_not rfl rfl ?_ | refine wo_max rfl rfl rfl rfl ?_ | refine wo_min rfl rfl rfl rfl ?_ | refine wo_load rfl (h7.rdq st5.le 2 rfl) rfl rfl rfl rfl rfl ?_)
      refine wo_loads rfl (rd_ver (st5.obj (k := 0) rfl) rfl _ 3 (Nat.le_of_ble_eq_true rfl)) rfl rfl rfl rfl rfl rfl ?_
      refine wo_mkF st5 (cs := [.int .i64 (hs[i].mn % 3), .int .i64 (hs[i].mn % 3 + hs[i].more % 3), .slice a2 sg.length sg.length]) 3 rfl rfl (fun _ => rfl) rfl rfl (fun iN V6 B6 st6 le6 f6 => ?_)
      refine wo_app1 st6 1 rfl rfl rfl f6 rfl rfl rfl rfl (by omega) rfl rfl rfl rfl rfl rfl rfl rfl rfl rfl (fun a3 V7 B7 st7 le7b => ?_)
      obtain ⟨V8, st8, le8b, _⟩ := st7.frzO 0 rfl
      replace st8 : Sta V0 V8 B7 [.acc a3 3 (rows ++ [[Value.int .i64 (hs[i].mn % 3), Value.int .i64 (hs[i].mn % 3 + hs[i].more % 3), Value.slice a2 sg.length sg.length]])] := st8
      repeat (first | refine w_seq ?_ | refine w_region env ?_ | refine wo_nil ?_ | (refine wo_gate ?_ ?_; rfl; refine wo_pure rfl rfl (fun _ => rfl) rfl rfl ?_) | refine wo_not rfl rfl ?_ | refine wo_max rfl rfl rfl rfl ?_ | refine wo_min rfl rfl rfl rfl ?_ | refine wo_load rfl (h7.rdq st8.le 2 rfl) rfl rfl rfl rfl rfl ?_)
      refine ⟨j - 1, [(14, _), (13, _), (12, _), (5, _)], by omega, (Sub.cons rfl (Sub.cons rfl (Sub.cons rfl (Sub.cons rfl Sub.nil)))), V8, a3, _, st8, le1.trans (le7.trans (le8.trans (le4.trans (le5.trans (le6.trans (le7b.trans le8b)))))), i + 1, by omega, ?_, ?_⟩
      · rw [show (hs.take (i + 1)).map holeCell = (hs.take i).map holeCell ++ [holeCell hs[i]] by rw [List.take_add_one, List.getElem?_eq_getElem hih]; simp only [Option.toList_some, List.map_append, List.map_cons, List.map_nil]]
        refine (hR.le (le7.trans (le8.trans (le4.trans (le5.trans (le6.trans (le7b.trans le8b))))))).snoc ⟨a2, sg.length, ?_, ?_, ?_⟩
        · rw [hsg]; rfl
        · have := hsl5.le (le6.trans (le7b.trans le8b))
          rw [hsg] at this
          exact this
        · intro h
          refine hnil ?_
          rw [hsg]; exact h
      · rw [i64_nat (by omega), List.length_append]; rfl
  · have hin : i = n := by
      have : ¬ (i : Int) < (n : Int) := by simpa using hge
      omega
    subst hin
    refine w_exit ?_
    repeat (first | refine w_seq ?_ | refine w_region env ?_ | refine wo_nil ?_ | (refine wo_gate ?_ ?_; rfl; refine wo_pure rfl rfl (fun _ => rfl) rfl rfl ?_) | refine wo_not rfl rfl ?_ | refine wo_max rfl rfl rfl rfl ?_ | refine wo_min rfl rfl rfl rfl ?_)
    exact w_ret ⟨.inr rfl, st.gr, _, rfl, a', rows, rfl, st.acc (k := 0) rfl, st.welAcc (k := 0) rfl, hR.le st.le⟩
end Go.Proofs.YtdjcbpicdnhciaaGreat
