/- The program's list of signs that the laws use is right. -/
import Derived.Test.YtdjcbpicdnhciaaGreatMc
set_option linter.unusedVariables false
set_option linter.unusedSimpArgs false
open Go Go.Dx Go.Proofs
namespace Go.Proofs.YtdjcbpicdnhciaaGreat
set_option maxRecDepth 20000

def signRow (s : ByteArray) : List Value := [.string s, .int .i64 1, .int .i64 1, .bool false, .slice none 0 0]

/-- The signs of the laws about walls, in memory. -/
def signs3 : List Value := signRow ⟨#[65, 49]⟩ ++ signRow ⟨#[66, 50]⟩ ++ signRow ⟨#[67, 51]⟩

def zeroInt : Value → Bool
  | .int .i64 n => n == 0
  | _ => false

theorem zeroInt_eq {v : Value} (h : zeroInt v = true) : v = .int .i64 0 := by
  unfold zeroInt at h
  split at h
  · simp at h; rw [h]
  · cases h

theorem check_run : (match runF eqTs Tryz.prog cuts 200 86 [.agg #[.int .i64 1, .slice (some ⟨0, 0, some 0⟩) 3 3]] [.cells ⟨signs3, true, false, 5, 0⟩] with
    | some (v, _) => zeroInt v
    | none => false) = true := by kernel_rfl

theorem check_ev : ∃ R, Ev Tryz.prog 86 [.agg #[.int .i64 1, .slice (some ⟨0, 0, some 0⟩) 3 3]] [.cells ⟨signs3, true, false, 5, 0⟩] (.int .i64 0) R := by
  have h := check_run
  split at h
  · rename_i v R hr
    rw [zeroInt_eq h] at hr
    exact ⟨R, ev_run env cuts_ok hr⟩
  · cases h

/-- The list of signs of the laws about walls. -/
def listV (i : Nat) : Value := .agg #[.int .i64 1, .slice (some ⟨i, 0, some 0⟩) 3 3]

def HasSigns (A : Hp) (i : Nat) : Prop := ∃ ro, A[i]? = some (.cells ⟨signs3, ro, false, 5, 0⟩)

theorem HasSigns.ro {A : Hp} {i : Nat} (h : HasSigns A i) : HasSigns (roH A) i := by
  obtain ⟨ro, h⟩ := h
  exact ⟨true, by rw [roH_at, h]; rfl⟩

theorem HasSigns.pre {A B : Hp} (hp : Pre A B) {i : Nat} (h : HasSigns A i) : HasSigns B i := by
  obtain ⟨ro, h⟩ := h
  exact ⟨ro, hp.at h⟩

theorem signs_flat : ∀ x ∈ signs3, flat x = true := by
  intro x hx
  have : (signs3.all flat) = true := by kernel_rfl
  exact List.all_eq_true.1 this x hx

/-- F86 -/
theorem signs_fun {A : Hp} {i : Nat} (h : HasSigns A i) : Fun Tryz.prog 86 [listV i] A fun v _ => v = .int .i64 0 := by
  obtain ⟨R, hR⟩ := check_ev
  obtain ⟨ro, h⟩ := h.ro
  refine ⟨.int .i64 0, [], ?_, .nil, rfl⟩
  rw [List.append_nil]
  refine ev_plain (ρ := fun j => if j = 0 then some (i, 0, 0) else none) hR ?_ ?_ ?_ (fun _ => .same _ rfl)
  · intro j o ho
    cases j with
    | zero => simp at ho; subst ho; rfl
    | succ j => simp at ho
  · intro j j' v u hj
    split at hj
    · rename_i hj0; subst hj0; cases hj
      exact ⟨_, _, rfl, h, Maps.same signs_flat, rfl, rfl, rfl, rfl⟩
    · cases hj
  · exact Maps.cons (VMap.agg' (Maps.cons (.same _ rfl) (Maps.cons (.slice 0 i 0 0 0 3 3 (by simp)) Maps.nil))) Maps.nil

/-- F36 -/
theorem wallCheck_fun {A : Hp} {i : Nat} {a : Option Addr} {rows : List (List Value)} {cs : List CellS} {ca : Nat} (hs : HasSigns A i) (ha : Sl A a 3 rows) (hr : CellsR A rows cs) (hok : ∀ c ∈ cs, CellOK' 3 c) (hlen : cs.length ≤ 6) :
    Fun Tryz.prog 36 [listV i, .slice a rows.length ca] A fun v _ => v = .int .i64 0 := by
  replace hs := hs.ro
  replace ha := ha.ro
  replace hr := hr.ro
  refine fun_walk (fn := Tryz.f36) Tryz.func36 rfl rfl ?_
  refine w_seq (w_region env ?_)
  refine wo_alloc (b := ⟨[.int .i64 1, .slice (some ⟨i, 0, some 0⟩) 3 3], false, false, 1, 0⟩) rfl rfl (fun _ => rfl) rfl rfl rfl (fun i1 B1 ⟨h1, g1, q1, p1, _, _⟩ => ?_)
  have hg1 := (g1 _ (.refl _)).1
  repeat (first | refine w_seq ?_ | refine w_region env ?_ | refine wo_nil ?_ | refine wo_max rfl rfl rfl rfl ?_ | refine wo_min rfl rfl rfl rfl ?_ | refine wo_pure rfl rfl (fun _ => rfl) rfl rfl ?_ | refine wo_not rfl rfl ?_ | refine wo_load rfl (rd_ver (by assumption) rfl _ 1 (Nat.le_of_ble_eq_true rfl)) rfl rfl rfl rfl rfl ?_)
  refine wo_loads rfl (rd_ver h1 rfl _ 2 (Nat.le_of_ble_eq_true rfl)) rfl rfl rfl rfl rfl rfl ?_
  refine wo_call1 (signs_fun (hs.pre p1)) rfl rfl rfl ?_
  rintro v r hr1 rfl
  have hg2 := hg1.app hr1
  have h2 := at_app h1 r
  have p2 : Pre (roH A) (B1 ++ r) := p1.app r
  repeat (first | refine w_seq ?_ | refine w_region env ?_ | refine wo_nil ?_ | refine wo_max rfl rfl rfl rfl ?_ | refine wo_min rfl rfl rfl rfl ?_ | refine wo_pure rfl rfl (fun _ => rfl) rfl rfl ?_ | refine wo_not rfl rfl ?_ | refine wo_load rfl (rd_ver (by assumption) rfl _ 1 (Nat.le_of_ble_eq_true rfl)) rfl rfl rfl rfl rfl ?_)
  refine w_cond _ rfl (fun h => by cases h) (fun _ => ?_)
  refine w_skip ?_
  repeat (first | refine w_seq ?_ | refine w_region env ?_ | refine wo_nil ?_ | refine wo_max rfl rfl rfl rfl ?_ | refine wo_min rfl rfl rfl rfl ?_ | refine wo_pure rfl rfl (fun _ => rfl) rfl rfl ?_ | refine wo_not rfl rfl ?_ | refine wo_load rfl (rd_ver (by assumption) rfl _ 1 (Nat.le_of_ble_eq_true rfl)) rfl rfl rfl rfl rfl ?_)
  refine wo_call1 (right_fun (n := 3) (ha.pre p2) (hr.pre p2) hok (by omega) hlen) rfl rfl rfl ?_
  rintro v r2 hr2 rfl
  have hg3 := hg2.app hr2
  repeat (first | refine w_seq ?_ | refine w_region env ?_ | refine wo_nil ?_ | refine wo_max rfl rfl rfl rfl ?_ | refine wo_min rfl rfl rfl rfl ?_ | refine wo_pure rfl rfl (fun _ => rfl) rfl rfl ?_ | refine wo_not rfl rfl ?_ | refine wo_load rfl (rd_ver (by assumption) rfl _ 1 (Nat.le_of_ble_eq_true rfl)) rfl rfl rfl rfl rfl ?_)
  refine w_cond _ rfl (fun h => by cases h) (fun _ => ?_)
  refine w_skip ?_
  repeat (first | refine w_seq ?_ | refine w_region env ?_ | refine wo_nil ?_ | refine wo_max rfl rfl rfl rfl ?_ | refine wo_min rfl rfl rfl rfl ?_ | refine wo_pure rfl rfl (fun _ => rfl) rfl rfl ?_ | refine wo_not rfl rfl ?_ | refine wo_load rfl (rd_ver (by assumption) rfl _ 1 (Nat.le_of_ble_eq_true rfl)) rfl rfl rfl rfl rfl ?_)
  exact w_ret ⟨.inr rfl, hg3, _, rfl, rfl⟩
end Go.Proofs.YtdjcbpicdnhciaaGreat
