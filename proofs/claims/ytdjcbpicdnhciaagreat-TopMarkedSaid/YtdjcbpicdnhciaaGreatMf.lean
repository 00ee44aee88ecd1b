/- The program's walls: what two cells have in common; whether a cell allows a sign. -/
import Derived.Test.YtdjcbpicdnhciaaGreatMe
set_option linter.unusedVariables false
set_option linter.unusedSimpArgs false
open Go Go.Dx Go.Proofs
namespace Go.Proofs.YtdjcbpicdnhciaaGreat
set_option maxRecDepth 20000

def allowsS (c : CellS) (s : Int) : Bool := decide (c.sg = []) || decide (s ∈ c.sg)

/-- F153 -/
theorem allows_fun {A : Hp} {row : List Value} {c : CellS} {s : Int} (hr : CellR A row c) (hlen : c.sg.length ≤ 1000) :
    Fun Tryz.prog 153 [.agg ⟨row⟩, .int .i64 s] A fun v _ => v = .bool (allowsS c s) := by
  obtain ⟨sa, sc, rfl, hsg, hnil⟩ := hr
  replace hsg := hsg.ro
  refine fun_walk (fn := Tryz.f153) Tryz.func153 rfl rfl ?_
  refine w_seq (w_region env ?_)
  refine wo_alloc (b := ⟨[.int .i64 c.mn, .int .i64 c.mx, .slice sa c.sg.length sc], false, false, 1, 0⟩) rfl rfl (fun _ => rfl) rfl rfl rfl (fun i1 B1 ⟨h1, g1, q1, p1, _, _⟩ => ?_)
  have hg1 := (g1 _ (.refl _)).1
  repeat (first | refine w_seq ?_ | refine w_region env ?_ | refine wo_nil ?_ | refine wo_max rfl rfl rfl rfl ?_ | refine wo_min rfl rfl rfl rfl ?_ | refine wo_pure rfl rfl (fun _ => rfl) rfl rfl ?_ | refine wo_not rfl rfl ?_ | refine wo_load rfl (rd_ver (by assumption) rfl _ 1 (Nat.le_of_ble_eq_true rfl)) rfl rfl rfl rfl rfl ?_)
  cases h0 : ((c.sg.length : Int) == 0) with
  | true =>
    repeat (first | refine w_seq ?_ | refine w_region env ?_ | refine wo_nil ?_ | refine wo_max rfl rfl rfl rfl ?_ | refine wo_min rfl rfl rfl rfl ?_ | refine wo_pure rfl rfl (fun _ => rfl) rfl rfl ?_ | refine wo_not rfl rfl ?_ | refine wo_load rfl (rd_ver (by assumption) rfl _ 1 (Nat.le_of_ble_eq_true rfl)) rfl rfl rfl rfl rfl ?_)
    refine w_ret ⟨.inr rfl, hg1, _, rfl, ?_⟩
    have : c.sg = [] := by simpa using h0
    simp [oneOf, allowsS, this]
  | false =>
    repeat (first | refine w_seq ?_ | refine w_region env ?_ | refine wo_nil ?_ | refine wo_max rfl rfl rfl rfl ?_ | refine wo_min rfl rfl rfl rfl ?_ | refine wo_pure rfl rfl (fun _ => rfl) rfl rfl ?_ | refine wo_not rfl rfl ?_ | refine wo_load rfl (rd_ver (by assumption) rfl _ 1 (Nat.le_of_ble_eq_true rfl)) rfl rfl rfl rfl rfl ?_)
    refine wo_call1 (contains_fun (hsg.pre p1) (by omega)) rfl rfl rfl ?_
    rintro v r hr rfl
    repeat (first | refine w_seq ?_ | refine w_region env ?_ | refine wo_nil ?_ | refine wo_max rfl rfl rfl rfl ?_ | refine wo_min rfl rfl rfl rfl ?_ | refine wo_pure rfl rfl (fun _ => rfl) rfl rfl ?_ | refine wo_not rfl rfl ?_ | refine wo_load rfl (rd_ver (by assumption) rfl _ 1 (Nat.le_of_ble_eq_true rfl)) rfl rfl rfl rfl rfl ?_)
    refine w_ret ⟨.inr rfl, hg1.app hr, _, rfl, ?_⟩
    have : c.sg ≠ [] := by simpa using h0
    simp [oneOf, allowsS, this]

/-- What two cells have in common. -/
def meetS (a b : CellS) : CellS × Bool :=
  if max a.mn b.mn > min a.mx b.mx then (⟨0, 0, []⟩, false)
  else if a.sg = [] then (⟨max a.mn b.mn, min a.mx b.mx, b.sg⟩, true)
  else if b.sg = [] then (⟨max a.mn b.mn, min a.mx b.mx, a.sg⟩, true)
  else if a.sg.filter (fun s => decide (s ∈ b.sg)) = [] then (⟨0, 0, a.sg⟩, decide (max a.mn b.mn = 0))
  else (⟨max a.mn b.mn, min a.mx b.mx, a.sg.filter (fun s => decide (s ∈ b.sg))⟩, true)

theorem filter_take {xs : List Int} {p : Int → Bool} {i : Nat} (h : i < xs.length) : (xs.take (i + 1)).filter p = (xs.take i).filter p ++ (if p xs[i] then [xs[i]] else []) := by
  rw [List.take_add_one, List.filter_append]
  simp [h]
  split <;> simp_all

theorem ints_app (xs ys : List Int) : ints (xs ++ ys) = ints xs ++ ints ys := by simp [ints]

/-- F92 -/
theorem meet_fun {A : Hp} {ra rb : List Value} {a b : CellS} (ha : CellR A ra a) (hb : CellR A rb b) (hla : a.sg.length ≤ 1000) (hlb : b.sg.length ≤ 1000) :
    Fun Tryz.prog 92 [.agg ⟨ra⟩, .agg ⟨rb⟩] A fun v B => ∃ row, v = .tuple #[.agg ⟨row⟩, .bool (meetS a b).2] ∧ row.length = 3 ∧ row.all isCell = true ∧ ((meetS a b).2 = true → CellR B row (meetS a b).1) := by
  obtain ⟨sa, sc, rfl, hsa, hna⟩ := ha
  obtain ⟨sb, sd, rfl, hsb, hnb⟩ := hb
  replace hsa := hsa.ro
  replace hsb := hsb.ro
  refine fun_walk (fn := Tryz.f92) Tryz.func92 rfl rfl ?_
  refine w_seq (w_region env ?_)
  refine wo_alloc (b := ⟨[.int .i64 a.mn, .int .i64 a.mx, .slice sa a.sg.length sc], false, false, 1, 0⟩) rfl rfl (fun _ => rfl) rfl rfl rfl (fun i1 B1 ⟨h1, g1, q1, p1, x1, l1⟩ => ?_)
  refine wo_alloc (b := ⟨[.int .i64 b.mn, .int .i64 b.mx, .slice sb b.sg.length sd], false, false, 1, 0⟩) rfl rfl (fun _ => rfl) rfl rfl rfl (fun i2 B2 ⟨h2, g2, q2, p2, x2, l2⟩ => ?_)
  refine wo_alloc (b := ⟨[.int .i64 0, .int .i64 0, .slice none 0 0], false, false, 1, 0⟩) rfl rfl (fun _ => rfl) rfl rfl rfl (fun i3 B3 ⟨h3, g3, q3, p3, x3, l3⟩ => ?_)
  have hg3 := (g3 _ (g2 _ (g1 _ (.refl _)).1).1).1
  have h12 := (q3 _ _ (q2 _ _ h1).1).1
  have h22 := (q3 _ _ h2).1
  have d13 : i1 ≠ i3 := by omega
  have d23 : i2 ≠ i3 := by omega
  clear q1 q2 q3 h1 h2
  repeat (first | refine w_seq ?_ | refine w_region env ?_ | refine wo_nil ?_ | refine wo_max rfl rfl rfl rfl ?_ | refine wo_min rfl rfl rfl rfl ?_ | refine wo_pure rfl rfl (fun _ => rfl) rfl rfl ?_ | refine wo_not rfl rfl ?_ | refine wo_load rfl (rd_ver h12 rfl _ 1 (Nat.le_of_ble_eq_true rfl)) rfl rfl rfl rfl rfl ?_ | refine wo_load rfl (rd_ver h22 rfl _ 1 (Nat.le_of_ble_eq_true rfl)) rfl rfl rfl rfl rfl ?_ | refine wo_load rfl (rd_ver h3 rfl _ 1 (Nat.le_of_ble_eq_true rfl)) rfl rfl rfl rfl rfl ?_)
  refine wo_put (cs := [.int .i64 (max a.mn b.mn), .int .i64 (min a.mx b.mx), .slice none 0 0]) rfl rfl h3 (fun _ => rfl) rfl rfl rfl rfl rfl rfl (fun B4 ⟨h4, g4, q4, l4⟩ => ?_)
  have hg4 := g4 _ hg3 (by omega)
  have h14 := q4 _ _ d13 h12
  have h24 := q4 _ _ d23 h22
  clear h3 h12 h22 q4
  repeat (first | refine w_seq ?_ | refine w_region env ?_ | refine wo_nil ?_ | refine wo_max rfl rfl rfl rfl ?_ | refine wo_min rfl rfl rfl rfl ?_ | refine wo_pure rfl rfl (fun _ => rfl) rfl rfl ?_ | refine wo_not rfl rfl ?_ | refine wo_load rfl (rd_ver h4 rfl _ 1 (Nat.le_of_ble_eq_true rfl)) rfl rfl rfl rfl rfl ?_ | refine wo_load rfl (rd_ver h14 rfl _ 1 (Nat.le_of_ble_eq_true rfl)) rfl rfl rfl rfl rfl ?_ | refine wo_load rfl (rd_ver h24 rfl _ 1 (Nat.le_of_ble_eq_true rfl)) rfl rfl rfl rfl rfl ?_)
  refine w_cond _ rfl (fun hgt => ?_) (fun hle => ?_)
  · have hm : meetS a b = (⟨0, 0, []⟩, false) := by simp only [meetS]; rw [if_pos (by simpa using hgt)]
    repeat (first | refine w_seq ?_ | refine w_region env ?_ | refine wo_nil ?_ | refine wo_max rfl rfl rfl rfl ?_ | refine wo_min rfl rfl rfl rfl ?_ | refine wo_pure rfl rfl (fun _ => rfl) rfl rfl ?_ | refine wo_not rfl rfl ?_ | refine wo_load rfl (rd_ver h4 rfl _ 1 (Nat.le_of_ble_eq_true rfl)) rfl rfl rfl rfl rfl ?_)
    refine wo_loads rfl (rd_ver h4 rfl _ 3 (Nat.le_of_ble_eq_true rfl)) rfl rfl rfl rfl rfl rfl ?_
    refine wo_put (cs := [.int .i64 (max a.mn b.mn), .int .i64 (min a.mx b.mx), .slice none 0 0]) rfl rfl h4 (fun _ => rfl) rfl rfl rfl rfl rfl rfl (fun B5 ⟨h5, g5, q5, l5⟩ => ?_)
    have hg5 := g5 _ hg4 (by omega)
    repeat (first | refine w_seq ?_ | refine w_region env ?_ | refine wo_nil ?_ | refine wo_max rfl rfl rfl rfl ?_ | refine wo_min rfl rfl rfl rfl ?_ | refine wo_pure rfl rfl (fun _ => rfl) rfl rfl ?_ | refine wo_not rfl rfl ?_ | refine wo_load rfl (rd_ver h5 rfl _ 1 (Nat.le_of_ble_eq_true rfl)) rfl rfl rfl rfl rfl ?_)
    refine w_ret ⟨.inr rfl, hg5, _, ress_cell rfl (rd_ver h5 rfl _ 3 (Nat.le_of_ble_eq_true rfl)) rfl rfl rfl rfl rfl, _, by rw [hm]; rfl, rfl, rfl, ?_⟩
    rw [hm]
    exact fun h => by cases h
  · have hle' : ¬ (max a.mn b.mn > min a.mx b.mx) := by simpa using hle
    refine w_skip ?_
    refine w_seq (w_block ?_)
    repeat (first | refine w_seq ?_ | refine w_region env ?_ | refine wo_nil ?_ | refine wo_max rfl rfl rfl rfl ?_ | refine wo_min rfl rfl rfl rfl ?_ | refine wo_pure rfl rfl (fun _ => rfl) rfl rfl ?_ | refine wo_not rfl rfl ?_ | refine wo_load rfl (rd_ver h14 rfl _ 1 (Nat.le_of_ble_eq_true rfl)) rfl rfl rfl rfl rfl ?_)
    refine w_cond _ rfl (fun h0 => ?_) (fun h0 => ?_)
    · -- the first cell allows all signs
      have ha0 : a.sg = [] := by simpa using h0
      have hm : meetS a b = (⟨max a.mn b.mn, min a.mx b.mx, b.sg⟩, true) := by simp only [meetS]; rw [if_neg hle', if_pos ha0]
      repeat (first | refine w_seq ?_ | refine w_region env ?_ | refine wo_nil ?_ | refine wo_max rfl rfl rfl rfl ?_ | refine wo_min rfl rfl rfl rfl ?_ | refine wo_pure rfl rfl (fun _ => rfl) rfl rfl ?_ | refine wo_not rfl rfl ?_ | refine wo_load rfl (rd_ver h24 rfl _ 1 (Nat.le_of_ble_eq_true rfl)) rfl rfl rfl rfl rfl ?_)
      refine wo_call1 (clone_fun (hsb.pre hg4.pre) (by omega) hnb) rfl rfl rfl ?_
      rintro v r hr ⟨sa', cap', rfl, hs', hn', hf'⟩
      have h5 := at_app h4 r
      have hg5 := hg4.app hr
      repeat (first | refine w_seq ?_ | refine w_region env ?_ | refine wo_nil ?_ | refine wo_max rfl rfl rfl rfl ?_ | refine wo_min rfl rfl rfl rfl ?_ | refine wo_pure rfl rfl (fun _ => rfl) rfl rfl ?_ | refine wo_not rfl rfl ?_ | refine wo_load rfl (rd_ver (by assumption) rfl _ 1 (Nat.le_of_ble_eq_true rfl)) rfl rfl rfl rfl rfl ?_)
      refine wo_put (cs := [.int .i64 (max a.mn b.mn), .int .i64 (min a.mx b.mx), .slice sa' b.sg.length cap']) rfl rfl h5 (fun _ => rfl) rfl rfl rfl rfl rfl rfl (fun B6 z6 => ?_)
      have ⟨h6, g6, q6, l6⟩ := z6
      have hg6 := g6 _ hg5 (by omega)
      repeat (first | refine w_seq ?_ | refine w_region env ?_ | refine wo_nil ?_ | refine wo_max rfl rfl rfl rfl ?_ | refine wo_min rfl rfl rfl rfl ?_ | refine wo_pure rfl rfl (fun _ => rfl) rfl rfl ?_ | refine wo_not rfl rfl ?_ | refine wo_load rfl (rd_ver (by assumption) rfl _ 1 (Nat.le_of_ble_eq_true rfl)) rfl rfl rfl rfl rfl ?_)
      refine wo_loads rfl (rd_ver h6 rfl _ 3 (Nat.le_of_ble_eq_true rfl)) rfl rfl rfl rfl rfl rfl ?_
      refine wo_put (cs := [.int .i64 (max a.mn b.mn), .int .i64 (min a.mx b.mx), .slice sa' b.sg.length cap']) rfl rfl h6 (fun _ => rfl) rfl rfl rfl rfl rfl rfl (fun B7 z7 => ?_)
      have ⟨h7, g7, q7, l7⟩ := z7
      have hg7 := g7 _ hg6 (by omega)
      repeat (first | refine w_seq ?_ | refine w_region env ?_ | refine wo_nil ?_ | refine wo_max rfl rfl rfl rfl ?_ | refine wo_min rfl rfl rfl rfl ?_ | refine wo_pure rfl rfl (fun _ => rfl) rfl rfl ?_ | refine wo_not rfl rfl ?_ | refine wo_load rfl (rd_ver (by assumption) rfl _ 1 (Nat.le_of_ble_eq_true rfl)) rfl rfl rfl rfl rfl ?_)
      refine w_ret ⟨.inr rfl, hg7, _, ress_cell rfl (rd_ver h7 rfl _ 3 (Nat.le_of_ble_eq_true rfl)) rfl rfl rfl rfl rfl, _, by rw [hm]; rfl, rfl, rfl, ?_⟩
      rw [hm]
      intro _
      exact ⟨sa', cap', rfl, (hs'.unro.upd z6 hf' (by omega)).upd z7 hf' (by omega), hn'⟩
    · have ha0 : a.sg ≠ [] := fun h => by simp [h] at h0
      repeat (first | refine w_seq ?_ | refine w_region env ?_ | refine wo_nil ?_ | refine wo_max rfl rfl rfl rfl ?_ | refine wo_min rfl rfl rfl rfl ?_ | refine wo_pure rfl rfl (fun _ => rfl) rfl rfl ?_ | refine wo_not rfl rfl ?_ | refine wo_load rfl (rd_ver h24 rfl _ 1 (Nat.le_of_ble_eq_true rfl)) rfl rfl rfl rfl rfl ?_)
      refine w_cond _ rfl (fun h1 => ?_) (fun h1 => ?_)
      · -- the second cell allows all signs
        have hb0 : b.sg = [] := by simpa using h1
        have hm : meetS a b = (⟨max a.mn b.mn, min a.mx b.mx, a.sg⟩, true) := by simp only [meetS]; rw [if_neg hle', if_neg ha0, if_pos hb0]
        repeat (first | refine w_seq ?_ | refine w_region env ?_ | refine wo_nil ?_ | refine wo_max rfl rfl rfl rfl ?_ | refine wo_min rfl rfl rfl rfl ?_ | refine wo_pure rfl rfl (fun _ => rfl) rfl rfl ?_ | refine wo_not rfl rfl ?_ | refine wo_load rfl (rd_ver h14 rfl _ 1 (Nat.le_of_ble_eq_true rfl)) rfl rfl rfl rfl rfl ?_)
        refine wo_call1 (clone_fun (hsa.pre hg4.pre) (by omega) hna) rfl rfl rfl ?_
        rintro v r hr ⟨sa', cap', rfl, hs', hn', hf'⟩
        have h5 := at_app h4 r
        have hg5 := hg4.app hr
        repeat (first | refine w_seq ?_ | refine w_region env ?_ | refine wo_nil ?_ | refine wo_max rfl rfl rfl rfl ?_ | refine wo_min rfl rfl rfl rfl ?_ | refine wo_pure rfl rfl (fun _ => rfl) rfl rfl ?_ | refine wo_not rfl rfl ?_ | refine wo_load rfl (rd_ver (by assumption) rfl _ 1 (Nat.le_of_ble_eq_true rfl)) rfl rfl rfl rfl rfl ?_)
        refine wo_put (cs := [.int .i64 (max a.mn b.mn), .int .i64 (min a.mx b.mx), .slice sa' a.sg.length cap']) rfl rfl h5 (fun _ => rfl) rfl rfl rfl rfl rfl rfl (fun B6 z6 => ?_)
        have ⟨h6, g6, q6, l6⟩ := z6
        have hg6 := g6 _ hg5 (by omega)
        repeat (first | refine w_seq ?_ | refine w_region env ?_ | refine wo_nil ?_ | refine wo_max rfl rfl rfl rfl ?_ | refine wo_min rfl rfl rfl rfl ?_ | refine wo_pure rfl rfl (fun _ => rfl) rfl rfl ?_ | refine wo_not rfl rfl ?_ | refine wo_load rfl (rd_ver (by assumption) rfl _ 1 (Nat.le_of_ble_eq_true rfl)) rfl rfl rfl rfl rfl ?_)
        refine wo_loads rfl (rd_ver h6 rfl _ 3 (Nat.le_of_ble_eq_true rfl)) rfl rfl rfl rfl rfl rfl ?_
        refine wo_put (cs := [.int .i64 (max a.mn b.mn), .int .i64 (min a.mx b.mx), .slice sa' a.sg.length cap']) rfl rfl h6 (fun _ => rfl) rfl rfl rfl rfl rfl rfl (fun B7 z7 => ?_)
        have ⟨h7, g7, q7, l7⟩ := z7
        have hg7 := g7 _ hg6 (by omega)
        repeat (first | refine w_seq ?_ | refine w_region env ?_ | refine wo_nil ?_ | refine wo_max rfl rfl rfl rfl ?_ | refine wo_min rfl rfl rfl rfl ?_ | refine wo_pure rfl rfl (fun _ => rfl) rfl rfl ?_ | refine wo_not rfl rfl ?_ | refine wo_load rfl (rd_ver (by assumption) rfl _ 1 (Nat.le_of_ble_eq_true rfl)) rfl rfl rfl rfl rfl ?_)
        refine w_ret ⟨.inr rfl, hg7, _, ress_cell rfl (rd_ver h7 rfl _ 3 (Nat.le_of_ble_eq_true rfl)) rfl rfl rfl rfl rfl, _, by rw [hm]; rfl, rfl, rfl, ?_⟩
        rw [hm]
        intro _
        exact ⟨sa', cap', rfl, (hs'.unro.upd z6 hf' (by omega)).upd z7 hf' (by omega), hn'⟩
      · have hb0 : b.sg ≠ [] := fun h => by simp [h] at h1
        repeat (first | refine w_seq ?_ | refine w_region env ?_ | refine wo_nil ?_ | refine wo_max rfl rfl rfl rfl ?_ | refine wo_min rfl rfl rfl rfl ?_ | refine wo_pure rfl rfl (fun _ => rfl) rfl rfl ?_ | refine wo_not rfl rfl ?_ | refine wo_load rfl (rd_ver h14 rfl _ 1 (Nat.le_of_ble_eq_true rfl)) rfl rfl rfl rfl rfl ?_)
        refine w_block ?_
        refine w_loop (fun j m' B => Gr (roH A) B ∧ B4.length ≤ B.length ∧ B[i1]? = some (.cells ⟨[.int .i64 a.mn, .int .i64 a.mx, .slice sa a.sg.length sc], false, false, 1, 0⟩) ∧ B[i2]? = some (.cells ⟨[.int .i64 b.mn, .int .i64 b.mx, .slice sb b.sg.length sd], false, false, 1, 0⟩) ∧
          ∃ (i : Nat) (o : Option Nat) (ao : Option Addr), j + i = a.sg.length ∧ Own B o ao 1 (ints ((a.sg.take i).filter (fun s => decide (s ∈ b.sg)))) ∧ (∀ q, o = some q → i3 < q) ∧
            B[i3]? = some (.cells ⟨[.int .i64 (max a.mn b.mn), .int .i64 (min a.mx b.mx), .slice ao (ints ((a.sg.take i).filter (fun s => decide (s ∈ b.sg)))).length (ints ((a.sg.take i).filter (fun s => decide (s ∈ b.sg)))).length], false, false, 1, 0⟩) ∧
            m' = [(28, .int .i64 i), (27, .int .i64 a.sg.length), (26, .slice sa a.sg.length sc), (2, .pointer (some ⟨i1, 0, some 0⟩)), (3, .pointer (some ⟨i2, 0, some 0⟩)), (4, .pointer (some ⟨i3, 0, some 0⟩))]) a.sg.length
          (Sub.cons rfl (Sub.cons rfl (Sub.cons rfl (Sub.cons rfl (Sub.cons rfl (Sub.cons rfl Sub.nil)))))) ⟨hg4, Nat.le_refl _, h14, h24, 0, none, none, by omega, own_nil, (fun q h => by cases h), h4, rfl⟩ ?_
        clear hg4 h14 h24 h4
        rintro j m' B ⟨hg4, lB, h14, h24, i, o, ao, hji, hown, hoi, h4, rfl⟩
        repeat (first | refine w_seq ?_ | refine w_region env ?_ | refine wo_nil ?_ | refine wo_max rfl rfl rfl rfl ?_ | refine wo_min rfl rfl rfl rfl ?_ | refine wo_pure rfl rfl (fun _ => rfl) rfl rfl ?_ | refine wo_not rfl rfl ?_ | refine wo_load rfl (rd_ver (by assumption) rfl _ 1 (Nat.le_of_ble_eq_true rfl)) rfl rfl rfl rfl rfl ?_)
        refine w_cond _ rfl ?_ ?_
        · intro hlt
          have hix : i < a.sg.length := by simpa using hlt
          refine w_skip ?_
          refine w_seq (w_block ?_)
          repeat (first | refine w_seq ?_ | refine w_region env ?_ | refine wo_nil ?_ | refine wo_max rfl rfl rfl rfl ?_ | refine wo_min rfl rfl rfl rfl ?_ | refine wo_pure rfl rfl (fun _ => rfl) rfl rfl ?_ | refine wo_not rfl rfl ?_ | refine wo_load rfl (rd_ver (by assumption) rfl _ 1 (Nat.le_of_ble_eq_true rfl)) rfl rfl rfl rfl rfl ?_)
          refine wo_at _ rfl (hsa.pre hg4.pre) rfl rfl rfl rfl rfl (ints_len _).symm (by omega) (ints_get (by simpa using hix)) (fun p hp => ?_)
          refine wo_load rfl hp rfl rfl rfl rfl rfl ?_
          repeat (first | refine w_seq ?_ | refine w_region env ?_ | refine wo_nil ?_ | refine wo_max rfl rfl rfl rfl ?_ | refine wo_min rfl rfl rfl rfl ?_ | refine wo_pure rfl rfl (fun _ => rfl) rfl rfl ?_ | refine wo_not rfl rfl ?_ | refine wo_load rfl (rd_ver h24 rfl _ 1 (Nat.le_of_ble_eq_true rfl)) rfl rfl rfl rfl rfl ?_)
          refine wo_call1 (contains_fun (hsb.pre hg4.pre) (by omega)) rfl rfl rfl ?_
          rintro v r hr rfl
          have hg5 := hg4.app hr
          have h15 := at_app h14 r
          have h25 := at_app h24 r
          have h35 := at_app h4 r
          have ho5 := hown.app r
          have lB5 : B.length ≤ (B ++ r).length := by simp
          generalize B ++ r = B5 at *
          have hFl : (ints ((a.sg.take i).filter (fun s => decide (s ∈ b.sg)))).length ≤ 1000 := by
            rw [ints_len]
            exact Nat.le_trans (List.length_filter_le _ _) (by simp; omega)
          repeat (first | refine w_seq ?_ | refine w_region env ?_ | refine wo_nil ?_ | refine wo_max rfl rfl rfl rfl ?_ | refine wo_min rfl rfl rfl rfl ?_ | refine wo_pure rfl rfl (fun _ => rfl) rfl rfl ?_ | refine wo_not rfl rfl ?_ | refine wo_load rfl (rd_ver (by assumption) rfl _ 1 (Nat.le_of_ble_eq_true rfl)) rfl rfl rfl rfl rfl ?_)
          refine w_cond _ rfl (fun hin => ?_) (fun hout => ?_)
          · have hF : (a.sg.take (i + 1)).filter (fun s => decide (s ∈ b.sg)) = (a.sg.take i).filter (fun s => decide (s ∈ b.sg)) ++ [a.sg[i]] := by
              rw [filter_take hix]
              have : a.sg[i] ∈ b.sg := by simpa using hin
              simp [this]
            repeat (first | refine w_seq ?_ | refine w_region env ?_ | refine wo_nil ?_ | refine wo_max rfl rfl rfl rfl ?_ | refine wo_min rfl rfl rfl rfl ?_ | refine wo_pure rfl rfl (fun _ => rfl) rfl rfl ?_ | refine wo_not rfl rfl ?_ | refine wo_load rfl (rd_ver h35 rfl _ 1 (Nat.le_of_ble_eq_true rfl)) rfl rfl rfl rfl rfl ?_)
            refine wo_mk (b := ⟨[.int .i64 a.sg[i]], false, false, 1, 0⟩) rfl rfl (fun _ => rfl) rfl rfl rfl (fun i6 B6 ⟨h6, g6, q6, p6, x6, l6⟩ => ?_)
            refine wo_append (rows := ints ((a.sg.take i).filter (fun s => decide (s ∈ b.sg)))) (xrows := [[.int .i64 a.sg[i]]]) rfl rfl (ho5.keep fun _ _ _ hx => (q6 _ _ hx).1) (sl_of_at h6 rfl (by simp) rfl) rfl rfl rfl rfl ?_ ?_ rfl rfl rfl rfl rfl rfl rfl rfl (.inl rfl) ?_
            · show ((ints ((a.sg.take i).filter (fun s => decide (s ∈ b.sg)))).length + 1) * 8 ≤ 1000000000
              omega
            · show (ints ((a.sg.take i).filter (fun s => decide (s ∈ b.sg)))).length + 1 ≤ 1000000000
              omega
            intro o7 a7 B7 hown7 st7
            obtain ⟨kp, wh, le7, gr7⟩ := st7
            have h17 := kp _ _ (q6 _ _ h15).1 (fun h => by have := hoi i1 h.symm; omega)
            have h27 := kp _ _ (q6 _ _ h25).1 (fun h => by have := hoi i2 h.symm; omega)
            have h37 := kp _ _ (q6 _ _ h35).1 (fun h => by have := hoi i3 h.symm; omega)
            have hg7 := (gr7 _ (g6 _ hg5).1 (fun q hq => by have := hoi q hq; omega)).1
            have hoi7 : ∀ q, o7 = some q → i3 < q := by
              intro q hq
              rcases wh with wh | wh
              · exact hoi q (by rw [← wh]; exact hq)
              · rw [wh] at hq; cases hq; omega
            clear kp wh gr7 h15 h25 h35 h6 q6 ho5
            repeat (first | refine w_seq ?_ | refine w_region env ?_ | refine wo_nil ?_ | refine wo_max rfl rfl rfl rfl ?_ | refine wo_min rfl rfl rfl rfl ?_ | refine wo_pure rfl rfl (fun _ => rfl) rfl rfl ?_ | refine wo_not rfl rfl ?_ | refine wo_load rfl (rd_ver h37 rfl _ 1 (Nat.le_of_ble_eq_true rfl)) rfl rfl rfl rfl rfl ?_)
            refine wo_put (cs := [.int .i64 (max a.mn b.mn), .int .i64 (min a.mx b.mx), .slice a7 (ints ((a.sg.take i).filter (fun s => decide (s ∈ b.sg))) ++ [[Value.int .i64 a.sg[i]]]).length (ints ((a.sg.take i).filter (fun s => decide (s ∈ b.sg))) ++ [[Value.int .i64 a.sg[i]]]).length]) rfl rfl h37 (fun _ => rfl) rfl rfl rfl rfl rfl rfl (fun B8 z8 => ?_)
            have ⟨h38, g8, q8, l8⟩ := z8
            have hg8 := g8 _ hg7 (by omega)
            have h18 := q8 _ _ d13 h17
            have h28 := q8 _ _ d23 h27
            have hown8 : Own B8 o7 a7 1 (ints ((a.sg.take (i + 1)).filter (fun s => decide (s ∈ b.sg)))) := by
              rw [hF, ints_app]
              exact hown7.keep (fun q x hq hx => q8 q x (by have := hoi7 q hq; omega) hx)
            have hlen : (ints ((a.sg.take i).filter (fun s => decide (s ∈ b.sg))) ++ [[Value.int .i64 a.sg[i]]]) = ints ((a.sg.take (i + 1)).filter (fun s => decide (s ∈ b.sg))) := by rw [hF, ints_app]; rfl
            rw [hlen] at h38
            repeat (first | refine w_seq ?_ | refine w_region env ?_ | refine wo_nil ?_ | refine wo_max rfl rfl rfl rfl ?_ | refine wo_min rfl rfl rfl rfl ?_ | refine wo_pure rfl rfl (fun _ => rfl) rfl rfl ?_ | refine wo_not rfl rfl ?_ | refine wo_load rfl (rd_ver (by assumption) rfl _ 1 (Nat.le_of_ble_eq_true rfl)) rfl rfl rfl rfl rfl ?_)
            exact ⟨j - 1, [(28, .int .i64 ((i + 1 : Nat) : Int)), (27, .int .i64 a.sg.length), (26, .slice sa a.sg.length sc), (2, .pointer (some ⟨i1, 0, some 0⟩)), (3, .pointer (some ⟨i2, 0, some 0⟩)), (4, .pointer (some ⟨i3, 0, some 0⟩))], by omega,
              Sub.cons (some_int (i64_nat (by omega))) (Sub.cons rfl (Sub.cons rfl (Sub.cons rfl (Sub.cons rfl (Sub.cons rfl Sub.nil))))), hg8, by omega, h18, h28, i + 1, o7, a7, by omega, hown8, hoi7, h38, rfl⟩
          · have hF : ((a.sg.take (i + 1)).filter (fun s => decide (s ∈ b.sg))) = ((a.sg.take i).filter (fun s => decide (s ∈ b.sg))) := by
              rw [filter_take hix]
              have : a.sg[i] ∉ b.sg := by simpa using hout
              simp [this]
            refine w_skip ?_
            repeat (first | refine w_seq ?_ | refine w_region env ?_ | refine wo_nil ?_ | refine wo_max rfl rfl rfl rfl ?_ | refine wo_min rfl rfl rfl rfl ?_ | refine wo_pure rfl rfl (fun _ => rfl) rfl rfl ?_ | refine wo_not rfl rfl ?_ | refine wo_load rfl (rd_ver (by assumption) rfl _ 1 (Nat.le_of_ble_eq_true rfl)) rfl rfl rfl rfl rfl ?_)
            exact ⟨j - 1, [(28, .int .i64 ((i + 1 : Nat) : Int)), (27, .int .i64 a.sg.length), (26, .slice sa a.sg.length sc), (2, .pointer (some ⟨i1, 0, some 0⟩)), (3, .pointer (some ⟨i2, 0, some 0⟩)), (4, .pointer (some ⟨i3, 0, some 0⟩))], by omega,
              Sub.cons (some_int (i64_nat (by omega))) (Sub.cons rfl (Sub.cons rfl (Sub.cons rfl (Sub.cons rfl (Sub.cons rfl Sub.nil))))), hg5, by omega, h15, h25, i + 1, o, ao, by omega, by rw [hF]; exact ho5, hoi, by rw [hF]; exact h35, rfl⟩
        · intro hge
          have hix : a.sg.length ≤ i := by simpa using hge
          rw [List.take_of_length_le hix] at hown h4
          refine w_exit ?_
          repeat (first | refine w_seq ?_ | refine w_region env ?_ | refine wo_nil ?_ | refine wo_max rfl rfl rfl rfl ?_ | refine wo_min rfl rfl rfl rfl ?_ | refine wo_pure rfl rfl (fun _ => rfl) rfl rfl ?_ | refine wo_not rfl rfl ?_ | refine wo_load rfl (rd_ver h4 rfl _ 1 (Nat.le_of_ble_eq_true rfl)) rfl rfl rfl rfl rfl ?_)
          refine w_cond _ rfl (fun h5 => ?_) (fun h5 => ?_)
          · have hF0 : a.sg.filter (fun s => decide (s ∈ b.sg)) = [] := by
              have : (ints (a.sg.filter (fun s => decide (s ∈ b.sg)))).length = 0 := by simpa using h5
              rw [ints_len] at this
              exact List.eq_nil_of_length_eq_zero this
            have hm : meetS a b = (⟨0, 0, a.sg⟩, decide (max a.mn b.mn = 0)) := by simp only [meetS]; rw [if_neg hle', if_neg ha0, if_neg hb0, if_pos hF0]
            refine w_seq (w_draw env 6 (by kernel_rfl) ?_)
            repeat (first | refine w_seq ?_ | refine w_region env ?_ | refine wo_nil ?_ | refine wo_max rfl rfl rfl rfl ?_ | refine wo_min rfl rfl rfl rfl ?_ | refine wo_pure rfl rfl (fun _ => rfl) rfl rfl ?_ | refine wo_not rfl rfl ?_ | refine wo_load rfl (rd_ver h14 rfl _ 1 (Nat.le_of_ble_eq_true rfl)) rfl rfl rfl rfl rfl ?_)
            refine wo_call1 (clone_fun (hsa.pre hg4.pre) (by omega) hna) rfl rfl rfl ?_
            rintro v r hr ⟨sa', cap', rfl, hs', hn', hf'⟩
            have h45 := at_app h4 r
            have hg5 := hg4.app hr
            repeat (first | refine w_seq ?_ | refine w_region env ?_ | refine wo_nil ?_ | refine wo_max rfl rfl rfl rfl ?_ | refine wo_min rfl rfl rfl rfl ?_ | refine wo_pure rfl rfl (fun _ => rfl) rfl rfl ?_ | refine wo_not rfl rfl ?_ | refine wo_load rfl (rd_ver h45 rfl _ 1 (Nat.le_of_ble_eq_true rfl)) rfl rfl rfl rfl rfl ?_)
            refine wo_put (cs := [.int .i64 0, .int .i64 0, .slice sa' a.sg.length cap']) rfl rfl h45 (fun _ => rfl) rfl rfl rfl rfl rfl rfl (fun B6 z6 => ?_)
            have ⟨h6, g6, q6, l6⟩ := z6
            have hg6 := g6 _ hg5 (by omega)
            repeat (first | refine w_seq ?_ | refine w_region env ?_ | refine wo_nil ?_ | refine wo_max rfl rfl rfl rfl ?_ | refine wo_min rfl rfl rfl rfl ?_ | refine wo_pure rfl rfl (fun _ => rfl) rfl rfl ?_ | refine wo_not rfl rfl ?_ | refine wo_load rfl (rd_ver (by assumption) rfl _ 1 (Nat.le_of_ble_eq_true rfl)) rfl rfl rfl rfl rfl ?_)
            refine w_ret ⟨.inr rfl, hg6, _, ress_cell rfl (rd_ver h6 rfl _ 3 (Nat.le_of_ble_eq_true rfl)) rfl rfl rfl rfl rfl, _, by rw [hm]; rfl, rfl, rfl, ?_⟩
            rw [hm]
            intro _
            exact ⟨sa', cap', rfl, hs'.unro.upd z6 hf' (by omega), hn'⟩
          · have hF0 : a.sg.filter (fun s => decide (s ∈ b.sg)) ≠ [] := fun h => by rw [h] at h5; simp [ints] at h5
            have hm : meetS a b = (⟨max a.mn b.mn, min a.mx b.mx, a.sg.filter (fun s => decide (s ∈ b.sg))⟩, true) := by simp only [meetS]; rw [if_neg hle', if_neg ha0, if_neg hb0, if_neg hF0]
            refine w_skip ?_
            refine w_seq (w_region env ?_)
            refine wo_loads rfl (rd_ver h4 rfl _ 3 (Nat.le_of_ble_eq_true rfl)) rfl rfl rfl rfl rfl rfl ?_
            refine wo_put (cs := [.int .i64 (max a.mn b.mn), .int .i64 (min a.mx b.mx), .slice ao (ints (a.sg.filter (fun s => decide (s ∈ b.sg)))).length (ints (a.sg.filter (fun s => decide (s ∈ b.sg)))).length]) rfl rfl h4 (fun _ => rfl) rfl rfl rfl rfl rfl rfl (fun B6 z6 => ?_)
            have ⟨h6, g6, q6, l6⟩ := z6
            have hg6 := g6 _ hg4 (by omega)
            repeat (first | refine w_seq ?_ | refine w_region env ?_ | refine wo_nil ?_ | refine wo_max rfl rfl rfl rfl ?_ | refine wo_min rfl rfl rfl rfl ?_ | refine wo_pure rfl rfl (fun _ => rfl) rfl rfl ?_ | refine wo_not rfl rfl ?_ | refine wo_load rfl (rd_ver (by assumption) rfl _ 1 (Nat.le_of_ble_eq_true rfl)) rfl rfl rfl rfl rfl ?_)
            refine w_ret ⟨.inr rfl, hg6, _, ress_cell rfl (rd_ver h6 rfl _ 3 (Nat.le_of_ble_eq_true rfl)) rfl rfl rfl rfl rfl, _, by rw [hm]; rfl, rfl, rfl, ?_⟩
            rw [hm]
            intro _
            refine ⟨ao, (ints (a.sg.filter (fun s => decide (s ∈ b.sg)))).length, ?_, (hown.keep (fun q x hq hx => q6 q x (by have := hoi q hq; omega) hx)).sl, fun h => absurd h hF0⟩
            rw [ints_len]; rfl
end Go.Proofs.YtdjcbpicdnhciaaGreat
