/- The program's walls: the signs that look like one (family). -/
import Derived.Test.YtdjcbpicdnhciaaGreatMn0
import Derived.Test.YtdjcbpicdnhciaaGreatMn1
import Derived.Test.YtdjcbpicdnhciaaGreatMn2
set_option linter.unusedVariables false
set_option linter.unusedSimpArgs false
open Go Go.Dx Go.Proofs
namespace Go.Proofs.YtdjcbpicdnhciaaGreat
set_option maxRecDepth 20000
-- NEW

theorem fam_all : ([0, 1, 2].all fun sign => subs3.all fun f => subs3.all fun g => okFam sign f g) = true := by
  simp only [List.all_cons, List.all_nil, fam_0, fam_1, fam_2, Bool.and_true]

/-- A slice of numbers that was made, found again in a bigger heap. -/
theorem reloc_ints {P : Program} {f : FuncId} {xs ys : List Value} {As Rs Ab : Hp} {ρ : Ren} {k off ver len cap : Nat} {b : Blk} (h : Ev P f xs As (.slice (some ⟨k, off, some ver⟩) len cap) Rs) (hfz : ∀ (i : Nat) (o : AObj), As[i]? = some o → o.wr = false)
    (hρ : ∀ i j v u, ρ i = some (j, v, u) → ∃ os ob, As[i]? = some os ∧ Ab[j]? = some ob ∧ OMap ρ v u os ob) (ha : Maps ρ xs ys)
    (hk : As.length ≤ k) (hb : Rs[k]? = some (.cells b)) (hv : b.ver = ver) (hro : b.ro = false) (hfl : ∀ x ∈ b.cs, flat x = true) :
    Ev P f ys Ab (.slice (some ⟨Ab.length, off, some ver⟩) len cap) (Ab ++ [.cells b]) := by
  refine ev_reloc (π := fun q => if q = k then some (Ab.length, ver) else none) h hfz hρ ha ?_ ?_ ?_ ?_
  · intro q j v hq
    split at hq
    · rename_i hqk
      subst hqk
      cases hq
      exact ⟨hk, Nat.le_refl _, .cells b, .cells b, hb, by simp, by simp [AObj.wr, hro], Maps.same hfl, rfl, rfl, hv, hv⟩
    · cases hq
  · intro q q' j v v' h1 h2
    split at h1
    · split at h2
      · rename_i h3 h4; rw [h3, h4]
      · cases h2
    · cases h1
  · intro j h1 h2
    have : j = Ab.length := by simp at h2; omega
    subst this
    exact ⟨k, ver, if_pos rfl⟩
  · refine .slice k Ab.length off ver ver len cap ?_
    simp only [plus]
    rw [if_neg (by omega)]
    simp

theorem flatInts (xs : List Int) : ∀ x ∈ (ints xs).flatten, flat x = true := by
  intro x hx
  simp only [ints, List.mem_flatten, List.mem_map] at hx
  obtain ⟨l, ⟨y, _, rfl⟩, h⟩ := hx
  simp at h
  subst h; rfl

/-- F147 -/
theorem family_fun {A : Hp} {a a1 a2 : Option Addr} {sign : Int} {f g : List Int} (hs : sign ∈ [(0 : Int), 1, 2]) (hf : f ∈ subs3) (hg : g ∈ subs3)
    (ha : AccAt A a 1 [[.slice a1 f.length f.length], [.slice a2 g.length g.length]]) (h1 : AccAt A a1 1 (ints f)) (h2 : AccAt A a2 1 (ints g)) :
    Fun Tryz.prog 147 [.int .i64 sign, .slice a 2 2] A fun v B => ∃ a' cap, v = .slice a' (famS sign f g).length cap ∧ Sl B a' 1 (ints (famS sign f g)) := by
  have hrun := List.all_eq_true.1 (List.all_eq_true.1 (List.all_eq_true.1 fam_all sign hs) f hf) g hg
  unfold okFam at hrun
  split at hrun
  · rename_i k off ver len cap R hr
    split at hrun
    · rename_i b hb
      simp only [Bool.and_eq_true] at hrun
      obtain ⟨⟨⟨⟨⟨⟨g1, g2⟩, g3⟩, g4⟩, g5⟩, g6⟩, g7⟩ := hrun
      replace g1 := Nat.le_of_ble_eq_true g1
      replace g2 := Nat.eq_of_beq_eq_true g2
      replace g3 : b.ro = false := by simpa using g3
      replace g4 := Nat.eq_of_beq_eq_true g4
      replace g5 := Nat.le_of_ble_eq_true g5
      replace g7 := eqInts_eq g7
      have hlen : len = (famS sign f g).length := by
        have := congrArg List.length g7
        rw [flatten_len (sz := 1) (by intro r hr; obtain ⟨x, _, rfl⟩ := List.mem_map.1 hr; rfl), ints_len] at this
        simp at this; omega
      have hev := ev_run env cuts_ok hr
      replace ha := ha.le (Le.ro A)
      replace h1 := h1.le (Le.ro A)
      replace h2 := h2.le (Le.ro A)
      rcases ha with ⟨_, ha⟩ | ⟨_, i, u, ro, rfl, ha, _⟩
      · cases ha
      have key : ∀ (q : Nat) (aq : Option Addr) (xs : List Int), AccAt (roH A) aq 1 (ints xs) → ∃ jq uq, (xs = [] → aq = none) ∧ (xs ≠ [] → aq = some ⟨jq, 0, some uq⟩ ∧ ∃ ro, (roH A)[jq]? = some (.cells ⟨(ints xs).flatten, ro, true, 1, uq⟩)) := by
        intro q aq xs h
        rcases h with ⟨h, h'⟩ | ⟨h0, j, u, ro, h3, h4, _⟩
        · have : xs = [] := by cases xs with
            | nil => rfl
            | cons x xs => cases h'
          exact ⟨0, 0, fun _ => h, fun hn => absurd this hn⟩
        · refine ⟨j, u, fun hn => ?_, fun _ => ⟨h3, ro, h4⟩⟩
          subst hn; exact absurd rfl h0
      obtain ⟨j1, u1, n1, m1⟩ := key 1 a1 f h1
      obtain ⟨j2, u2, n2, m2⟩ := key 2 a2 g h2
      have hev2 := reloc_ints (ys := [.int .i64 sign, .slice (some ⟨i, 0, some u⟩) 2 2]) (Ab := roH A) (ρ := fun q => if q = 0 then some (i, 0, u) else if q = 1 ∧ f ≠ [] then some (j1, 0, u1) else if q = 2 ∧ g ≠ [] then some (j2, 0, u2) else none) hev ?_ ?_ ?_ g1 hb g2 g3 (List.all_eq_true.1 g6)
      · refine ⟨_, _, hev2, Fresh.one (by simp [AObj.wr, g3]), some ⟨(roH A).length, off, some ver⟩, cap, by rw [hlen], ?_⟩
        refine .inr ⟨(roH A).length, off, ver, b, rfl, at_new _ _, g2, ?_, ?_, ?_, g4⟩
        · rw [ints_len, ← hlen, Nat.mul_one]; exact g7
        · rw [ints_len, ← hlen, Nat.mul_one]; exact g5
        · intro r hr; obtain ⟨x, _, rfl⟩ := List.mem_map.1 hr; rfl
      · intro q o ho
        match q with
        | 0 => cases ho; rfl
        | 1 => cases ho; rfl
        | 2 => cases ho; rfl
        | q + 3 => cases ho
      · intro q j v w hq
        split at hq
        · rename_i hq0
          subst hq0
          cases hq
          refine ⟨_, _, rfl, ha, ?_, rfl, rfl, rfl, rfl⟩
          refine Maps.cons ?_ (Maps.cons ?_ Maps.nil)
          · unfold slV
            split
            · rename_i h0; rw [n1 h0, h0]; exact .same _ rfl
            · rename_i h0; rw [(m1 h0).1]; exact .slice 1 j1 0 0 u1 _ _ (by simp [h0])
          · unfold slV
            split
            · rename_i h0; rw [n2 h0, h0]; exact .same _ rfl
            · rename_i h0; rw [(m2 h0).1]; exact .slice 2 j2 0 0 u2 _ _ (by simp [h0])
        · split at hq
          · rename_i hq1
            obtain ⟨rfl, h0⟩ := hq1
            cases hq
            obtain ⟨_, ro, hat⟩ := m1 h0
            exact ⟨_, _, rfl, hat, Maps.same (flatInts f), rfl, rfl, rfl, rfl⟩
          · split at hq
            · rename_i hq2
              obtain ⟨rfl, h0⟩ := hq2
              cases hq
              obtain ⟨_, ro, hat⟩ := m2 h0
              exact ⟨_, _, rfl, hat, Maps.same (flatInts g), rfl, rfl, rfl, rfl⟩
            · cases hq
      · exact Maps.cons (.same _ rfl) (Maps.cons (.slice 0 i 0 0 u 2 2 (by simp)) Maps.nil)
    · cases hrun
  · cases hrun

/-- A mark. -/
structure MarkS where
  sign : Int
  state : Int
  mn : Int
  mx : Int

structure MarkS.Ok (m : MarkS) : Prop where
  a : -1 ≤ m.sign ∧ m.sign ≤ 2
  b : 0 ≤ m.state ∧ m.state ≤ 3
  c : 0 ≤ m.mn ∧ m.mn ≤ m.mx ∧ m.mx ≤ 9

def markRow (m : MarkS) : List Value := [.int .i64 m.sign, .int .i64 m.state, .int .i64 m.mn, .int .i64 m.mx]

def markCell (layer : Int) (f g : List Int) (m : MarkS) : CellS :=
  if m.sign < 0 then ⟨m.mn, m.mx, []⟩
  else if m.state = 1 then ⟨1, 1, famS m.sign f g⟩
  else if m.state = 0 ∨ (m.state = 3 ∧ layer = 0) then ⟨1, 1, [m.sign]⟩
  else ⟨1, 1, []⟩

theorem famS_ne {sign : Int} {f g : List Int} (h : sign ∈ [(0 : Int), 1, 2]) : famS sign f g ≠ [] := by
  intro h0
  have : sign ∈ famS sign f g := by
    simp only [famS, List.mem_filter]
    exact ⟨h, by simp⟩
  rw [h0] at this
  simp at this

/-- F90 -/
theorem cell_fun {A : Hp} {a a1 a2 : Option Addr} {m : MarkS} {f g : List Int} {layer : Int} (hm : m.Ok) (hf : f ∈ subs3) (hg : g ∈ subs3) (hl : layer = 0 ∨ layer = 1)
    (ha : AccAt A a 1 [[.slice a1 f.length f.length], [.slice a2 g.length g.length]]) (h1 : AccAt A a1 1 (ints f)) (h2 : AccAt A a2 1 (ints g)) :
    Fun Tryz.prog 90 [.int .i64 3, .agg ⟨markRow m⟩, .slice a 2 2, .int .i64 layer] A fun v B => ∃ row, v = .tuple #[.agg ⟨row⟩, .int .i64 0] ∧ CellR B row (markCell layer f g m) := by
  obtain ⟨ma, mb, mc⟩ := hm
  refine fun_walkV (fn := Tryz.f90) Tryz.func90 rfl rfl (fun V0 le0 st0 => ?_)
  replace ha := ha.le le0
  replace h1 := h1.le le0
  replace h2 := h2.le le0
  refine w_seq (w_region env ?_)
  refine wo_allocF st0 (cs := markRow m) 1 rfl rfl (fun _ => rfl) rfl rfl (fun i5 V1 B1 st1 le1 h5 => ?_)
  refine wo_allocO st1 (cs := [.int .i64 0, .int .i64 0, .slice none 0 0]) 1 rfl rfl (fun _ => rfl) rfl rfl (fun i8 V2 B2 st2 le2 => ?_)
  replace ha := ha.le (le1.trans le2)
  replace h1 := h1.le (le1.trans le2)
  replace h2 := h2.le (le1.trans le2)
  replace h5 := h5.le le2
  clear st1 st0
  repeat (first | refine w_seq ?_ | refine w_region env ?_ | refine wo_nil ?_ | (refine wo_gate ?_ ?_; rfl; refine wo_pure rfl rfl (fun _ => rfl) rfl rfl ?_) | refine wo_not rfl rfl ?_ | refine wo_max rfl rfl rfl rfl ?_ | refine wo_min rfl rfl rfl rfl ?_ | refine wo_load rfl (h5.rdq st2.le 0 rfl) rfl rfl rfl rfl rfl ?_ | refine wo_load rfl (h5.rdq st2.le 1 rfl) rfl rfl rfl rfl rfl ?_)
  refine w_block ?_
  repeat (first | refine w_seq ?_ | refine w_region env ?_ | refine wo_nil ?_ | (refine wo_gate ?_ ?_; rfl; refine wo_pure rfl rfl (fun _ => rfl) rfl rfl ?_) | refine wo_not rfl rfl ?_ | refine wo_max rfl rfl rfl rfl ?_ | refine wo_min rfl rfl rfl rfl ?_ | refine wo_load rfl (h5.rdq st2.le 0 rfl) rfl rfl rfl rfl rfl ?_ | refine wo_load rfl (h5.rdq st2.le 1 rfl) rfl rfl rfl rfl rfl ?_)
  refine wo_callX st2 (within_fun _ _ _) rfl rfl rfl ?_
  rintro v r hr rfl
  obtain ⟨V3, st3, le3, _⟩ := st2.callE hr
  replace ha := ha.le le3
  replace h1 := h1.le le3
  replace h2 := h2.le le3
  replace h5 := h5.le le3
  clear st2
  have e1 : (decide (-1 ≤ m.sign) && decide (m.sign ≤ dwrap .i64 (3 - 1))) = true := by
    rw [i64_small (by omega) (by omega)]
    simp; omega
  rw [e1]
  repeat (first | refine w_seq ?_ | refine w_region env ?_ | refine wo_nil ?_ | (refine wo_gate ?_ ?_; rfl; refine wo_pure rfl rfl (fun _ => rfl) rfl rfl ?_) | refine wo_not rfl rfl ?_ | refine wo_max rfl rfl rfl rfl ?_ | refine wo_min rfl rfl rfl rfl ?_ | refine wo_load rfl (h5.rdq st3.le 0 rfl) rfl rfl rfl rfl rfl ?_ | refine wo_load rfl (h5.rdq st3.le 1 rfl) rfl rfl rfl rfl rfl ?_)
  refine w_cond _ rfl (fun h => by cases h) (fun _ => ?_)
  repeat (first | refine w_seq ?_ | refine w_region env ?_ | refine wo_nil ?_ | (refine wo_gate ?_ ?_; rfl; refine wo_pure rfl rfl (fun _ => rfl) rfl rfl ?_) | refine wo_not rfl rfl ?_ | refine wo_max rfl rfl rfl rfl ?_ | refine wo_min rfl rfl rfl rfl ?_ | refine wo_load rfl (h5.rdq st3.le 1 rfl) rfl rfl rfl rfl rfl ?_)
  refine wo_callX st3 (within_fun _ _ _) rfl rfl rfl ?_
  rintro v r hr rfl
  obtain ⟨V4, st4, le4, _⟩ := st3.callE hr
  replace ha := ha.le le4
  replace h1 := h1.le le4
  replace h2 := h2.le le4
  replace h5 := h5.le le4
  clear st3
  have e2 : (decide (0 ≤ m.state) && decide (m.state ≤ 3)) = true := by simp; omega
  rw [e2]
  repeat (first | refine w_seq ?_ | refine w_region env ?_ | refine wo_nil ?_ | (refine wo_gate ?_ ?_; rfl; refine wo_pure rfl rfl (fun _ => rfl) rfl rfl ?_) | refine wo_not rfl rfl ?_ | refine wo_max rfl rfl rfl rfl ?_ | refine wo_min rfl rfl rfl rfl ?_ | refine wo_load rfl (h5.rdq st4.le 0 rfl) rfl rfl rfl rfl rfl ?_)
  refine w_cond _ rfl (fun h => by cases h) (fun _ => ?_)
  repeat (first | refine w_seq ?_ | refine w_region env ?_ | refine wo_nil ?_ | (refine wo_gate ?_ ?_; rfl; refine wo_pure rfl rfl (fun _ => rfl) rfl rfl ?_) | refine wo_not rfl rfl ?_ | refine wo_max rfl rfl rfl rfl ?_ | refine wo_min rfl rfl rfl rfl ?_ | refine wo_load rfl (h5.rdq st4.le 0 rfl) rfl rfl rfl rfl rfl ?_)
  refine w_cond _ rfl (fun hneg => ?_) (fun hneg => ?_)
  · have hneg' : m.sign < 0 := by simpa using hneg
    repeat (first | refine w_seq ?_ | refine w_region env ?_ | refine wo_nil ?_ | (refine wo_gate ?_ ?_; rfl; refine wo_pure rfl rfl (fun _ => rfl) rfl rfl ?_) | refine wo_not rfl rfl ?_ | refine wo_max rfl rfl rfl rfl ?_ | refine wo_min rfl rfl rfl rfl ?_ | refine wo_load rfl (h5.rdq st4.le 2 rfl) rfl rfl rfl rfl rfl ?_)
    refine wo_load rfl (h5.rdq st4.le 3 rfl) rfl rfl rfl rfl rfl ?_
    repeat (first | refine w_seq ?_ | refine w_region env ?_ | refine wo_nil ?_ | (refine wo_gate ?_ ?_; rfl; refine wo_pure rfl rfl (fun _ => rfl) rfl rfl ?_) | refine wo_not rfl rfl ?_ | refine wo_max rfl rfl rfl rfl ?_ | refine wo_min rfl rfl rfl rfl ?_ | refine wo_load rfl (h5.rdq st4.le 3 rfl) rfl rfl rfl rfl rfl ?_)
    refine wo_stW st4 0 rfl rfl rfl rfl (fun _ => rfl) rfl rfl rfl rfl (fun B5 st5 => ?_)
    repeat (first | refine w_seq ?_ | refine w_region env ?_ | refine wo_nil ?_ | (refine wo_gate ?_ ?_; rfl; refine wo_pure rfl rfl (fun _ => rfl) rfl rfl ?_) | refine wo_not rfl rfl ?_ | refine wo_max rfl rfl rfl rfl ?_ | refine wo_min rfl rfl rfl rfl ?_ | refine wo_load rfl (h5.rdq st5.le 3 rfl) rfl rfl rfl rfl rfl ?_)
    refine w_ret ⟨.inr rfl, st5.gr, _, ress_cell rfl (rd_ver (st5.obj (k := 0) rfl) rfl 0 3 (Nat.le_of_ble_eq_true rfl)) rfl rfl rfl rfl rfl, _, rfl, none, 0, ?_, .inl ?_, fun _ => rfl⟩
    · simp only [markCell, if_pos hneg']; rfl
    · simp only [markCell, if_pos hneg']; rfl
  have hpos : 0 ≤ m.sign := by
    have : ¬ m.sign < 0 := by simpa using hneg
    omega
  have hs3 : m.sign ∈ [(0 : Int), 1, 2] := by
    simp only [List.mem_cons, List.not_mem_nil, or_false]; omega
  have hnn : ¬ m.sign < 0 := by omega
  refine w_skip ?_
  repeat (first | refine w_seq ?_ | refine w_region env ?_ | refine wo_nil ?_ | (refine wo_gate ?_ ?_; rfl; refine wo_pure rfl rfl (fun _ => rfl) rfl rfl ?_) | refine wo_not rfl rfl ?_ | refine wo_max rfl rfl rfl rfl ?_ | refine wo_min rfl rfl rfl rfl ?_ | refine wo_load rfl (h5.rdq st4.le 0 rfl) rfl rfl rfl rfl rfl ?_)
  refine wo_varsO st4 rfl (fun _ h => by cases h; rfl) rfl rfl rfl rfl rfl rfl rfl rfl rfl rfl rfl (fun i10 V5 B5 st5 le5 => ?_)
  replace ha := ha.le le5
  replace h1 := h1.le le5
  replace h2 := h2.le le5
  replace h5 := h5.le le5
  clear st4
  refine wo_nil ?_
  refine w_seq ?_
  refine w_mono (Q := fun e m' B => e = .normal ∧ ∃ (V : Hp) (sa : Option Addr) (sc : Nat) (sg : List Int), Sta V0 V B [.obj i10 ⟨[.int .i64 1, .int .i64 1, .slice sa sg.length sc], false, false, 1, 0⟩, .obj i8 ⟨[.int .i64 0, .int .i64 0, .slice none 0 0], false, false, 1, 0⟩] ∧ Sl V sa 1 (ints sg) ∧ (sg = [] → sa = none) ∧
      markCell layer f g m = ⟨1, 1, sg⟩ ∧ Sub [(10, .pointer (some ⟨i10, 0, some 0⟩)), (8, .pointer (some ⟨i8, 0, some 0⟩))] m') ?_ ?_
  · refine w_block ?_
    repeat (first | refine w_seq ?_ | refine w_region env ?_ | refine wo_nil ?_ | (refine wo_gate ?_ ?_; rfl; refine wo_pure rfl rfl (fun _ => rfl) rfl rfl ?_) | refine wo_not rfl rfl ?_ | refine wo_max rfl rfl rfl rfl ?_ | refine wo_min rfl rfl rfl rfl ?_ | refine wo_load rfl (h5.rdq st5.le 1 rfl) rfl rfl rfl rfl rfl ?_)
    refine w_cond _ rfl (fun hst => ?_) (fun hst => ?_)
    · have hst' : m.state = 1 := by simpa using hst
      repeat (first | refine w_seq ?_ | refine w_region env ?_ | refine wo_nil ?_ | (refine wo_gate ?_ ?_; rfl; refine wo_pure rfl rfl (fun _ => rfl) rfl rfl ?_) | refine wo_not rfl rfl ?_ | refine wo_max rfl rfl rfl rfl ?_ | refine wo_min rfl rfl rfl rfl ?_ | refine wo_load rfl (h5.rdq st5.le 0 rfl) rfl rfl rfl rfl rfl ?_)
      refine wo_callX st5 (family_fun hs3 hf hg ha h1 h2) rfl rfl rfl ?_
      rintro v r hr ⟨sa, sc, rfl, hsl⟩
      obtain ⟨V6, st6, le6, le7⟩ := st5.callE hr
      repeat (first | refine w_seq ?_ | refine w_region env ?_ | refine wo_nil ?_ | (refine wo_gate ?_ ?_; rfl; refine wo_pure rfl rfl (fun _ => rfl) rfl rfl ?_) | refine wo_not rfl rfl ?_ | refine wo_max rfl rfl rfl rfl ?_ | refine wo_min rfl rfl rfl rfl ?_ | refine wo_load rfl (h5.rdq st6.le 0 rfl) rfl rfl rfl rfl rfl ?_)
      refine wo_stO st6 0 rfl rfl rfl (by show 2 < 3; omega) (fun _ => rfl) rfl rfl rfl rfl rfl (fun B7 st7 => ?_)
      repeat (first | refine w_seq ?_ | refine w_region env ?_ | refine wo_nil ?_ | (refine wo_gate ?_ ?_; rfl; refine wo_pure rfl rfl (fun _ => rfl) rfl rfl ?_) | refine wo_not rfl rfl ?_ | refine wo_max rfl rfl rfl rfl ?_ | refine wo_min rfl rfl rfl rfl ?_ | refine wo_load rfl (h5.rdq st7.le 0 rfl) rfl rfl rfl rfl rfl ?_)
      exact ⟨rfl, V6, sa, sc, _, st7, hsl.le le7, fun h => absurd h (famS_ne hs3), by simp [markCell, hnn, hst'], (Sub.cons rfl (Sub.cons rfl Sub.nil))⟩
    · have hst' : m.state ≠ 1 := by simpa using hst
      repeat (first | refine w_seq ?_ | refine w_region env ?_ | refine wo_nil ?_ | (refine wo_gate ?_ ?_; rfl; refine wo_pure rfl rfl (fun _ => rfl) rfl rfl ?_) | refine wo_not rfl rfl ?_ | refine wo_max rfl rfl rfl rfl ?_ | refine wo_min rfl rfl rfl rfl ?_ | refine wo_load rfl (h5.rdq st5.le 1 rfl) rfl rfl rfl rfl rfl ?_)
      refine w_mono (Q := fun e m' B => e = .normal ∧ B = B5 ∧ ∃ bb : Bool, Sub [(44, .bool bb), (10, .pointer (some ⟨i10, 0, some 0⟩)), (8, .pointer (some ⟨i8, 0, some 0⟩)), (5, .pointer (some ⟨i5, 0, some 0⟩))] m' ∧ (bb = true ↔ m.state = 0 ∨ m.state = 3 ∧ layer = 0)) ?_ ?_
      · refine w_cond _ rfl (fun h0 => ?_) (fun h0 => ?_)
        · have h0' : m.state = 0 := by simpa using h0
          exact w_skip ⟨rfl, rfl, _, (Sub.cons rfl (Sub.cons rfl (Sub.cons rfl (Sub.cons rfl Sub.nil)))), by simp [h0']⟩
        · have h0' : m.state ≠ 0 := by simpa using h0
          repeat (first | refine w_seq ?_ | refine w_region env ?_ | refine wo_nil ?_ | (refine wo_gate ?_ ?_; rfl; refine wo_pure rfl rfl (fun _ => rfl) rfl rfl ?_) | refine wo_not rfl rfl ?_ | refine wo_max rfl rfl rfl rfl ?_ | refine wo_min rfl rfl rfl rfl ?_ | refine wo_load rfl (h5.rdq st5.le 1 rfl) rfl rfl rfl rfl rfl ?_)
          cases h3 : decide (m.state = 3) with
          | true =>
            have e : (m.state == 3) = true := by simpa using h3
            rw [e]
            repeat (first | refine w_seq ?_ | refine w_region env ?_ | refine wo_nil ?_ | (refine wo_gate ?_ ?_; rfl; refine wo_pure rfl rfl (fun _ => rfl) rfl rfl ?_) | refine wo_not rfl rfl ?_ | refine wo_max rfl rfl rfl rfl ?_ | refine wo_min rfl rfl rfl rfl ?_ | refine wo_load rfl (h5.rdq st5.le 1 rfl) rfl rfl rfl rfl rfl ?_)
            have h3' : m.state = 3 := by simpa using h3
            exact ⟨rfl, rfl, _, (Sub.cons rfl (Sub.cons rfl (Sub.cons rfl (Sub.cons rfl Sub.nil)))), by simp [h3']⟩
          | false =>
            have e : (m.state == 3) = false := by simpa using h3
            rw [e]
            repeat (first | refine w_seq ?_ | refine w_region env ?_ | refine wo_nil ?_ | (refine wo_gate ?_ ?_; rfl; refine wo_pure rfl rfl (fun _ => rfl) rfl rfl ?_) | refine wo_not rfl rfl ?_ | refine wo_max rfl rfl rfl rfl ?_ | refine wo_min rfl rfl rfl rfl ?_ | refine wo_load rfl (h5.rdq st5.le 1 rfl) rfl rfl rfl rfl rfl ?_)
            have h3' : m.state ≠ 3 := by simpa using h3
            exact ⟨rfl, rfl, _, (Sub.cons rfl (Sub.cons rfl (Sub.cons rfl (Sub.cons rfl Sub.nil)))), by simp [h0', h3']⟩
      · rintro _ mm B ⟨rfl, rfl, bb, hsub, hbb⟩
        show W _ _ _ _ _ _
        refine w_sub hsub ?_
        refine w_cond _ rfl (fun hc => ?_) (fun hc => ?_)
        · repeat (first | refine w_seq ?_ | refine w_region env ?_ | refine wo_nil ?_ | (refine wo_gate ?_ ?_; rfl; refine wo_pure rfl rfl (fun _ => rfl) rfl rfl ?_) | refine wo_not rfl rfl ?_ | refine wo_max rfl rfl rfl rfl ?_ | refine wo_min rfl rfl rfl rfl ?_ | refine wo_load rfl (h5.rdq st5.le 0 rfl) rfl rfl rfl rfl rfl ?_)
          refine wo_mkF st5 (cs := [.int .i64 m.sign]) 1 rfl rfl (fun _ => rfl) rfl rfl (fun iN V6 B6 st6 le6 f6 => ?_)
          repeat (first | refine w_seq ?_ | refine w_region env ?_ | refine wo_nil ?_ | (refine wo_gate ?_ ?_; rfl; refine wo_pure rfl rfl (fun _ => rfl) rfl rfl ?_) | refine wo_not rfl rfl ?_ | refine wo_max rfl rfl rfl rfl ?_ | refine wo_min rfl rfl rfl rfl ?_ | refine wo_load rfl (h5.rdq st6.le 0 rfl) rfl rfl rfl rfl rfl ?_)
          refine wo_stO st6 0 rfl rfl rfl (by show 2 < 3; omega) (fun _ => rfl) rfl rfl rfl rfl rfl (fun B7 st7 => ?_)
          repeat (first | refine w_seq ?_ | refine w_region env ?_ | refine wo_nil ?_ | (refine wo_gate ?_ ?_; rfl; refine wo_pure rfl rfl (fun _ => rfl) rfl rfl ?_) | refine wo_not rfl rfl ?_ | refine wo_max rfl rfl rfl rfl ?_ | refine wo_min rfl rfl rfl rfl ?_ | refine wo_load rfl (h5.rdq st7.le 0 rfl) rfl rfl rfl rfl rfl ?_)
          refine ⟨rfl, V6, some ⟨iN, 0, some 0⟩, 1, [m.sign], st7, sl_of_at (sz := 1) (rows := ints [m.sign]) f6 rfl (by simp [ints]) rfl, (fun h => by cases h), ?_, (Sub.cons rfl (Sub.cons rfl Sub.nil))⟩
          have : m.state = 0 ∨ m.state = 3 ∧ layer = 0 := hbb.1 hc
          simp [markCell, hnn, hst', this]
        · refine w_skip ⟨rfl, V5, none, 0, [], st5, .inl rfl, fun _ => rfl, ?_, (Sub.cons rfl (Sub.cons rfl Sub.nil))⟩
          have : ¬ (m.state = 0 ∨ m.state = 3 ∧ layer = 0) := fun h => by rw [hbb.2 h] at hc; cases hc
          simp [markCell, hnn, hst', this]
  · rintro _ mm B ⟨rfl, V, sa, sc, sg, st, hsl, hnil, hmc, hsub⟩
    show W _ _ _ _ _ _
    refine w_sub hsub ?_
    repeat (first | refine w_seq ?_ | refine w_region env ?_ | refine wo_nil ?_ | (refine wo_gate ?_ ?_; rfl; refine wo_pure rfl rfl (fun _ => rfl) rfl rfl ?_) | refine wo_not rfl rfl ?_ | refine wo_max rfl rfl rfl rfl ?_ | refine wo_min rfl rfl rfl rfl ?_)
    refine wo_loads rfl (rd_ver (st.obj (k := 0) rfl) rfl _ 3 (Nat.le_of_ble_eq_true rfl)) rfl rfl rfl rfl rfl rfl ?_
    refine wo_stW st 1 rfl rfl rfl rfl (fun _ => rfl) rfl rfl rfl rfl (fun B7 st7 => ?_)
    repeat (first | refine w_seq ?_ | refine w_region env ?_ | refine wo_nil ?_ | (refine wo_gate ?_ ?_; rfl; refine wo_pure rfl rfl (fun _ => rfl) rfl rfl ?_) | refine wo_not rfl rfl ?_ | refine wo_max rfl rfl rfl rfl ?_ | refine wo_min rfl rfl rfl rfl ?_)
    refine w_ret ⟨.inr rfl, st7.gr, _, ress_cell rfl (rd_ver (st7.obj (k := 1) rfl) rfl 0 3 (Nat.le_of_ble_eq_true rfl)) rfl rfl rfl rfl rfl, _, rfl, sa, sc, ?_, ?_, ?_⟩
    · rw [hmc]; rfl
    · rw [hmc]; exact hsl.le st7.le
    · rw [hmc]; exact hnil
end Go.Proofs.YtdjcbpicdnhciaaGreat
