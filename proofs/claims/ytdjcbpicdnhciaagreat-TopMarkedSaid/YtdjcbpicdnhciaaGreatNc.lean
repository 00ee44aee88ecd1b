/-
  Called with whatever marks, families, layer, holes, others and line, TopMarked returns true, and each argument reads behind the call as it read before.
  Conditions: none (the statement as it was given).
-/
import Derived.Test.YtdjcbpicdnhciaaGreatNb
import Derived.Test.YtdjcbpicdnhciaaGreatEk
import Derived.Test.YtdjcbpicdnhciaaGreatRows
set_option linter.unusedVariables false
set_option linter.unusedSimpArgs false
open Go Go.Dx Go.Proofs Go.ChangeShapes Go.WideShapes Go.ChangeAt Go.RowKit
namespace Go.Proofs.YtdjcbpicdnhciaaGreat
set_option maxRecDepth 100000

theorem own : ownKnob Tryz.prog.godebug = none := by kernel_rfl

theorem glob0 : ((begin Tryz.prog (fun _ _ => 0) default).world.heap[0]?).bind Obj.row? = some (#[.int .i64 0], 3) := by kernel_rfl

theorem und105 : Tryz.prog.underlying 105 = some (.slice 113) := by kernel_rfl
theorem und106 : Tryz.prog.underlying 106 = some (.array 2 5) := by kernel_rfl
theorem und107 : Tryz.prog.underlying 107 = some (.slice 124) := by kernel_rfl
theorem und113 : Tryz.prog.underlying 113 = some (.array 3 5) := by kernel_rfl
theorem und5 : Tryz.prog.underlying 5 = some (.int .u8) := by kernel_rfl
theorem und4 : Tryz.prog.underlying 4 = some .bool := by kernel_rfl
theorem und22 : Tryz.prog.underlying 22 = some (.slice 5) := by kernel_rfl
theorem und124 : Tryz.prog.underlying 124 = some (.struct #[{ name := "Min", type := 5, offset := 0, embedded := false, tag := "", pkgPath := "", byteOffset := 0 }, { name := "More", type := 5, offset := 1, embedded := false, tag := "", pkgPath := "", byteOffset := 1 }, { name := "Signs", type := 5, offset := 2, embedded := false, tag := "", pkgPath := "", byteOffset := 2 }]) := by kernel_rfl
theorem cells5 : Tryz.prog.cellsOf 5 = 1 := by kernel_rfl
theorem cells113 : Tryz.prog.cellsOf 113 = 3 := by kernel_rfl
theorem cells124 : Tryz.prog.cellsOf 124 = 3 := by kernel_rfl
theorem cells106 : Tryz.prog.cellsOf 106 = 2 := by kernel_rfl
theorem laid : laidOutB Tryz.prog = true := by kernel_rfl
theorem par5 : Tryz.f5.params.toList = [105, 106, 5, 107, 107, 22] := by kernel_rfl

section
variable {H : Type} {enc : TypeId × Value → H} {W : World}

theorem byte_of {fuel : Nat} {cs : List Value} {x : DataW H × List MemPlace} (h : DataW.trod enc Tryz.prog W 0 (fun _ => true) true fuel 5 cs = some x) : ∃ z, cs = [.int .u8 z] ∧ 0 ≤ z ∧ z ≤ 255 := by
  obtain ⟨n, h1, _, h2⟩ := DataW.trod_int und5 h
  exact ⟨n, h1, bounds_u8 h2⟩

theorem one_at {cs : List Value} {i : Nat} {v : Value} (h : (cs.drop i).take 1 = [v]) : cs[i]? = some v := by
  have := congrArg (fun l => l[0]?) h
  simpa using this

theorem tri_of {r : List Value} (hl : r.length = 3) (h : ∃ fuel x, DataW.trod enc Tryz.prog W 0 (fun _ => true) true fuel 113 r = some x) : ∃ t : TriS, r = triRow t ∧ t.Ok := by
  obtain ⟨fuel, x, h⟩ := h
  obtain ⟨xs, m, _, _, _, hxl, hget⟩ := DataW.trod_array und113 h
  have key : ∀ i, i < 3 → ∃ z, r[i]? = some (.int .u8 z) ∧ 0 ≤ z ∧ z ≤ 255 := by
    intro i hi
    have := hget i hi
    rw [cells5, Nat.mul_one, List.getElem?_eq_getElem (by omega)] at this
    obtain ⟨z, h1, h2⟩ := byte_of this
    exact ⟨z, one_at h1, h2⟩
  obtain ⟨a, ha, oa⟩ := key 0 (by omega)
  obtain ⟨b, hb, ob⟩ := key 1 (by omega)
  obtain ⟨c, hc, oc⟩ := key 2 (by omega)
  obtain ⟨x, y, z, rfl⟩ := three hl
  have ha' : x = .int .u8 a := by simpa using ha
  have hb' : y = .int .u8 b := by simpa using hb
  have hc' : z = .int .u8 c := by simpa using hc
  subst ha'; subst hb'; subst hc'
  exact ⟨⟨a, b, c⟩, rfl, oa, ob, oc⟩

theorem hole_of {r : List Value} (hl : r.length = 3) (h : ∃ fuel x, DataW.trod enc Tryz.prog W 0 (fun _ => true) true fuel 124 r = some x) : ∃ t : HoleS, r = holeRow t ∧ t.Ok := by
  obtain ⟨fuel, x, h⟩ := h
  obtain ⟨xs, m, _, _, _, hxl, hget⟩ := DataW.trod_struct und124 h
  have hxl3 : xs.length = 3 := hxl
  have key : ∀ (i : Nat) (f : Field), (#[{ name := "Min", type := 5, offset := 0, embedded := false, tag := "", pkgPath := "", byteOffset := 0 }, { name := "More", type := 5, offset := 1, embedded := false, tag := "", pkgPath := "", byteOffset := 1 }, { name := "Signs", type := 5, offset := 2, embedded := false, tag := "", pkgPath := "", byteOffset := 2 }] : Array Field)[i]? = some f → f.type = 5 → ∃ z, r[f.offset]? = some (.int .u8 z) ∧ 0 ≤ z ∧ z ≤ 255 := by
    intro i f hf ht
    have hi : i < 3 := (Array.getElem?_eq_some_iff.1 hf).1
    have := hget i f hf
    rw [ht, cells5, List.getElem?_eq_getElem (by omega)] at this
    obtain ⟨z, h1, h2⟩ := byte_of this
    exact ⟨z, one_at h1, h2⟩
  obtain ⟨a, ha, oa⟩ := key 0 _ rfl rfl
  obtain ⟨b, hb, ob⟩ := key 1 _ rfl rfl
  obtain ⟨c, hc, oc⟩ := key 2 _ rfl rfl
  obtain ⟨x, y, z, rfl⟩ := three hl
  have ha' : x = .int .u8 a := by simpa using ha
  have hb' : y = .int .u8 b := by simpa using hb
  have hc' : z = .int .u8 c := by simpa using hc
  subst ha'; subst hb'; subst hc'
  exact ⟨⟨a, b, c⟩, rfl, oa, ob, oc⟩

theorem byteRow_of {r : List Value} (h : ∃ fuel x, DataW.trod enc Tryz.prog W 0 (fun _ => true) true fuel 5 r = some x) : ∃ z : Int, r = [.int .u8 z] ∧ (0 ≤ z ∧ z ≤ 255) := by
  obtain ⟨fuel, x, h⟩ := h
  exact byte_of h

theorem arr_of {v : Value} {l : List Value} (h : v.cells.toList = l) (hl : l.length = 2) : v = .agg ⟨l⟩ := by
  cases v with
  | agg cs => cases cs; simp [Value.cells] at h; subst h; rfl
  | _ => simp [Value.cells] at h; subst h; simp at hl

theorem pair_of {v : Value} {d : DataW H} {ps : List MemPlace} (h : DataW.Trod enc Tryz.prog W 0 (fun _ => true) true 106 v d ps) :
    ∃ x y : Int, v = .agg ⟨[.int .u8 x, .int .u8 y]⟩ ∧ (0 ≤ x ∧ x ≤ 255) ∧ (0 ≤ y ∧ y ≤ 255) := by
  obtain ⟨fuel, hf⟩ := h
  obtain ⟨xs, m, _, _, hl, hxl, hget⟩ := DataW.trod_array und106 hf
  rw [cells106] at hl
  have key : ∀ i, i < 2 → ∃ z, v.cells.toList[i]? = some (.int .u8 z) ∧ 0 ≤ z ∧ z ≤ 255 := by
    intro i hi
    have := hget i hi
    rw [cells5, Nat.mul_one, List.getElem?_eq_getElem (by omega)] at this
    obtain ⟨z, h1, h2⟩ := byte_of this
    exact ⟨z, one_at h1, h2⟩
  obtain ⟨a, ha, oa⟩ := key 0 (by omega)
  obtain ⟨b, hb, ob⟩ := key 1 (by omega)
  refine ⟨a, b, arr_of ?_ rfl, oa, ob⟩
  apply List.ext_getElem?
  intro i
  match i with
  | 0 => rw [ha]; rfl
  | 1 => rw [hb]; rfl
  | i + 2 => rw [List.getElem?_eq_none (by omega)]; rfl

theorem lt_of {t : TypeId} {v : Value} {d : DataW H} {ps : List MemPlace} (h : DataW.Trod enc Tryz.prog W 0 (fun _ => true) true t v d ps) : ∀ x ∈ ps, x.block < W.heap.size := by
  obtain ⟨m, hm⟩ := h; exact DataW.trod_lt m _ _ _ hm

theorem flat3 {p q r : Int} : ∀ x ∈ [Value.int .u8 p, .int .u8 q, .int .u8 r], flat x = true ∧ isCell x = true := by
  intro x hx
  simp only [List.mem_cons, List.not_mem_nil, or_false] at hx
  rcases hx with rfl | rfl | rfl <;> exact ⟨rfl, rfl⟩

end

set_option maxRecDepth 100000 in
theorem lifted (os : Os) (started : os.Started) (H : Type) (enc : TypeId × Value → H) :
    ReturnsInHanded {} Tryz.checked os 5 .any (Rows.topMarkedSpec.pre6 enc Tryz.prog Tryz.f5 Rows.topMarkedRow.domain false) (Rows.topMarkedSpec.post enc Tryz.prog Tryz.f5 false true false false) := by
  refine returnsInHanded_of_change_shaped (C := Tryz.checked) own started (by kernel_rfl) Tryz.func5
    (ChangeSpec.witness6 (enc := enc) (C := Tryz.checked) false ⟨#[], #[.slice none 0 0, .agg #[.int .u8 0, .int .u8 0], .int .u8 0, .slice none 0 0, .slice none 0 0, .slice none 0 0], []⟩ 8 (by kernel_rfl) (by kernel_rfl) (by kernel_rfl) (by kernel_rfl)) ?_
  intro W base args ds gs before hval0 hW hcnd _ hshape _
  have hval : ∀ (j : Nat) t v, Tryz.f5.params[j]? = some t → args[j]? = some v → Value.okWide Tryz.prog W .any base t v := hval0
  have hW' := hW
  obtain ⟨p, q, hA0, hV, rfl, hfz, hnd⟩ := hW
  have hA : DataW.TrodAll enc Tryz.prog W 0 (fun _ => true) true Tryz.f5.params.toList args.toList ds p := hA0
  rw [par5] at hA
  obtain ⟨v0, vs0, d0, ds0, p0, q0, hargs, rfl, rfl, h0, r0⟩ := trodAll_cons hA
  obtain ⟨v1, vs1, d1, ds1, p1, q1, rfl, rfl, rfl, h1, r1⟩ := trodAll_cons r0
  obtain ⟨v2, vs2, d2, ds2, p2, q2, rfl, rfl, rfl, h2, r2⟩ := trodAll_cons r1
  obtain ⟨v3, vs3, d3, ds3, p3, q3, rfl, rfl, rfl, h3, r3⟩ := trodAll_cons r2
  obtain ⟨v4, vs4, d4, ds4, p4, q4, rfl, rfl, rfl, h4, r4⟩ := trodAll_cons r3
  obtain ⟨v5, vs5, d5, ds5, p5, q5, rfl, rfl, rfl, h5, r5⟩ := trodAll_cons r4
  obtain ⟨rfl, rfl, rfl⟩ := trodAll_nil r5
  obtain rfl : args = #[v0, v1, v2, v3, v4, v5] := by cases args; simp_all
  obtain ⟨rfl, rfl⟩ := trodVars_none hV
  have hg : ∃ arr el fr, W.heap[0]? = some (.cells arr el fr) := by
    obtain ⟨cs, hcs, _⟩ := hshape.1 0 _ _ (by show 0 < Tryz.prog.globals.size; exact of_decide_eq_true (by kernel_rfl)) glob0
    exact ⟨cs, _, _, hcs⟩
  have k0 := okWide_slice und105 (hval 0 105 v0 (by kernel_rfl) rfl)
  have k3 := okWide_slice und107 (hval 3 107 v3 (by kernel_rfl) rfl)
  have k4 := okWide_slice und107 (hval 4 107 v4 (by kernel_rfl) rfl)
  have k5 := okWide_slice und22 (hval 5 22 v5 (by kernel_rfl) rfl)
  obtain ⟨z2, rfl, rfl, rfl, w2⟩ := open_int und5 (hval 2 5 v2 (by kernel_rfl) rfl) h2
  obtain ⟨b0, b1, rfl, w10, w11⟩ := pair_of h1
  have n0 : ∀ r : List Value, r.length = 3 → (∃ fuel x, DataW.trod enc Tryz.prog W 0 (fun _ => true) true fuel 113 r = some x) → ∀ x ∈ r, flat x = true ∧ isCell x = true := fun r hl h => by
    obtain ⟨t, rfl, _⟩ := tri_of hl h; exact flat3
  have n3 : ∀ r : List Value, r.length = 3 → (∃ fuel x, DataW.trod enc Tryz.prog W 0 (fun _ => true) true fuel 124 r = some x) → ∀ x ∈ r, flat x = true ∧ isCell x = true := fun r hl h => by
    obtain ⟨t, rfl, _⟩ := hole_of hl h; exact flat3
  have n5 : ∀ r : List Value, r.length = 1 → (∃ fuel x, DataW.trod enc Tryz.prog W 0 (fun _ => true) true fuel 5 r = some x) → ∀ x ∈ r, flat x = true ∧ isCell x = true := fun r hl h => by
    obtain ⟨z, rfl, _⟩ := byteRow_of h
    intro x hx; simp at hx; subst hx; exact ⟨rfl, rfl⟩
  obtain ⟨rw0, a0, c0, o0, lo0, A0, g0⟩ := arg_sl 0 und105 cells113 (by omega) k0 h0 hg n0
  obtain ⟨rw3, a3, c3, o3, lo3, A3, g3⟩ := arg_sl 1 und107 cells124 (by omega) k3 h3 hg n3
  obtain ⟨rw4, a4, c4, o4, lo4, A4, g4⟩ := arg_sl 2 und107 cells124 (by omega) k4 h4 hg n3
  obtain ⟨rw5, a5, c5, o5, lo5, A5, g5⟩ := arg_sl 3 und22 cells5 (by omega) k5 h5 hg n5
  obtain ⟨ms, rfl, hms⟩ := map_choose (f := triRow) (ok := TriS.Ok) (fun r hr => tri_of (g0 r hr).1 (g0 r hr).2)
  obtain ⟨hs, rfl, hhs⟩ := map_choose (f := holeRow) (ok := HoleS.Ok) (fun r hr => hole_of (g3 r hr).1 (g3 r hr).2)
  obtain ⟨us, rfl, hus⟩ := map_choose (f := holeRow) (ok := HoleS.Ok) (fun r hr => hole_of (g4 r hr).1 (g4 r hr).2)
  obtain ⟨xs, rfl, hxs⟩ := map_choose (f := fun x : Int => [Value.int .u8 x]) (ok := fun x => 0 ≤ x ∧ x ≤ 255) (fun r hr => byteRow_of (g5 r hr).2)
  let A : Hp := [o0, o3, o4, o5]
  let φ : Rz := fun i => match i with | 0 => lo0 | 1 => lo3 | 2 => lo4 | 3 => lo5 | _ => none
  have hH : HRel φ A W := by
    refine ⟨fun i hi => ?_, fun i o l hl ho hal => ?_, fun i j o p l m _ ho _ hw _ _ _ => ?_⟩
    · match i, hi with
      | i + 4, _ => rfl
    · match i, ho, hl with
      | 0, ho, hl => cases ho; exact A0.obj φ l hl hal
      | 1, ho, hl => cases ho; exact A3.obj φ l hl hal
      | 2, ho, hl => cases ho; exact A4.obj φ l hl hal
      | 3, ho, hl => cases ho; exact A5.obj φ l hl hal
    · match i, ho with
      | 0, ho => cases ho; rw [A0.ro] at hw; cases hw
      | 1, ho => cases ho; rw [A3.ro] at hw; cases hw
      | 2, ho => cases ho; rw [A4.ro] at hw; cases hw
      | 3, ho => cases ho; rw [A5.ro] at hw; cases hw
  obtain ⟨s0, e0⟩ := A0.sl A rfl
  obtain ⟨s3, e3⟩ := A3.sl A rfl
  obtain ⟨s4, e4⟩ := A4.sl A rfl
  obtain ⟨s5, e5⟩ := A5.sl A rfl
  have x0 := A0.val φ rfl
  have x3 := A3.val φ rfl
  have x4 := A4.val φ rfl
  have x5 := A5.val φ rfl
  have y0 := A0.le
  have y3 := A3.le
  have y4 := A4.le
  have y5 := A5.le
  rw [List.length_map] at x0 x3 x4 x5 y0 y3 y4 y5
  obtain ⟨v, r, hev, _, rfl⟩ := topMarked_fun w10 w11 (bounds_u8 w2) s0 e0 y0 hms s3 e3 y3 hhs s4 e4 y4 hus s5 e5 y5 hxs
  have hrels : Rels φ [.slice a0 ms.length c0, .agg ⟨[.int .u8 b0, .int .u8 b1]⟩, .int .u8 z2, .slice a3 hs.length c3, .slice a4 us.length c4, .slice a5 xs.length c5] [v0, .agg ⟨[.int .u8 b0, .int .u8 b1]⟩, .int .u8 z2, v3, v4, v5] :=
    Rels.cons x0 (Rels.cons (flat_rel rfl) (Rels.cons (flat_rel rfl) (Rels.cons x3 (Rels.cons x4 (Rels.cons x5 Rels.nil)))))
  have hlt := hW'.lt
  refine (hev.2 φ _ W hH.ro hrels).mono fun e W' ⟨v, v', A', φ', he, ⟨hv, hA'⟩, hvr, hH', hfr⟩ => ?_
  subst he; subst hv
  have hv' := atom_eq rfl hvr
  subst hv'
  have bel := below_of hfr (fun i o ho => roH_wr ho)
  refine ⟨_, rfl, _, _, _, [], _, [], hW', trodAll_mk1 (shut_bool und4 _),
    (trodAll_cons_mk (Below.trod laid (by kernel_rfl) (of_decide_eq_true (by kernel_rfl)) h0 bel (lt_of h0)) (trodAll_cons_mk (Below.trod laid (by kernel_rfl) (of_decide_eq_true (by kernel_rfl)) h1 bel (lt_of h1)) (trodAll_cons_mk (shut_int und5 w2)
      (trodAll_cons_mk (Below.trod laid (by kernel_rfl) (of_decide_eq_true (by kernel_rfl)) h3 bel (lt_of h3)) (trodAll_cons_mk (Below.trod laid (by kernel_rfl) (of_decide_eq_true (by kernel_rfl)) h4 bel (lt_of h4))
        (trodAll_cons_mk (Below.trod laid (by kernel_rfl) (of_decide_eq_true (by kernel_rfl)) h5 bel (lt_of h5)) trodAll_mk0)))))), rfl, bel.frame _, fun h => by cases h⟩

theorem over : Rows.topMarkedRow.holds Tryz.pinned (OpenSpec.ofChange Rows.topMarkedSpec) :=
  OpenClaim.holds_of_wide 5 Tryz.f5 rfl rfl rfl rfl rfl rfl rfl ⟨rfl, rfl, rfl, rfl, rfl⟩ rfl rfl rfl rfl rfl (by kernel_rfl) Tryz.func5 (by kernel_rfl)
    (of_decide_eq_true (by kernel_rfl)) (by unfold Func.isWrapper; first | (rw [if_pos (by decide +kernel)]; kernel_rfl) | (rw [if_neg (by decide +kernel)]; exact ⟨rfl, rfl⟩))
    (fun os started H enc _ => lifted os started H enc)

theorem topMarked_holds : Rows.TopMarkedSaid := over
#print axioms topMarked_holds
end Go.Proofs.YtdjcbpicdnhciaaGreat
