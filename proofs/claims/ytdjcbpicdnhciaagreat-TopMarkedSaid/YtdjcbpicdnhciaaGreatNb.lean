/- The law about marks on a wall, walked whole. -/
import Derived.Test.YtdjcbpicdnhciaaGreatNa
set_option linter.unusedVariables false
set_option linter.unusedSimpArgs false
open Go Go.Dx Go.Proofs
namespace Go.Proofs.YtdjcbpicdnhciaaGreat
set_option maxRecDepth 20000

/-- F5 -/
theorem topMarked_fun {A : Hp} {ms : List TriS} {hs os : List HoleS} {xs : List Int} {am ah ao ax : Option Addr} {cm ch co cx : Nat} {al0 al1 ly : Int}
    (hal0 : 0 ≤ al0 ∧ al0 ≤ 255) (hal1 : 0 ≤ al1 ∧ al1 ≤ 255) (hly : 0 ≤ ly ∧ ly ≤ 255) (hm : Sl A am 3 (ms.map triRow)) (hwm : Wel A am 3) (hcm : ms.length ≤ cm) (hms : ∀ t ∈ ms, t.Ok)
    (hh : Sl A ah 3 (hs.map holeRow)) (hwh : Wel A ah 3) (hch : hs.length ≤ ch) (hho : ∀ h ∈ hs, h.Ok) (ho : Sl A ao 3 (os.map holeRow)) (hwo : Wel A ao 3) (hco : os.length ≤ co) (hoo : ∀ h ∈ os, h.Ok)
    (hx : Sl A ax 1 (xs.map fun x => [.int .u8 x])) (hwx : Wel A ax 1) (hcx : xs.length ≤ cx) (hxs : ∀ x ∈ xs, 0 ≤ x ∧ x ≤ 255) :
    Fun Tryz.prog 5 [.slice am ms.length cm, .agg ⟨[.int .u8 al0, .int .u8 al1]⟩, .int .u8 ly, .slice ah hs.length ch, .slice ao os.length co, .slice ax xs.length cx] A fun v _ => v = .bool true := by
  refine fun_walkV (fn := Tryz.f5) Tryz.func5 rfl rfl (fun V0 le0 st0 => ?_)
  refine e5_01 (Q := lawQ V0) st0 (m := argsM 0 _) (Sub.cons rfl (Sub.cons rfl (Sub.cons rfl (Sub.cons rfl (Sub.cons rfl (Sub.cons rfl Sub.nil)))))) (fun m1 B1 V1 i7 i13 iS st1 le1 hs1 h71 h131 hsub1 => ?_)
  refine e5_3 st1 h71 hal0 hal1 hsub1 (fun m2 B2 V2 a a1 a2 st2 le2 hF2 hsub2 => ?_)
  have l2 := le0.trans (le1.trans le2)
  refine e5_456 st2 hF2 (signsOf_in _) (signsOf_in _) (hm.le l2) (hwm.le' l2) hcm hms hly (Go.Dx.Sub.trans (Sub.cons rfl (Sub.cons rfl (Sub.cons rfl (Sub.cons rfl (Sub.cons rfl (Sub.cons rfl (Sub.cons rfl Sub.nil))))))) hsub2) (fun m3 B3 V3 ar ad dd n hn st3 le3 har had hdd hsub3 => ?_)
  have hml : ((ms.take n).map triMark).length = n := by simp; omega
  have hdl : dd.length = n := by have := hdd.1; simp at this; omega
  have l3 := l2.trans le3
  have hs4 : Go.Dx.Sub [(19, Value.slice ar ((ms.take n).map triMark).length ((ms.take n).map triMark).length), (20, Value.slice ad dd.length dd.length), (14, .slice a 2 2), (13, .pointer (some ⟨i13, 0, some 0⟩)), (2, .int .u8 ly), (3, .slice ah hs.length ch), (4, .slice ao os.length co), (5, .slice ax xs.length cx)] m3 := by
    rw [hml, hdl]; exact hsub3
  refine e5_78 (ms := (ms.take n).map triMark) st3 (hF2.le le3) (signsOf_in _) (signsOf_in _) (hs1.le (le2.trans le3)) (h131.le (le2.trans le3)) har (fun t ht => ?_) (by omega) had hdd hly hs4 (fun m4 B4 V4 st4 le4 hsub4 => ?_)
  · obtain ⟨t0, h0, rfl⟩ := List.mem_map.1 ht
    exact triMark_ok (hms t0 (List.mem_of_mem_take h0))
  have l4 := l3.trans le4
  refine e5_9_13 st4 (hh.le l4) (hwh.le' l4) hch hho (ho.le l4) (hwo.le' l4) hco hoo hsub4 (fun m5 B5 V5 aa ab ra rb k hk st5 le5 haa hwa hra hab hwb hrb hsub5 => ?_)
  have hla : ((hs.take k).map holeCell).length = k := by simp; omega
  have hlb : ((os.take k).map holeCell).length = k := by simp; omega
  have hra1 : ra.length = k := by have := hra.1; omega
  have hrb1 : rb.length = k := by have := hrb.1; omega
  have hoka : ∀ c ∈ (hs.take k).map holeCell, CellOK' 3 c ∧ c.sg ∈ subs3 ∧ 0 ≤ c.mn ∧ c.mn ≤ c.mx ∧ c.mx ≤ 4 := by
    intro c hc
    obtain ⟨t0, h0, rfl⟩ := List.mem_map.1 hc
    exact holeCell_ok (hho t0 (List.mem_of_mem_take h0))
  have hokb : ∀ c ∈ (os.take k).map holeCell, CellOK' 3 c ∧ c.sg ∈ subs3 ∧ 0 ≤ c.mn ∧ c.mn ≤ c.mx ∧ c.mx ≤ 4 := by
    intro c hc
    obtain ⟨t0, h0, rfl⟩ := List.mem_map.1 hc
    exact holeCell_ok (hoo t0 (List.mem_of_mem_take h0))
  have h2 : Two ((hs.take k).map holeCell) ((os.take k).map holeCell) k := ⟨hla, hlb, by omega, hoka, hokb⟩
  have l5 := l4.trans le5
  have l15 := le2.trans (le3.trans (le4.trans le5))
  refine e5_14 st5 haa hra hab hrb hla hlb (by omega) (fun c hc => (hoka c hc).2.1) (fun c hc => (hokb c hc).2.1) (fun c hc => by have := (hoka c hc).2; omega) (fun c hc => by have := (hokb c hc).2; omega) hsub5 (fun m6 B6 V6 ac rc st6 le6 hac hwc hrc hsub6 => ?_)
  have l16 := l15.trans le6
  have hs6 : Go.Dx.Sub [(44, .bool (fitsL ((hs.take k).map holeCell) ((os.take k).map holeCell))), (43, .slice ac rc.length rc.length), (42, .slice ab rb.length rb.length), (41, .slice aa ra.length ra.length), (40, .int .i64 k), (13, .pointer (some ⟨i13, 0, some 0⟩)), (5, .slice ax xs.length cx)] m6 := by
    rw [hra1, hrb1]; exact hsub6
  refine e5_15_17 h2 st6 (hs1.le l16) (h131.le l16) (haa.le le6) (hra.le le6) (hab.le le6) (hrb.le le6) hac hrc hs6 (fun m7 B7 V7 am7 rm hF st7 le7 ham hrm hsub7 => ?_)
  have l7 := l5.trans (le6.trans le7)
  refine e5_18_19 st7 (hx.le l7) (hwx.le' l7) hcx hxs (Go.Dx.Sub.trans (Sub.cons rfl (Sub.cons rfl (Sub.cons rfl (Sub.cons rfl (Sub.cons rfl (Sub.cons rfl (Sub.cons rfl Sub.nil))))))) hsub7) (fun m8 B8 V8 az zs hzl hz2 st8 le8 hz hwz hsub8 => ?_)
  have l78 := le7.trans le8
  have l18 := l16.trans l78
  refine e5_20_25 h2 hF st8 (hs1.le l18) (h131.le l18) (haa.le (le6.trans l78)) (hwa.le' (le6.trans l78)) (Nat.le_refl _) (hra.le (le6.trans l78)) (hab.le (le6.trans l78)) (hwb.le' (le6.trans l78)) (Nat.le_refl _) (hrb.le (le6.trans l78)) (hac.le l78) (hwc.le' l78) (hrc.le l78) (ham.le le8) (hrm.le le8) hzl hz2 hz hwz hsub8
    (fun m9 B9 V9 v60 v61 v62 v63 v64 v65 v66 v38 v67 v68 v69 v70 st9 le9 t1 t2 t3 t4 t5 t6 hsub9 => ?_)
  refine e5_26 st9 t1 t2 t3 t4 t5 t6 (fun h => both_agrees (by omega) (fun c hc => by have := hoka c hc; exact ⟨this.2.1, this.2.2.1, this.2.2.2.1⟩) (fun c hc => by have := hokb c hc; exact ⟨this.2.1, this.2.2.1, this.2.2.2.1⟩) hF h) (fun r hr => ?_) (Go.Dx.Sub.trans (Sub.cons rfl (Sub.cons rfl (Sub.cons rfl (Sub.cons rfl (Sub.cons rfl (Sub.cons rfl (Sub.cons rfl (Sub.cons rfl (Sub.cons rfl (Sub.cons rfl (Sub.cons rfl (Sub.cons rfl Sub.nil)))))))))))) hsub9) (fun m10 B10 V10 st10 le10 hsub10 => ?_)
  · obtain ⟨g1, _⟩ := stoodS_range hr
    rcases g1 with g1 | ⟨c, g2, g3⟩
    · omega
    · have := (h2.ok hF c g2).lo; omega
  have l8a := le9.trans le10
  exact e5_27_29 h2.len (by omega) (h2.ok hF) st10 (hs1.le (l18.trans l8a)) (h131.le (l18.trans l8a)) (hac.le (l78.trans l8a)) (hrc.le (l78.trans l8a)) hzl hz2 (hz.le l8a) (t3.le le10) hsub10
end Go.Proofs.YtdjcbpicdnhciaaGreat
