/- The data layer: more steps of a walk. -/
import Derived.Test.YtdjcbpicdnhciaaGreatEg
set_option linter.unusedVariables false
set_option linter.unusedSimpArgs false
namespace Go.Dx

section
variable {P : Program} {E : List TypeId} {n : Nat} {m : TF} {base V B : Hp} {os : List Own1} {K : TF → Hp → Prop} {ops : List Oper} {c k : Nat} {rest : List Oper} {d : Nat} {op : Op} {ty : TypeId} {ps : String} {af : Array Edge} {g : Option (Nat × Bool)}

/-- A part of a slice that is seen. -/
theorem wo_sliceV (hst : Sta base V B os) {t e : TypeId} {x : Operand} {lo hi : Option Operand} {a : Option Addr} {len cap sz l h : Nat} {rows : List (List Value)} {lov hiv : Option Value}
    (hx : evM m x = some (.slice a len cap)) (hs : Sl V a sz rows) (hl : len = rows.length) (hlc : len ≤ cap) (hlo : evo (evM m) lo = some lov) (hhi : evo (evM m) hi = some hiv)
    (hw : wantM ops m ⟨some d, .slice t x lo hi none, ty, ps, af, g⟩ = some true) (hd : Nat.blt d n = true) (ht : P.underlying t = some (.slice e)) (hz : szOf P e = some sz) (hane : ∀ p, a = some p → ∃ i off ver b, p = ⟨i, off, some ver⟩ ∧ V[i]? = some (.cells b) ∧ b.ver = ver ∧ b.es = sz)
    (hb : dBound hiv len cap = some h) (hb2 : dBound lov 0 h = some l) (hle : l ≤ h) (hle2 : h ≤ rows.length)
    (hn : ∀ a', Sl V a' sz ((rows.take h).drop l) → (a = none → a' = none) → (∀ p, a' = some p → ∃ i off ver b, p = ⟨i, off, some ver⟩ ∧ V[i]? = some (.cells b) ∧ b.ver = ver ∧ b.es = sz) → Wo E P n ops c rest (k + 1) ((d, .slice a' (h - l) (cap - l)) :: m) B K) : Wo E P n ops c (⟨some d, .slice t x lo hi none, ty, ps, af, g⟩ :: rest) k m B K := by
  subst hl
  cases a with
  | none =>
    have hr0 : rows = [] := by
      rcases hs with hs | ⟨i, off, ver, b, he, _⟩
      · exact hs
      · cases he
    refine wo_pure (v := .slice none (h - l) (cap - l)) ?_ hw (fun _ => rfl) rfl hd (hn none (.inl (by subst hr0; simp)) (fun h => h) (fun p hp => by cases hp))
    have e3 : evo (evM m) none = some none := rfl
    have e4 : dBound none cap cap = some cap := rfl
    simp only [dOp, hx, hlo, hhi, e3, Option.bind_some, dSlice, ht, hz, e4, hb, hb2, Option.isSome_none, Bool.false_and, Bool.false_eq_true, if_false]
    rw [if_pos hlc]; rfl
  | some p =>
    obtain ⟨i, off, ver, b, rfl, g2, g3, g4⟩ := hane p rfl
    obtain ⟨b', k2, k3, k4, k5, k6⟩ := hst.le i b g2
    refine wo_pure (v := .slice (some ⟨i, off + l * sz, some ver⟩) (h - l) (cap - l)) ?_ hw (fun _ => rfl) rfl hd (hn _ (hs.sub l h hle hle2) (fun h => by cases h) (fun p hp => by cases hp; exact ⟨_, _, _, b, rfl, g2, g3, g4⟩))
    have e3 : evo (evM m) none = some none := rfl
    have e4 : dBound none cap cap = some cap := rfl
    simp only [dOp, hx, hlo, hhi, e3, Option.bind_some, dSlice, ht, hz, e4, hb, hb2, Option.isSome_none, Bool.false_and, Bool.false_eq_true, if_false, k2]
    rw [if_pos ⟨k4.trans g3, .inr (k5.trans g4)⟩]; rfl

end
end Go.Dx
