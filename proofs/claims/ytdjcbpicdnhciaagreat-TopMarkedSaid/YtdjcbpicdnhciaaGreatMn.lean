/- The program's walls: the signs that look like one (family), and the cell of a mark (cell). -/
import Derived.Test.YtdjcbpicdnhciaaGreatMm
set_option linter.unusedVariables false
set_option linter.unusedSimpArgs false
open Go Go.Dx Go.Proofs
namespace Go.Proofs.YtdjcbpicdnhciaaGreat
set_option maxRecDepth 20000
-- NEW

/-- A slice that was grown by append alone, as it lies in memory. -/
def AccAt (A : Hp) (a : Option Addr) (sz : Nat) (rows : List (List Value)) : Prop :=
  (a = none ∧ rows = []) ∨ (rows ≠ [] ∧ ∃ i ver ro, a = some ⟨i, 0, some ver⟩ ∧ A[i]? = some (.cells ⟨rows.flatten, ro, true, sz, ver⟩) ∧ ∀ r ∈ rows, r.length = sz)

theorem AccAt.le {A B : Hp} {a : Option Addr} {sz : Nat} {rows : List (List Value)} (h : AccAt A a sz rows) (hl : Le A B) : AccAt B a sz rows := by
  rcases h with h | ⟨h0, i, ver, ro, h1, h2, h3⟩
  · exact .inl h
  · obtain ⟨b', g1, g2, g3, g4, g5⟩ := hl i _ h2
    obtain ⟨cs, ro', opn, es, ver'⟩ := b'
    simp only at g2 g3 g4 g5
    subst g2; subst g3; subst g4; subst g5
    exact .inr ⟨h0, i, _, ro', h1, g1, h3⟩

theorem AccAt.sl {A : Hp} {a : Option Addr} {sz : Nat} {rows : List (List Value)} (h : AccAt A a sz rows) : Sl A a sz rows := by
  rcases h with ⟨_, h⟩ | ⟨_, i, ver, ro, rfl, h2, h3⟩
  · exact .inl h
  · exact sl_of_at (b := ⟨rows.flatten, ro, true, sz, ver⟩) h2 rfl h3 rfl

def slV (k : Nat) (f : List Int) : Value := if f = [] then .slice none 0 0 else .slice (some ⟨k, 0, some 0⟩) f.length f.length

def smallFam (f g : List Int) : Hp := [.cells ⟨[slV 1 f, slV 2 g], true, true, 1, 0⟩, .cells ⟨(ints f).flatten, true, true, 1, 0⟩, .cells ⟨(ints g).flatten, true, true, 1, 0⟩]

def famS (sign : Int) (f g : List Int) : List Int := [0, 1, 2].filter fun s => decide (s = sign) || (decide (sign ∈ f) && decide (s ∈ f)) || (decide (sign ∈ g) && decide (s ∈ g))

def eqInts : List Value → List Int → Bool
  | [], [] => true
  | .int .i64 n :: vs, m :: ms => (n == m) && eqInts vs ms
  | _, _ => false

theorem eqInts_eq : ∀ {vs : List Value} {ms : List Int}, eqInts vs ms = true → vs = (ints ms).flatten
  | [], [], _ => rfl
  | .int .i64 n :: vs, m :: ms, h => by
    simp only [eqInts, Bool.and_eq_true, beq_iff_eq] at h
    obtain ⟨rfl, h2⟩ := h
    rw [eqInts_eq h2]; rfl

noncomputable def okFam (sign : Int) (f g : List Int) : Bool :=
  match runF eqTs Tryz.prog cuts 200 147 [.int .i64 sign, .slice (some ⟨0, 0, some 0⟩) 2 2] (smallFam f g) with
  | some (.slice (some ⟨k, off, some ver⟩) len _, R) =>
    match R[k]? with
    | some (.cells b) => Nat.ble 3 k && Nat.beq b.ver ver && !b.ro && Nat.beq b.es 1 && Nat.ble (off + len) b.cs.length && b.cs.all flat && eqInts ((b.cs.drop off).take len) (famS sign f g)
    | _ => false
  | _ => false

/-- Of every pair of families. -/
def famOK (sign : Int) (f : List Int) : Prop := (subs3.all fun g => okFam sign f g) = true
end Go.Proofs.YtdjcbpicdnhciaaGreat
