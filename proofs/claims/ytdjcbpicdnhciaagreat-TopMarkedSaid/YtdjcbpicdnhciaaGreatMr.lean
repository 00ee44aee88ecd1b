/- The fixed reading at the end of each law: it is as it has to be (run by the kernel). -/
import Derived.Test.YtdjcbpicdnhciaaGreatEe
import Derived.Test.YtdjcbpicdnhciaaGreatRa
set_option linter.unusedVariables false
set_option linter.unusedSimpArgs false
open Go Go.Dx Go.Proofs
namespace Go.Proofs.YtdjcbpicdnhciaaGreat
set_option maxRecDepth 100000

def isTrue : Value → Bool
  | .bool b => b
  | _ => false

theorem isTrue_eq {v : Value} (h : isTrue v = true) : v = .bool true := by
  unfold isTrue at h
  split at h
  · rw [h]
  · cases h

theorem reads_run : (match runF eqTs Tryz.prog cuts 1000 16 [] [] with
    | some (v, _) => isTrue v
    | none => false) = true := by kernel_rfl

theorem reads_ev : ∃ R, Ev Tryz.prog 16 [] [] (.bool true) R := by
  have h := reads_run
  split at h
  · rename_i v R hr
    rw [isTrue_eq h] at hr
    exact ⟨R, ev_run env cuts_ok hr⟩
  · cases h

/-- F16 -/
theorem reads_fun {A : Hp} : Fun Tryz.prog 16 [] A fun v _ => v = .bool true := by
  obtain ⟨R, hR⟩ := reads_ev
  refine ⟨.bool true, [], ?_, .nil, rfl⟩
  rw [List.append_nil]
  exact ev_plain (ρ := fun _ => none) hR (fun i o h => by simp at h) (fun i j v u h => by cases h) Maps.nil (fun _ => .same _ rfl)
end Go.Proofs.YtdjcbpicdnhciaaGreat
