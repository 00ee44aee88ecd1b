/- The program's walls: the signs that look like sign 1 (run by the kernel). -/
import Derived.Test.YtdjcbpicdnhciaaGreatMn
set_option linter.unusedVariables false
set_option linter.unusedSimpArgs false
open Go Go.Dx Go.Proofs
namespace Go.Proofs.YtdjcbpicdnhciaaGreat
set_option maxRecDepth 20000

theorem fam_1_0 : famOK 1 [] := by unfold famOK; kernel_rfl
theorem fam_1_1 : famOK 1 [0] := by unfold famOK; kernel_rfl
theorem fam_1_2 : famOK 1 [1] := by unfold famOK; kernel_rfl
theorem fam_1_3 : famOK 1 [0, 1] := by unfold famOK; kernel_rfl
theorem fam_1_4 : famOK 1 [2] := by unfold famOK; kernel_rfl
theorem fam_1_5 : famOK 1 [0, 2] := by unfold famOK; kernel_rfl
theorem fam_1_6 : famOK 1 [1, 2] := by unfold famOK; kernel_rfl
theorem fam_1_7 : famOK 1 [0, 1, 2] := by unfold famOK; kernel_rfl

theorem fam_1 : (subs3.all fun f => subs3.all fun g => okFam 1 f g) = true := by
  rw [List.all_eq_true]
  intro f hf
  simp only [subs3, List.mem_cons, List.not_mem_nil, or_false] at hf
  rcases hf with rfl | rfl | rfl | rfl | rfl | rfl | rfl | rfl
  · exact fam_1_0
  · exact fam_1_1
  · exact fam_1_2
  · exact fam_1_3
  · exact fam_1_4
  · exact fam_1_5
  · exact fam_1_6
  · exact fam_1_7
end Go.Proofs.YtdjcbpicdnhciaaGreat
