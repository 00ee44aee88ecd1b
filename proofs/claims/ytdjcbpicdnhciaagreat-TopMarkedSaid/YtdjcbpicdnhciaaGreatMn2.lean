/- The program's walls: the signs that look like sign 2 (run by the kernel). -/
import Derived.Test.YtdjcbpicdnhciaaGreatMn
set_option linter.unusedVariables false
set_option linter.unusedSimpArgs false
open Go Go.Dx Go.Proofs
namespace Go.Proofs.YtdjcbpicdnhciaaGreat
set_option maxRecDepth 20000

theorem fam_2_0 : famOK 2 [] := by unfold famOK; kernel_rfl
theorem fam_2_1 : famOK 2 [0] := by unfold famOK; kernel_rfl
theorem fam_2_2 : famOK 2 [1] := by unfold famOK; kernel_rfl
theorem fam_2_3 : famOK 2 [0, 1] := by unfold famOK; kernel_rfl
theorem fam_2_4 : famOK 2 [2] := by unfold famOK; kernel_rfl
theorem fam_2_5 : famOK 2 [0, 2] := by unfold famOK; kernel_rfl
theorem fam_2_6 : famOK 2 [1, 2] := by unfold famOK; kernel_rfl
theorem fam_2_7 : famOK 2 [0, 1, 2] := by unfold famOK; kernel_rfl

theorem fam_2 : (subs3.all fun f => subs3.all fun g => okFam 2 f g) = true := by
  rw [List.all_eq_true]
  intro f hf
  simp only [subs3, List.mem_cons, List.not_mem_nil, or_false] at hf
  rcases hf with rfl | rfl | rfl | rfl | rfl | rfl | rfl | rfl
  · exact fam_2_0
  · exact fam_2_1
  · exact fam_2_2
  · exact fam_2_3
  · exact fam_2_4
  · exact fam_2_5
  · exact fam_2_6
  · exact fam_2_7
end Go.Proofs.YtdjcbpicdnhciaaGreat
