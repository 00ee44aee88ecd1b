/- The program's walls: the signs that look like sign 0 (run by the kernel). -/
import Derived.Test.YtdjcbpicdnhciaaGreatMn
set_option linter.unusedVariables false
set_option linter.unusedSimpArgs false
open Go Go.Dx Go.Proofs
namespace Go.Proofs.YtdjcbpicdnhciaaGreat
set_option maxRecDepth 20000

theorem fam_0_0 : famOK 0 [] := by unfold famOK; kernel_rfl
theorem fam_0_1 : famOK 0 [0] := by unfold famOK; kernel_rfl
theorem fam_0_2 : famOK 0 [1] := by unfold famOK; kernel_rfl
theorem fam_0_3 : famOK 0 [0, 1] := by unfold famOK; kernel_rfl
theorem fam_0_4 : famOK 0 [2] := by unfold famOK; kernel_rfl
theorem fam_0_5 : famOK 0 [0, 2] := by unfold famOK; kernel_rfl
theorem fam_0_6 : famOK 0 [1, 2] := by unfold famOK; kernel_rfl
theorem fam_0_7 : famOK 0 [0, 1, 2] := by unfold famOK; kernel_rfl

theorem fam_0 : (subs3.all fun f => subs3.all fun g => okFam 0 f g) = true := by
  rw [List.all_eq_true]
  intro f hf
  simp only [subs3, List.mem_cons, List.not_mem_nil, or_false] at hf
  rcases hf with rfl | rfl | rfl | rfl | rfl | rfl | rfl | rfl
  · exact fam_0_0
  · exact fam_0_1
  · exact fam_0_2
  · exact fam_0_3
  · exact fam_0_4
  · exact fam_0_5
  · exact fam_0_6
  · exact fam_0_7
end Go.Proofs.YtdjcbpicdnhciaaGreat
