/- A part of the proof: the walk of functions of the program, or the rules of the walk. -/
import Derived.Test.YthilnfccfjcgfaaGreatA1V
import Derived.Test.YthilnfccfjcgfaaGreatAmMap5
set_option linter.unusedSimpArgs false
set_option linter.unusedVariables false
namespace Go.Proofs.AM
open Go Go.Proofs
theorem e_PlaceK (x y : Place) : eqC Tryz.prog 9 158 (pVs x) (pVs y) = some (decide (x = y)) := (q_Place x y).1
theorem formed_pV (x : Place) : (pV x).formed Tryz.prog 158 = true := by kernel_rfl
theorem mapT : MapT Tryz.prog 212 := by
  refine ⟨158, 3, Tryz.underlying212, ⟨_, Tryz.underlying158⟩, fun x y w => ?_, fun e x w => ?_, fun w => ?_⟩
  · exact eqC_ok (P := Tryz.prog) w 9991 9 158 (pVs x) (pVs y) _ (pV x) (pV y) (e_PlaceK x y) (formed_pV x) (formed_pV y) rfl rfl
  · exact ckC_ok (P := Tryz.prog) w e 9991 9 158 (pVs x) _ (pV x) (e_PlaceK x x) (formed_pV x) rfl
  · kernel_rfl
end Go.Proofs.AM
