/- A part of the proof: the walk of functions of the program, or the rules of the walk. -/
import Derived.Test.YthilnfccfjcgfaaGreatA1E
import Derived.Test.YthilnfccfjcgfaaGreatAmEq
import Derived.Test.YthilnfccfjcgfaaGreatAmPure2
set_option linter.unusedSimpArgs false
set_option linter.unusedVariables false
namespace Go.Proofs.AM
open Go Go.Proofs
attribute [go_sem] sendPlace recvPlace muPlace
def vPlace (x : Place) : List Value := [.bool x.mutex, .int .i64 x.obj, .bool x.send, .int .i64 x.w.g, .int .i64 x.w.cs, .int .i64 x.w.val]
theorem e_Place (x y : Place) : eqC Tryz.prog 9 158 (vPlace x) (vPlace y) = some ((x.mutex == y.mutex) && ((x.obj == y.obj) && ((x.send == y.send) && (((x.w.g == y.w.g) && ((x.w.cs == y.w.cs) && ((x.w.val == y.w.val) && true))) && true)))) := by kernel_rfl
theorem q_Place (x y : Place) : EqT Tryz.prog 158 (vPlace x) (vPlace y) (decide (x = y)) := by
  refine ⟨?_, ⟨_, Tryz.underlying158⟩, by kernel_rfl⟩
  rw [e_Place]
  obtain ⟨a, b, c, d, e, f⟩ := x
  obtain ⟨a', b', c', d', e', f'⟩ := y
  congr 1
  rw [Bool.eq_iff_iff]
  simp
end Go.Proofs.AM
