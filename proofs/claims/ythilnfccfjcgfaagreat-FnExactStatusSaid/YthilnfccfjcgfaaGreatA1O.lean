/- A part of the proof: the walk of functions of the program, or the rules of the walk. -/
import Derived.Test.YthilnfccfjcgfaaGreatA1E
import Derived.Test.YthilnfccfjcgfaaGreatA1O0
set_option linter.unusedSimpArgs false
set_option linter.unusedVariables false
namespace Go.Proofs.AM
open Go Go.Proofs
theorem o_3 : Opens Tryz.prog TA.Z 3 fun y => ∃ x : Int, y = eInt x := opens_int Tryz.underlying3 (by kernel_rfl)
theorem o_22 : Opens Tryz.prog TA.Z 22 fun y => ∃ xs : List Int, y = [.ls .o 3 (xs.map eInt)] := opens_list (n := 0) Tryz.underlying22 (by kernel_rfl) (by kernel_rfl) (by kernel_rfl) o_3
theorem o_4 : Opens Tryz.prog TA.Z 4 fun y => ∃ b : Bool, y = [.sc (.bool b)] := opens_bool Tryz.underlying4 (by kernel_rfl)
theorem o_310 : Opens Tryz.prog TA.Z 310 fun y => ∃ x : Case, y = eCase x := (opens_struct Tryz.underlying310 (by kernel_rfl) (.cons o_4 (.cons o_3 (.cons o_3 (.cons o_3 (.cons o_3 .nil)))))).mono fun y h => by obtain ⟨_, ⟨x0, rfl⟩, _, ⟨_, ⟨x1, rfl⟩, _, ⟨_, ⟨x2, rfl⟩, _, ⟨_, ⟨x3, rfl⟩, _, ⟨_, ⟨x4, rfl⟩, _, rfl, rfl⟩, rfl⟩, rfl⟩, rfl⟩, rfl⟩ := h; exact ⟨⟨x0, x1, x2, x3, x4⟩, rfl⟩
theorem o_180 : Opens Tryz.prog TA.Z 180 fun y => ∃ xs : List Case, y = [.ls .o 310 (xs.map eCase)] := opens_list (n := 4) Tryz.underlying180 (by kernel_rfl) (by kernel_rfl) (by kernel_rfl) o_310
theorem o_182 : Opens Tryz.prog TA.Z 182 fun y => ∃ x : Select, y = eSelL x := (opens_struct Tryz.underlying182 (by kernel_rfl) (.cons o_180 (.cons o_3 .nil))).mono fun y h => by obtain ⟨_, ⟨x0, rfl⟩, _, ⟨_, ⟨x1, rfl⟩, _, rfl, rfl⟩, rfl⟩ := h; exact ⟨⟨x0, x1⟩, rfl⟩
theorem o_23 : Opens Tryz.prog TA.Z 23 fun y => ∃ xs : List Select, y = [.ls .o 182 (xs.map eSelL)] := opens_list (n := 1) Tryz.underlying23 (by kernel_rfl) (by kernel_rfl) (by kernel_rfl) o_182
theorem o_312 : Opens Tryz.prog TA.Z 312 fun y => ∃ x : Instr, y = eInstr x := (opens_struct Tryz.underlying312 (by kernel_rfl) (.cons o_3 (.cons o_3 (.cons o_3 (.cons o_3 .nil))))).mono fun y h => by obtain ⟨_, ⟨x0, rfl⟩, _, ⟨_, ⟨x1, rfl⟩, _, ⟨_, ⟨x2, rfl⟩, _, ⟨_, ⟨x3, rfl⟩, _, rfl, rfl⟩, rfl⟩, rfl⟩, rfl⟩ := h; exact ⟨⟨x0, x1, x2, x3⟩, rfl⟩
theorem o_184 : Opens Tryz.prog TA.Z 184 fun y => ∃ xs : List Instr, y = [.ls .o 312 (xs.map eInstr)] := opens_list (n := 3) Tryz.underlying184 (by kernel_rfl) (by kernel_rfl) (by kernel_rfl) o_312
theorem o_186 : Opens Tryz.prog TA.Z 186 fun y => ∃ x : Proc, y = eProcL x := (opens_struct Tryz.underlying186 (by kernel_rfl) (.cons o_184 .nil)).mono fun y h => by obtain ⟨_, ⟨x0, rfl⟩, _, rfl, rfl⟩ := h; exact ⟨⟨x0⟩, rfl⟩
theorem o_24 : Opens Tryz.prog TA.Z 24 fun y => ∃ xs : List Proc, y = [.ls .o 186 (xs.map eProcL)] := opens_list (n := 0) Tryz.underlying24 (by kernel_rfl) (by kernel_rfl) (by kernel_rfl) o_186
theorem o_26 : Opens Tryz.prog TA.Z 26 fun y => ∃ x : Prog, y = eProgL x := (opens_struct Tryz.underlying26 (by kernel_rfl) (.cons o_22 (.cons o_3 (.cons o_23 (.cons o_24 .nil))))).mono fun y h => by obtain ⟨_, ⟨x0, rfl⟩, _, ⟨_, ⟨x1, rfl⟩, _, ⟨_, ⟨x2, rfl⟩, _, ⟨_, ⟨x3, rfl⟩, _, rfl, rfl⟩, rfl⟩, rfl⟩, rfl⟩ := h; exact ⟨⟨x0, x1, x2, x3⟩, rfl⟩
theorem o_314 : Opens Tryz.prog TA.Z 314 fun y => ∃ x : Item, y = eItem x := (opens_struct Tryz.underlying314 (by kernel_rfl) (.cons o_3 (.cons o_3 (.cons o_3 (.cons o_4 .nil))))).mono fun y h => by obtain ⟨_, ⟨x0, rfl⟩, _, ⟨_, ⟨x1, rfl⟩, _, ⟨_, ⟨x2, rfl⟩, _, ⟨_, ⟨x3, rfl⟩, _, rfl, rfl⟩, rfl⟩, rfl⟩, rfl⟩ := h; exact ⟨⟨x0, x1, x2, x3⟩, rfl⟩
theorem o_188 : Opens Tryz.prog TA.Z 188 fun y => ∃ xs : List Item, y = [.ls .o 314 (xs.map eItem)] := opens_list (n := 3) Tryz.underlying188 (by kernel_rfl) (by kernel_rfl) (by kernel_rfl) o_314
theorem o_190 : Opens Tryz.prog TA.Z 190 fun y => ∃ x : Gor, y = eGorL x := (opens_struct Tryz.underlying190 (by kernel_rfl) (.cons o_3 (.cons o_3 (.cons o_22 (.cons o_3 (.cons o_188 .nil)))))).mono fun y h => by obtain ⟨_, ⟨x0, rfl⟩, _, ⟨_, ⟨x1, rfl⟩, _, ⟨_, ⟨x2, rfl⟩, _, ⟨_, ⟨x3, rfl⟩, _, ⟨_, ⟨x4, rfl⟩, _, rfl, rfl⟩, rfl⟩, rfl⟩, rfl⟩, rfl⟩ := h; exact ⟨⟨x0, x1, x2, x3, x4⟩, rfl⟩
theorem o_27 : Opens Tryz.prog TA.Z 27 fun y => ∃ xs : List Gor, y = [.ls .o 190 (xs.map eGorL)] := opens_list (n := 4) Tryz.underlying27 (by kernel_rfl) (by kernel_rfl) (by kernel_rfl) o_190
theorem o_59 : Opens Tryz.prog TA.Z 59 fun y => ∃ x : Waiter, y = eWaiter x := (opens_struct Tryz.underlying59 (by kernel_rfl) (.cons o_3 (.cons o_3 (.cons o_3 .nil)))).mono fun y h => by obtain ⟨_, ⟨x0, rfl⟩, _, ⟨_, ⟨x1, rfl⟩, _, ⟨_, ⟨x2, rfl⟩, _, rfl, rfl⟩, rfl⟩, rfl⟩ := h; exact ⟨⟨x0, x1, x2⟩, rfl⟩
theorem o_192 : Opens Tryz.prog TA.Z 192 fun y => ∃ xs : List Waiter, y = [.ls .o 59 (xs.map eWaiter)] := opens_list (n := 2) Tryz.underlying192 (by kernel_rfl) (by kernel_rfl) (by kernel_rfl) o_59
theorem o_194 : Opens Tryz.prog TA.Z 194 fun y => ∃ x : Chan, y = eChanL x := (opens_struct Tryz.underlying194 (by kernel_rfl) (.cons o_3 (.cons o_22 (.cons o_192 (.cons o_192 (.cons o_4 .nil)))))).mono fun y h => by obtain ⟨_, ⟨x0, rfl⟩, _, ⟨_, ⟨x1, rfl⟩, _, ⟨_, ⟨x2, rfl⟩, _, ⟨_, ⟨x3, rfl⟩, _, ⟨_, ⟨x4, rfl⟩, _, rfl, rfl⟩, rfl⟩, rfl⟩, rfl⟩, rfl⟩ := h; exact ⟨⟨x0, x1, x2, x3, x4⟩, rfl⟩
theorem o_28 : Opens Tryz.prog TA.Z 28 fun y => ∃ xs : List Chan, y = [.ls .o 194 (xs.map eChanL)] := opens_list (n := 4) Tryz.underlying28 (by kernel_rfl) (by kernel_rfl) (by kernel_rfl) o_194
theorem o_196 : Opens Tryz.prog TA.Z 196 fun y => ∃ x : Mutex, y = eMutexL x := (opens_struct Tryz.underlying196 (by kernel_rfl) (.cons o_3 (.cons o_22 .nil))).mono fun y h => by obtain ⟨_, ⟨x0, rfl⟩, _, ⟨_, ⟨x1, rfl⟩, _, rfl, rfl⟩, rfl⟩ := h; exact ⟨⟨x0, x1⟩, rfl⟩
theorem o_29 : Opens Tryz.prog TA.Z 29 fun y => ∃ xs : List Mutex, y = [.ls .o 196 (xs.map eMutexL)] := opens_list (n := 1) Tryz.underlying29 (by kernel_rfl) (by kernel_rfl) (by kernel_rfl) o_196
theorem o_31 : Opens Tryz.prog TA.Z 31 fun y => ∃ x : Eng, y = eEngL x := (opens_struct Tryz.underlying31 (by kernel_rfl) (.cons o_27 (.cons o_28 (.cons o_29 .nil)))).mono fun y h => by obtain ⟨_, ⟨x0, rfl⟩, _, ⟨_, ⟨x1, rfl⟩, _, ⟨_, ⟨x2, rfl⟩, _, rfl, rfl⟩, rfl⟩, rfl⟩ := h; exact ⟨⟨x0, x1, x2⟩, rfl⟩
end Go.Proofs.AM
