/- A part of the proof: the walk of functions of the program, or the rules of the walk. -/
import Derived.Test.YthilnfccfjcgfaaGreatAmFast
import Derived.Test.YthilnfccfjcgfaaGreatAmPure
import Derived.Test.YthilnfccfjcgfaaGreatA1T
set_option linter.unusedSimpArgs false
set_option linter.unusedVariables false
namespace Go.Proofs.AM
open Go Go.Proofs

@[go_sem] def eInt (n : Int) : List AV := [.sc (.int .i64 n)]
@[go_sem] def eInstr (x : Instr) : List AV := [.sc (.int .i64 x.op), .sc (.int .i64 x.a), .sc (.int .i64 x.b), .sc (.int .i64 x.c)]
@[go_sem] def eCase (x : Case) : List AV := [.sc (.bool x.send), .sc (.int .i64 x.ch), .sc (.int .i64 x.reg), .sc (.int .i64 x.ok), .sc (.int .i64 x.to)]
@[go_sem] def eItem (x : Item) : List AV := [.sc (.int .i64 x.kind), .sc (.int .i64 x.obj), .sc (.int .i64 x.val), .sc (.bool x.ok)]
@[go_sem] def eWaiter (x : Waiter) : List AV := [.sc (.int .i64 x.g), .sc (.int .i64 x.cs), .sc (.int .i64 x.val)]
@[go_sem] def ePlace (x : Place) : List AV := [.sc (.bool x.mutex), .sc (.int .i64 x.obj), .sc (.bool x.send), .sc (.int .i64 x.w.g), .sc (.int .i64 x.w.cs), .sc (.int .i64 x.w.val)]
@[go_sem] def ePick (x : Pick) : List AV := [.sc (.int .i64 x.g), .sc (.int .i64 x.c)]
@[go_sem] def eDeed (x : Deed) : List AV := [.sc (.int .i64 x.g), .sc (.int .i64 x.op), .sc (.int .i64 x.obj), .sc (.int .i64 x.cs)]
@[go_sem] def eSelL (x : Select) : List AV := [.ls .o 310 (x.cases.map eCase), .sc (.int .i64 x.els)]
@[go_sem] def eProcL (x : Proc) : List AV := [.ls .o 312 (x.code.map eInstr)]
@[go_sem] def eProgL (x : Prog) : List AV := [.ls .o 3 (x.caps.map eInt), .sc (.int .i64 x.mus), .ls .o 182 (x.sels.map eSelL), .ls .o 186 (x.procs.map eProcL)]
@[go_sem] def eGorL (x : Gor) : List AV := [.sc (.int .i64 x.proc), .sc (.int .i64 x.pc), .ls .o 3 (x.regs.map eInt), .sc (.int .i64 x.state), .ls .o 314 (x.trace.map eItem)]
@[go_sem] def eChanL (x : Chan) : List AV := [.sc (.int .i64 x.cap), .ls .o 3 (x.buf.map eInt), .ls .o 59 (x.sends.map eWaiter), .ls .o 59 (x.recvs.map eWaiter), .sc (.bool x.closed)]
@[go_sem] def eMutexL (x : Mutex) : List AV := [.sc (.int .i64 x.owner), .ls .o 3 (x.wait.map eInt)]
@[go_sem] def eEngL (x : Eng) : List AV := [.ls .o 190 (x.gs.map eGorL), .ls .o 194 (x.chans.map eChanL), .ls .o 196 (x.mus.map eMutexL)]
@[go_sem] def eSelI (x : Select) : List AV := [.ls .o 139 (x.cases.map eCase), .sc (.int .i64 x.els)]
@[go_sem] def eProcI (x : Proc) : List AV := [.ls .o 132 (x.code.map eInstr)]
@[go_sem] def eProgI (x : Prog) : List AV := [.ls .o 3 (x.caps.map eInt), .sc (.int .i64 x.mus), .ls .o 144 (x.sels.map eSelI), .ls .o 204 (x.procs.map eProcI)]
@[go_sem] def eGorI (x : Gor) : List AV := [.sc (.int .i64 x.proc), .sc (.int .i64 x.pc), .ls .o 3 (x.regs.map eInt), .sc (.int .i64 x.state), .ls .o 234 (x.trace.map eItem)]
@[go_sem] def eChanI (x : Chan) : List AV := [.sc (.int .i64 x.cap), .ls .o 3 (x.buf.map eInt), .ls .o 62 (x.sends.map eWaiter), .ls .o 62 (x.recvs.map eWaiter), .sc (.bool x.closed)]
@[go_sem] def eMutexI (x : Mutex) : List AV := [.sc (.int .i64 x.owner), .ls .o 3 (x.wait.map eInt)]
@[go_sem] def eEngI (x : Eng) : List AV := [.ls .o 136 (x.gs.map eGorI), .ls .o 209 (x.chans.map eChanI), .ls .o 141 (x.mus.map eMutexI)]
theorem nInt (x : Int) : noAs false (eInt x) = true := rfl
theorem nInstr (x : Instr) : noAs false (eInstr x) = true := rfl
theorem nCase (x : Case) : noAs false (eCase x) = true := rfl
theorem nItem (x : Item) : noAs false (eItem x) = true := rfl
theorem nWaiter (x : Waiter) : noAs false (eWaiter x) = true := rfl
theorem nPlace (x : Place) : noAs false (ePlace x) = true := rfl
theorem nPick (x : Pick) : noAs false (ePick x) = true := rfl
theorem nDeed (x : Deed) : noAs false (eDeed x) = true := rfl
theorem nSelL (x : Select) : noAs false (eSelL x) = true := by simp [eSelL, noAs, noA, noAss_map nCase]
theorem nProcL (x : Proc) : noAs false (eProcL x) = true := by simp [eProcL, noAs, noA, noAss_map nInstr]
theorem nGorL (x : Gor) : noAs false (eGorL x) = true := by simp [eGorL, noAs, noA, noAss_map nInt, noAss_map nItem]
theorem nChanL (x : Chan) : noAs false (eChanL x) = true := by simp [eChanL, noAs, noA, noAss_map nInt, noAss_map nWaiter]
theorem nMutexL (x : Mutex) : noAs false (eMutexL x) = true := by simp [eMutexL, noAs, noA, noAss_map nInt]
theorem nProgL (x : Prog) : noAs false (eProgL x) = true := by simp [eProgL, noAs, noA, noAss_map nInt, noAss_map nSelL, noAss_map nProcL]
theorem nEngL (x : Eng) : noAs false (eEngL x) = true := by simp [eEngL, noAs, noA, noAss_map nGorL, noAss_map nChanL, noAss_map nMutexL]
theorem nSelI (x : Select) : noAs false (eSelI x) = true := by simp [eSelI, noAs, noA, noAss_map nCase]
theorem nProcI (x : Proc) : noAs false (eProcI x) = true := by simp [eProcI, noAs, noA, noAss_map nInstr]
theorem nGorI (x : Gor) : noAs false (eGorI x) = true := by simp [eGorI, noAs, noA, noAss_map nInt, noAss_map nItem]
theorem nChanI (x : Chan) : noAs false (eChanI x) = true := by simp [eChanI, noAs, noA, noAss_map nInt, noAss_map nWaiter]
theorem nMutexI (x : Mutex) : noAs false (eMutexI x) = true := by simp [eMutexI, noAs, noA, noAss_map nInt]
theorem nProgI (x : Prog) : noAs false (eProgI x) = true := by simp [eProgI, noAs, noA, noAss_map nInt, noAss_map nSelI, noAss_map nProcI]
theorem nEngI (x : Eng) : noAs false (eEngI x) = true := by simp [eEngI, noAs, noA, noAss_map nGorI, noAss_map nChanI, noAss_map nMutexI]
end Go.Proofs.AM
