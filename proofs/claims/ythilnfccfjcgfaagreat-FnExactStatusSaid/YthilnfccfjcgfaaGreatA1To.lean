/- A part of the proof: the walk of functions of the program, or the rules of the walk. -/
import Derived.Test.YthilnfccfjcgfaaGreatA1E
set_option linter.unusedSimpArgs false
set_option linter.unusedVariables false
namespace Go.Proofs.AM
open Go Go.Proofs
set_option maxHeartbeats 4000000

def fitSelect (x : Select) : Prop := x.cases.length ≤ 1048576
def fitProc (x : Proc) : Prop := x.code.length ≤ 1048576
def fitMutex (x : Mutex) : Prop := x.wait.length ≤ 1048576
def fitGor (x : Gor) : Prop := x.regs.length ≤ 1048576 ∧ x.trace.length ≤ 1048576
def fitChan (x : Chan) : Prop := x.buf.length ≤ 1048576 ∧ x.sends.length ≤ 1048576 ∧ x.recvs.length ≤ 1048576
def fitProg (x : Prog) : Prop := x.caps.length ≤ 1048576 ∧ x.sels.length ≤ 1048576 ∧ (∀ y ∈ x.sels, fitSelect y) ∧ x.procs.length ≤ 1048576 ∧ (∀ y ∈ x.procs, fitProc y)
def fitEng (x : Eng) : Prop := x.gs.length ≤ 1048576 ∧ (∀ y ∈ x.gs, fitGor y) ∧ x.chans.length ≤ 1048576 ∧ (∀ y ∈ x.chans, fitChan y) ∧ x.mus.length ≤ 1048576 ∧ (∀ y ∈ x.mus, fitMutex y)

theorem c_laws_toIntS (xs : List Int) (hx : xs.length ≤ 1048576) : FnC Tryz.prog TA false 89 [.ls .o 3 (xs.map eInt)] [] (.ls .o 3 (xs.map eInt)) [] := by
 refine .ini Tryz.ntmps89 Tryz.results89 ?_; have hmk : (0 ≤ (xs.length : Int) ∧ (xs.length : Int) * ((8 : Nat) : Int) ≤ 140737488355328) := by omega
 have hmx : (xs.length : Int) ≤ ((maxLen : Nat) : Int) := by rw [mxl]; omega
 obtain ⟨hmk1, hmk2⟩ := hmk; refine .seq (.region ?_); refine .o (.nil (.xseq (.seq (.region ?_)))); (iterate 3 refine .o ?_); refine .o (.nil (.xseq (.seq (.seq (.region ?_)))))
 refine .o (.nil (.xseq (.block (.loop ?_)))); refine .cut [0, 3, 4] 1 (Nat.zero_le _) ?_
 refine .eq ?_ (Go.iterH (fun i => ⟨[.ls .a 3 (xs.map eInt), .un, .un, .rf 0 0 xs.length, .sc (.int .i64 (i : Nat)), .un, .un, .un, .un, .un, .un, .un, .un, .un, .un, .un, .un, .un, .un, .un, .un, .un], [(0, ⟨3, false, fillTo eInt [.sc (.int .i64 0)] xs i⟩)], 1, 0, []⟩) (fun i => True) xs.length (fun i hi hH ih => ?_) 0 (Nat.zero_le _) (trivial))
 · (simp only [go_sem, fillTo_0]; try rfl)
 refine .seq (.seq (.region ?_)); (iterate 3 refine .o ?_); refine .o (.nil (.xseq ?_)); refine .cs (fun h0 => ?_) (fun h0 => ?_)
 · have hlt : i < xs.length := by simpa using h0
   obtain ⟨x, hx, hdx⟩ := drop_cons hlt; have hi0 : (0 : Int) ≤ (i : Int) := Int.natCast_nonneg i; have hic : (i : Int) < ((xs.length : Nat) : Int) := by omega
   have hw : IntKind.i64.wrap ((i : Int) + 1) = ((i + 1 : Nat) : Int) := by rw [w64 (by omega) (by omega)]; rfl
   have hft := fillTo_get (f := eInt) (z := [.sc (.int .i64 0)]) hlt; refine .skip (.xseq (.seq (.block (.region ?_)))); (iterate 7 refine .o ?_)
   refine .o (.nil (.xblk (.xseq (.region ?_)))); (iterate 2 refine .o ?_); refine .o (.nil ?_); refine .xlp (.cut [0, 3, 4] 1 (Nat.zero_le _) (.eq ?_ (ih (by assumption) ?_)))
   · (simp only [go_sem, hw, ← fillTo_set hx]; try rfl)
   · trivial
 · refine .exit (.eseq (.elp (.eblk (.xseq (.seq (.region ?_)))))); refine .o ?_; refine .o (.nil (.xseq (.ret (.done ?_)))); refine .mk ?_ (hn := noAss_map nInt xs)
   (try simp only [Hb_iff] at *); have : xs.length ≤ i := by simpa using h0
   simp only [List.drop_zero, fillTo_all this]

theorem c_laws_toCase (x : Case) : FnC Tryz.prog TA false 325 [.agg (eCase x)] [] (.agg (eCase x)) [] := by
 refine .ini Tryz.ntmps325 Tryz.results325 ?_; refine .seq (.region ?_); refine .o ?_; refine .o (.nil (.xseq (.seq (.region ?_)))); refine .o (.nil (.xseq (.seq (.region ?_))))
 (iterate 3 refine .o ?_); refine .o (.nil (.xseq (.seq (.region ?_)))); (iterate 3 refine .o ?_); refine .o (.nil (.xseq (.seq (.region ?_)))); (iterate 3 refine .o ?_)
 refine .o (.nil (.xseq (.seq (.region ?_)))); (iterate 3 refine .o ?_); refine .o (.nil (.xseq (.seq (.region ?_)))); (iterate 3 refine .o ?_)
 refine .o (.nil (.xseq (.seq (.region ?_)))); refine .o ?_; refine .o (.nil (.xseq (.ret (.done ?_)))); refine .mk ?_ (hn := nCase x); (try simp only [Hb_iff] at *)
 first | rfl | simp only [go_sem]

theorem c_laws_toInstr (x : Instr) : FnC Tryz.prog TA false 326 [.agg (eInstr x)] [] (.agg (eInstr x)) [] := by
 refine .ini Tryz.ntmps326 Tryz.results326 ?_; refine .seq (.region ?_); refine .o ?_; refine .o (.nil (.xseq (.seq (.region ?_)))); refine .o (.nil (.xseq (.seq (.region ?_))))
 (iterate 3 refine .o ?_); refine .o (.nil (.xseq (.seq (.region ?_)))); (iterate 3 refine .o ?_); refine .o (.nil (.xseq (.seq (.region ?_)))); (iterate 3 refine .o ?_)
 refine .o (.nil (.xseq (.seq (.region ?_)))); (iterate 3 refine .o ?_); refine .o (.nil (.xseq (.seq (.region ?_)))); refine .o ?_; refine .o (.nil (.xseq (.ret (.done ?_))))
 refine .mk ?_ (hn := nInstr x); (try simp only [Hb_iff] at *); first | rfl | simp only [go_sem]

theorem c_laws_toItem (x : Item) : FnC Tryz.prog TA false 327 [.agg (eItem x)] [] (.agg (eItem x)) [] := by
 refine .ini Tryz.ntmps327 Tryz.results327 ?_; refine .seq (.region ?_); refine .o ?_; refine .o (.nil (.xseq (.seq (.region ?_)))); refine .o (.nil (.xseq (.seq (.region ?_))))
 (iterate 3 refine .o ?_); refine .o (.nil (.xseq (.seq (.region ?_)))); (iterate 3 refine .o ?_); refine .o (.nil (.xseq (.seq (.region ?_)))); (iterate 3 refine .o ?_)
 refine .o (.nil (.xseq (.seq (.region ?_)))); (iterate 3 refine .o ?_); refine .o (.nil (.xseq (.seq (.region ?_)))); refine .o ?_; refine .o (.nil (.xseq (.ret (.done ?_))))
 refine .mk ?_ (hn := nItem x); (try simp only [Hb_iff] at *); first | rfl | simp only [go_sem]

theorem c_laws_toWaiter (x : Waiter) : FnC Tryz.prog TA false 41 [.agg (eWaiter x)] [] (.agg (eWaiter x)) [] := by
 refine .ini Tryz.ntmps41 Tryz.results41 ?_; refine .seq (.region ?_); refine .o ?_; refine .o (.nil (.xseq (.seq (.region ?_)))); refine .o (.nil (.xseq (.seq (.region ?_))))
 (iterate 3 refine .o ?_); refine .o (.nil (.xseq (.seq (.region ?_)))); (iterate 3 refine .o ?_); refine .o (.nil (.xseq (.seq (.region ?_)))); (iterate 3 refine .o ?_)
 refine .o (.nil (.xseq (.seq (.region ?_)))); refine .o ?_; refine .o (.nil (.xseq (.ret (.done ?_)))); refine .mk ?_ (hn := nWaiter x); (try simp only [Hb_iff] at *)
 first | rfl | simp only [go_sem]

theorem c_laws_toCaseS (xs : List Case) (hx : xs.length ≤ 1048576) : FnC Tryz.prog TA false 275 [.ls .o 310 (xs.map eCase)] [] (.ls .o 139 (xs.map eCase)) [] := by
 refine .ini Tryz.ntmps275 Tryz.results275 ?_; have hmk : (0 ≤ (xs.length : Int) ∧ (xs.length : Int) * ((40 : Nat) : Int) ≤ 140737488355328) := by omega
 have hmx : (xs.length : Int) ≤ ((maxLen : Nat) : Int) := by rw [mxl]; omega
 obtain ⟨hmk1, hmk2⟩ := hmk; refine .seq (.region ?_); refine .o (.nil (.xseq (.seq (.region ?_)))); (iterate 3 refine .o ?_); refine .o (.nil (.xseq (.seq (.seq (.region ?_)))))
 refine .o (.nil (.xseq (.block (.loop ?_)))); refine .cut [0, 3, 4] 1 (Nat.zero_le _) ?_
 refine .eq ?_ (Go.iterH (fun i => ⟨[.ls .a 310 (xs.map eCase), .un, .un, .rf 0 0 xs.length, .sc (.int .i64 (i : Nat)), .un, .un, .un, .un, .un, .un, .un, .un, .un, .un, .un, .un, .un, .un, .un, .un, .un, .un], [(0, ⟨139, false, fillTo eCase [.sc (.bool false), .sc (.int .i64 0), .sc (.int .i64 0), .sc (.int .i64 0), .sc (.int .i64 0)] xs i⟩)], 1, 0, []⟩) (fun i => True) xs.length (fun i hi hH ih => ?_) 0 (Nat.zero_le _) (trivial))
 · (simp only [go_sem, fillTo_0]; try rfl)
 refine .seq (.seq (.region ?_)); (iterate 3 refine .o ?_); refine .o (.nil (.xseq ?_)); refine .cs (fun h0 => ?_) (fun h0 => ?_)
 · have hlt : i < xs.length := by simpa using h0
   obtain ⟨x, hx, hdx⟩ := drop_cons hlt; have hi0 : (0 : Int) ≤ (i : Int) := Int.natCast_nonneg i; have hic : (i : Int) < ((xs.length : Nat) : Int) := by omega
   have hw : IntKind.i64.wrap ((i : Int) + 1) = ((i + 1 : Nat) : Int) := by rw [w64 (by omega) (by omega)]; rfl
   have hft := fillTo_get (f := eCase) (z := [.sc (.bool false), .sc (.int .i64 0), .sc (.int .i64 0), .sc (.int .i64 0), .sc (.int .i64 0)]) hlt
   refine .skip (.xseq (.seq (.block (.region ?_)))); (iterate 5 refine .o ?_); refine .o ?_; refine .cl (c_laws_toCase x) ?_; refine .o ?_
   refine .o (.nil (.xblk (.xseq (.region ?_)))); (iterate 2 refine .o ?_); refine .o (.nil ?_); refine .xlp (.cut [0, 3, 4] 1 (Nat.zero_le _) (.eq ?_ (ih (by assumption) ?_)))
   · (simp only [go_sem, hw, ← fillTo_set hx]; try rfl)
   · trivial
 · refine .exit (.eseq (.elp (.eblk (.xseq (.seq (.region ?_)))))); refine .o ?_; refine .o (.nil (.xseq (.ret (.done ?_)))); refine .mk ?_ (hn := noAss_map nCase xs)
   (try simp only [Hb_iff] at *); have : xs.length ≤ i := by simpa using h0
   simp only [List.drop_zero, fillTo_all this]

theorem c_laws_toInstrS (xs : List Instr) (hx : xs.length ≤ 1048576) : FnC Tryz.prog TA false 276 [.ls .o 312 (xs.map eInstr)] [] (.ls .o 132 (xs.map eInstr)) [] := by
 refine .ini Tryz.ntmps276 Tryz.results276 ?_; have hmk : (0 ≤ (xs.length : Int) ∧ (xs.length : Int) * ((32 : Nat) : Int) ≤ 140737488355328) := by omega
 have hmx : (xs.length : Int) ≤ ((maxLen : Nat) : Int) := by rw [mxl]; omega
 obtain ⟨hmk1, hmk2⟩ := hmk; refine .seq (.region ?_); refine .o (.nil (.xseq (.seq (.region ?_)))); (iterate 3 refine .o ?_); refine .o (.nil (.xseq (.seq (.seq (.region ?_)))))
 refine .o (.nil (.xseq (.block (.loop ?_)))); refine .cut [0, 3, 4] 1 (Nat.zero_le _) ?_
 refine .eq ?_ (Go.iterH (fun i => ⟨[.ls .a 312 (xs.map eInstr), .un, .un, .rf 0 0 xs.length, .sc (.int .i64 (i : Nat)), .un, .un, .un, .un, .un, .un, .un, .un, .un, .un, .un, .un, .un, .un, .un, .un, .un, .un], [(0, ⟨132, false, fillTo eInstr [.sc (.int .i64 0), .sc (.int .i64 0), .sc (.int .i64 0), .sc (.int .i64 0)] xs i⟩)], 1, 0, []⟩) (fun i => True) xs.length (fun i hi hH ih => ?_) 0 (Nat.zero_le _) (trivial))
 · (simp only [go_sem, fillTo_0]; try rfl)
 refine .seq (.seq (.region ?_)); (iterate 3 refine .o ?_); refine .o (.nil (.xseq ?_)); refine .cs (fun h0 => ?_) (fun h0 => ?_)
 · have hlt : i < xs.length := by simpa using h0
   obtain ⟨x, hx, hdx⟩ := drop_cons hlt; have hi0 : (0 : Int) ≤ (i : Int) := Int.natCast_nonneg i; have hic : (i : Int) < ((xs.length : Nat) : Int) := by omega
   have hw : IntKind.i64.wrap ((i : Int) + 1) = ((i + 1 : Nat) : Int) := by rw [w64 (by omega) (by omega)]; rfl
   have hft := fillTo_get (f := eInstr) (z := [.sc (.int .i64 0), .sc (.int .i64 0), .sc (.int .i64 0), .sc (.int .i64 0)]) hlt; refine .skip (.xseq (.seq (.block (.region ?_))))
   (iterate 5 refine .o ?_); refine .o ?_; refine .cl (c_laws_toInstr x) ?_; refine .o ?_; refine .o (.nil (.xblk (.xseq (.region ?_)))); (iterate 2 refine .o ?_); refine .o (.nil ?_)
   refine .xlp (.cut [0, 3, 4] 1 (Nat.zero_le _) (.eq ?_ (ih (by assumption) ?_)))
   · (simp only [go_sem, hw, ← fillTo_set hx]; try rfl)
   · trivial
 · refine .exit (.eseq (.elp (.eblk (.xseq (.seq (.region ?_)))))); refine .o ?_; refine .o (.nil (.xseq (.ret (.done ?_)))); refine .mk ?_ (hn := noAss_map nInstr xs)
   (try simp only [Hb_iff] at *); have : xs.length ≤ i := by simpa using h0
   simp only [List.drop_zero, fillTo_all this]

theorem c_laws_toItemS (xs : List Item) (hx : xs.length ≤ 1048576) : FnC Tryz.prog TA false 277 [.ls .o 314 (xs.map eItem)] [] (.ls .o 234 (xs.map eItem)) [] := by
 refine .ini Tryz.ntmps277 Tryz.results277 ?_; have hmk : (0 ≤ (xs.length : Int) ∧ (xs.length : Int) * ((32 : Nat) : Int) ≤ 140737488355328) := by omega
 have hmx : (xs.length : Int) ≤ ((maxLen : Nat) : Int) := by rw [mxl]; omega
 obtain ⟨hmk1, hmk2⟩ := hmk; refine .seq (.region ?_); refine .o (.nil (.xseq (.seq (.region ?_)))); (iterate 3 refine .o ?_); refine .o (.nil (.xseq (.seq (.seq (.region ?_)))))
 refine .o (.nil (.xseq (.block (.loop ?_)))); refine .cut [0, 3, 4] 1 (Nat.zero_le _) ?_
 refine .eq ?_ (Go.iterH (fun i => ⟨[.ls .a 314 (xs.map eItem), .un, .un, .rf 0 0 xs.length, .sc (.int .i64 (i : Nat)), .un, .un, .un, .un, .un, .un, .un, .un, .un, .un, .un, .un, .un, .un, .un, .un, .un, .un], [(0, ⟨234, false, fillTo eItem [.sc (.int .i64 0), .sc (.int .i64 0), .sc (.int .i64 0), .sc (.bool false)] xs i⟩)], 1, 0, []⟩) (fun i => True) xs.length (fun i hi hH ih => ?_) 0 (Nat.zero_le _) (trivial))
 · (simp only [go_sem, fillTo_0]; try rfl)
 refine .seq (.seq (.region ?_)); (iterate 3 refine .o ?_); refine .o (.nil (.xseq ?_)); refine .cs (fun h0 => ?_) (fun h0 => ?_)
 · have hlt : i < xs.length := by simpa using h0
   obtain ⟨x, hx, hdx⟩ := drop_cons hlt; have hi0 : (0 : Int) ≤ (i : Int) := Int.natCast_nonneg i; have hic : (i : Int) < ((xs.length : Nat) : Int) := by omega
   have hw : IntKind.i64.wrap ((i : Int) + 1) = ((i + 1 : Nat) : Int) := by rw [w64 (by omega) (by omega)]; rfl
   have hft := fillTo_get (f := eItem) (z := [.sc (.int .i64 0), .sc (.int .i64 0), .sc (.int .i64 0), .sc (.bool false)]) hlt; refine .skip (.xseq (.seq (.block (.region ?_))))
   (iterate 5 refine .o ?_); refine .o ?_; refine .cl (c_laws_toItem x) ?_; refine .o ?_; refine .o (.nil (.xblk (.xseq (.region ?_)))); (iterate 2 refine .o ?_); refine .o (.nil ?_)
   refine .xlp (.cut [0, 3, 4] 1 (Nat.zero_le _) (.eq ?_ (ih (by assumption) ?_)))
   · (simp only [go_sem, hw, ← fillTo_set hx]; try rfl)
   · trivial
 · refine .exit (.eseq (.elp (.eblk (.xseq (.seq (.region ?_)))))); refine .o ?_; refine .o (.nil (.xseq (.ret (.done ?_)))); refine .mk ?_ (hn := noAss_map nItem xs)
   (try simp only [Hb_iff] at *); have : xs.length ≤ i := by simpa using h0
   simp only [List.drop_zero, fillTo_all this]

theorem c_laws_toWaiterS (xs : List Waiter) (hx : xs.length ≤ 1048576) : FnC Tryz.prog TA false 278 [.ls .o 59 (xs.map eWaiter)] [] (.ls .o 62 (xs.map eWaiter)) [] := by
 refine .ini Tryz.ntmps278 Tryz.results278 ?_; have hmk : (0 ≤ (xs.length : Int) ∧ (xs.length : Int) * ((24 : Nat) : Int) ≤ 140737488355328) := by omega
 have hmx : (xs.length : Int) ≤ ((maxLen : Nat) : Int) := by rw [mxl]; omega
 obtain ⟨hmk1, hmk2⟩ := hmk; refine .seq (.region ?_); refine .o (.nil (.xseq (.seq (.region ?_)))); (iterate 3 refine .o ?_); refine .o (.nil (.xseq (.seq (.seq (.region ?_)))))
 refine .o (.nil (.xseq (.block (.loop ?_)))); refine .cut [0, 3, 4] 1 (Nat.zero_le _) ?_
 refine .eq ?_ (Go.iterH (fun i => ⟨[.ls .a 59 (xs.map eWaiter), .un, .un, .rf 0 0 xs.length, .sc (.int .i64 (i : Nat)), .un, .un, .un, .un, .un, .un, .un, .un, .un, .un, .un, .un, .un, .un, .un, .un, .un, .un], [(0, ⟨62, false, fillTo eWaiter [.sc (.int .i64 0), .sc (.int .i64 0), .sc (.int .i64 0)] xs i⟩)], 1, 0, []⟩) (fun i => True) xs.length (fun i hi hH ih => ?_) 0 (Nat.zero_le _) (trivial))
 · (simp only [go_sem, fillTo_0]; try rfl)
 refine .seq (.seq (.region ?_)); (iterate 3 refine .o ?_); refine .o (.nil (.xseq ?_)); refine .cs (fun h0 => ?_) (fun h0 => ?_)
 · have hlt : i < xs.length := by simpa using h0
   obtain ⟨x, hx, hdx⟩ := drop_cons hlt; have hi0 : (0 : Int) ≤ (i : Int) := Int.natCast_nonneg i; have hic : (i : Int) < ((xs.length : Nat) : Int) := by omega
   have hw : IntKind.i64.wrap ((i : Int) + 1) = ((i + 1 : Nat) : Int) := by rw [w64 (by omega) (by omega)]; rfl
   have hft := fillTo_get (f := eWaiter) (z := [.sc (.int .i64 0), .sc (.int .i64 0), .sc (.int .i64 0)]) hlt; refine .skip (.xseq (.seq (.block (.region ?_))))
   (iterate 5 refine .o ?_); refine .o ?_; refine .cl (c_laws_toWaiter x) ?_; refine .o ?_; refine .o (.nil (.xblk (.xseq (.region ?_)))); (iterate 2 refine .o ?_); refine .o (.nil ?_)
   refine .xlp (.cut [0, 3, 4] 1 (Nat.zero_le _) (.eq ?_ (ih (by assumption) ?_)))
   · (simp only [go_sem, hw, ← fillTo_set hx]; try rfl)
   · trivial
 · refine .exit (.eseq (.elp (.eblk (.xseq (.seq (.region ?_)))))); refine .o ?_; refine .o (.nil (.xseq (.ret (.done ?_)))); refine .mk ?_ (hn := noAss_map nWaiter xs)
   (try simp only [Hb_iff] at *); have : xs.length ≤ i := by simpa using h0
   simp only [List.drop_zero, fillTo_all this]

theorem c_laws_toSelect (x : Select) (hx : fitSelect x) : FnC Tryz.prog TA false 170 [.agg (eSelL x)] [] (.agg (eSelI x)) [] := by
 refine .ini Tryz.ntmps170 Tryz.results170 ?_; have f0 := hx; refine .seq (.region ?_); refine .o ?_; refine .o (.nil (.xseq (.seq (.region ?_))))
 refine .o (.nil (.xseq (.seq (.region ?_)))); refine .o ?_; refine .o ?_; refine .cl (c_laws_toCaseS x.cases f0) ?_; refine .o ?_; refine .o (.nil (.xseq (.seq (.region ?_))))
 (iterate 3 refine .o ?_); refine .o (.nil (.xseq (.seq (.region ?_)))); refine .o ?_; refine .o (.nil (.xseq (.ret (.done ?_)))); refine .mk ?_ (hn := nSelI x)
 (try simp only [Hb_iff] at *); first | rfl | simp only [go_sem]

theorem c_laws_toProc (x : Proc) (hx : fitProc x) : FnC Tryz.prog TA false 171 [.agg (eProcL x)] [] (.agg (eProcI x)) [] := by
 refine .ini Tryz.ntmps171 Tryz.results171 ?_; have f0 := hx; refine .seq (.region ?_); refine .o ?_; refine .o (.nil (.xseq (.seq (.region ?_))))
 refine .o (.nil (.xseq (.seq (.region ?_)))); refine .o ?_; refine .o ?_; refine .cl (c_laws_toInstrS x.code f0) ?_; refine .o ?_; refine .o (.nil (.xseq (.seq (.region ?_))))
 refine .o ?_; refine .o (.nil (.xseq (.ret (.done ?_)))); refine .mk ?_ (hn := nProcI x); (try simp only [Hb_iff] at *); first | rfl | simp only [go_sem]

theorem c_laws_toGor (x : Gor) (hx : fitGor x) : FnC Tryz.prog TA false 172 [.agg (eGorL x)] [] (.agg (eGorI x)) [] := by
 refine .ini Tryz.ntmps172 Tryz.results172 ?_; obtain ⟨f0, f1⟩ := hx; refine .seq (.region ?_); refine .o ?_; refine .o (.nil (.xseq (.seq (.region ?_))))
 refine .o (.nil (.xseq (.seq (.region ?_)))); (iterate 3 refine .o ?_); refine .o (.nil (.xseq (.seq (.region ?_)))); (iterate 3 refine .o ?_)
 refine .o (.nil (.xseq (.seq (.region ?_)))); refine .o ?_; refine .o ?_; refine .cl (c_laws_toIntS x.regs f0) ?_; refine .o ?_; refine .o (.nil (.xseq (.seq (.region ?_))))
 (iterate 3 refine .o ?_); refine .o (.nil (.xseq (.seq (.region ?_)))); refine .o ?_; refine .o ?_; refine .cl (c_laws_toItemS x.trace f1) ?_; refine .o ?_
 refine .o (.nil (.xseq (.seq (.region ?_)))); refine .o ?_; refine .o (.nil (.xseq (.ret (.done ?_)))); refine .mk ?_ (hn := nGorI x); (try simp only [Hb_iff] at *)
 first | rfl | simp only [go_sem]

theorem c_laws_toChan (x : Chan) (hx : fitChan x) : FnC Tryz.prog TA false 173 [.agg (eChanL x)] [] (.agg (eChanI x)) [] := by
 refine .ini Tryz.ntmps173 Tryz.results173 ?_; obtain ⟨f0, f1, f2⟩ := hx; refine .seq (.region ?_); refine .o ?_; refine .o (.nil (.xseq (.seq (.region ?_))))
 refine .o (.nil (.xseq (.seq (.region ?_)))); (iterate 3 refine .o ?_); refine .o (.nil (.xseq (.seq (.region ?_)))); refine .o ?_; refine .o ?_
 refine .cl (c_laws_toIntS x.buf f0) ?_; refine .o ?_; refine .o (.nil (.xseq (.seq (.region ?_)))); refine .o ?_; refine .o ?_; refine .cl (c_laws_toWaiterS x.sends f1) ?_
 refine .o ?_; refine .o (.nil (.xseq (.seq (.region ?_)))); refine .o ?_; refine .o ?_; refine .cl (c_laws_toWaiterS x.recvs f2) ?_; refine .o ?_
 refine .o (.nil (.xseq (.seq (.region ?_)))); (iterate 3 refine .o ?_); refine .o (.nil (.xseq (.seq (.region ?_)))); refine .o ?_; refine .o (.nil (.xseq (.ret (.done ?_))))
 refine .mk ?_ (hn := nChanI x); (try simp only [Hb_iff] at *); first | rfl | simp only [go_sem]

theorem c_laws_toMutex (x : Mutex) (hx : fitMutex x) : FnC Tryz.prog TA false 174 [.agg (eMutexL x)] [] (.agg (eMutexI x)) [] := by
 refine .ini Tryz.ntmps174 Tryz.results174 ?_; have f0 := hx; refine .seq (.region ?_); refine .o ?_; refine .o (.nil (.xseq (.seq (.region ?_))))
 refine .o (.nil (.xseq (.seq (.region ?_)))); (iterate 3 refine .o ?_); refine .o (.nil (.xseq (.seq (.region ?_)))); refine .o ?_; refine .o ?_
 refine .cl (c_laws_toIntS x.wait f0) ?_; refine .o ?_; refine .o (.nil (.xseq (.seq (.region ?_)))); refine .o ?_; refine .o (.nil (.xseq (.ret (.done ?_))))
 refine .mk ?_ (hn := nMutexI x); (try simp only [Hb_iff] at *); first | rfl | simp only [go_sem]

theorem c_laws_toSelectS (xs : List Select) (hx : xs.length ≤ 1048576) (hf : ∀ x ∈ xs, fitSelect x) : FnC Tryz.prog TA false 90 [.ls .o 182 (xs.map eSelL)] [] (.ls .o 144 (xs.map eSelI)) [] := by
 refine .ini Tryz.ntmps90 Tryz.results90 ?_; have hmk : (0 ≤ (xs.length : Int) ∧ (xs.length : Int) * ((32 : Nat) : Int) ≤ 140737488355328) := by omega
 have hmx : (xs.length : Int) ≤ ((maxLen : Nat) : Int) := by rw [mxl]; omega
 obtain ⟨hmk1, hmk2⟩ := hmk; refine .seq (.region ?_); refine .o (.nil (.xseq (.seq (.region ?_)))); (iterate 3 refine .o ?_); refine .o (.nil (.xseq (.seq (.seq (.region ?_)))))
 refine .o (.nil (.xseq (.block (.loop ?_)))); refine .cut [0, 3, 4] 1 (Nat.zero_le _) ?_
 refine .eq ?_ (Go.iterH (fun i => ⟨[.ls .a 182 (xs.map eSelL), .un, .un, .rf 0 0 xs.length, .sc (.int .i64 (i : Nat)), .un, .un, .un, .un, .un, .un, .un, .un, .un, .un, .un, .un, .un, .un, .un, .un, .un, .un], [(0, ⟨144, false, fillTo eSelI [.nl, .sc (.int .i64 0)] xs i⟩)], 1, 0, []⟩) (fun i => True) xs.length (fun i hi hH ih => ?_) 0 (Nat.zero_le _) (trivial))
 · (simp only [go_sem, fillTo_0]; try rfl)
 refine .seq (.seq (.region ?_)); (iterate 3 refine .o ?_); refine .o (.nil (.xseq ?_)); refine .cs (fun h0 => ?_) (fun h0 => ?_)
 · have hlt : i < xs.length := by simpa using h0
   obtain ⟨x, hx, hdx⟩ := drop_cons hlt; have hi0 : (0 : Int) ≤ (i : Int) := Int.natCast_nonneg i; have hic : (i : Int) < ((xs.length : Nat) : Int) := by omega
   have hw : IntKind.i64.wrap ((i : Int) + 1) = ((i + 1 : Nat) : Int) := by rw [w64 (by omega) (by omega)]; rfl
   have hft := fillTo_get (f := eSelI) (z := [.nl, .sc (.int .i64 0)]) hlt; refine .skip (.xseq (.seq (.block (.region ?_)))); (iterate 5 refine .o ?_); refine .o ?_
   refine .cl (c_laws_toSelect x (hf x (List.mem_of_getElem? hx))) ?_; refine .o ?_; refine .o (.nil (.xblk (.xseq (.region ?_)))); (iterate 2 refine .o ?_); refine .o (.nil ?_)
   refine .xlp (.cut [0, 3, 4] 1 (Nat.zero_le _) (.eq ?_ (ih (by assumption) ?_)))
   · (simp only [go_sem, hw, ← fillTo_set hx]; try rfl)
   · trivial
 · refine .exit (.eseq (.elp (.eblk (.xseq (.seq (.region ?_)))))); refine .o ?_; refine .o (.nil (.xseq (.ret (.done ?_)))); refine .mk ?_ (hn := noAss_map nSelI xs)
   (try simp only [Hb_iff] at *); have : xs.length ≤ i := by simpa using h0
   simp only [List.drop_zero, fillTo_all this]

theorem c_laws_toProcS (xs : List Proc) (hx : xs.length ≤ 1048576) (hf : ∀ x ∈ xs, fitProc x) : FnC Tryz.prog TA false 91 [.ls .o 186 (xs.map eProcL)] [] (.ls .o 204 (xs.map eProcI)) [] := by
 refine .ini Tryz.ntmps91 Tryz.results91 ?_; have hmk : (0 ≤ (xs.length : Int) ∧ (xs.length : Int) * ((24 : Nat) : Int) ≤ 140737488355328) := by omega
 have hmx : (xs.length : Int) ≤ ((maxLen : Nat) : Int) := by rw [mxl]; omega
 obtain ⟨hmk1, hmk2⟩ := hmk; refine .seq (.region ?_); refine .o (.nil (.xseq (.seq (.region ?_)))); (iterate 3 refine .o ?_); refine .o (.nil (.xseq (.seq (.seq (.region ?_)))))
 refine .o (.nil (.xseq (.block (.loop ?_)))); refine .cut [0, 3, 4] 1 (Nat.zero_le _) ?_
 refine .eq ?_ (Go.iterH (fun i => ⟨[.ls .a 186 (xs.map eProcL), .un, .un, .rf 0 0 xs.length, .sc (.int .i64 (i : Nat)), .un, .un, .un, .un, .un, .un, .un, .un, .un, .un, .un, .un, .un, .un, .un, .un, .un, .un], [(0, ⟨204, false, fillTo eProcI [.nl] xs i⟩)], 1, 0, []⟩) (fun i => True) xs.length (fun i hi hH ih => ?_) 0 (Nat.zero_le _) (trivial))
 · (simp only [go_sem, fillTo_0]; try rfl)
 refine .seq (.seq (.region ?_)); (iterate 3 refine .o ?_); refine .o (.nil (.xseq ?_)); refine .cs (fun h0 => ?_) (fun h0 => ?_)
 · have hlt : i < xs.length := by simpa using h0
   obtain ⟨x, hx, hdx⟩ := drop_cons hlt; have hi0 : (0 : Int) ≤ (i : Int) := Int.natCast_nonneg i; have hic : (i : Int) < ((xs.length : Nat) : Int) := by omega
   have hw : IntKind.i64.wrap ((i : Int) + 1) = ((i + 1 : Nat) : Int) := by rw [w64 (by omega) (by omega)]; rfl
   have hft := fillTo_get (f := eProcI) (z := [.nl]) hlt; refine .skip (.xseq (.seq (.block (.region ?_)))); (iterate 5 refine .o ?_); refine .o ?_
   refine .cl (c_laws_toProc x (hf x (List.mem_of_getElem? hx))) ?_; refine .o ?_; refine .o (.nil (.xblk (.xseq (.region ?_)))); (iterate 2 refine .o ?_); refine .o (.nil ?_)
   refine .xlp (.cut [0, 3, 4] 1 (Nat.zero_le _) (.eq ?_ (ih (by assumption) ?_)))
   · (simp only [go_sem, hw, ← fillTo_set hx]; try rfl)
   · trivial
 · refine .exit (.eseq (.elp (.eblk (.xseq (.seq (.region ?_)))))); refine .o ?_; refine .o (.nil (.xseq (.ret (.done ?_)))); refine .mk ?_ (hn := noAss_map nProcI xs)
   (try simp only [Hb_iff] at *); have : xs.length ≤ i := by simpa using h0
   simp only [List.drop_zero, fillTo_all this]

theorem c_laws_toGorS (xs : List Gor) (hx : xs.length ≤ 1048576) (hf : ∀ x ∈ xs, fitGor x) : FnC Tryz.prog TA false 92 [.ls .o 190 (xs.map eGorL)] [] (.ls .o 136 (xs.map eGorI)) [] := by
 refine .ini Tryz.ntmps92 Tryz.results92 ?_; have hmk : (0 ≤ (xs.length : Int) ∧ (xs.length : Int) * ((72 : Nat) : Int) ≤ 140737488355328) := by omega
 have hmx : (xs.length : Int) ≤ ((maxLen : Nat) : Int) := by rw [mxl]; omega
 obtain ⟨hmk1, hmk2⟩ := hmk; refine .seq (.region ?_); refine .o (.nil (.xseq (.seq (.region ?_)))); (iterate 3 refine .o ?_); refine .o (.nil (.xseq (.seq (.seq (.region ?_)))))
 refine .o (.nil (.xseq (.block (.loop ?_)))); refine .cut [0, 3, 4] 1 (Nat.zero_le _) ?_
 refine .eq ?_ (Go.iterH (fun i => ⟨[.ls .a 190 (xs.map eGorL), .un, .un, .rf 0 0 xs.length, .sc (.int .i64 (i : Nat)), .un, .un, .un, .un, .un, .un, .un, .un, .un, .un, .un, .un, .un, .un, .un, .un, .un, .un], [(0, ⟨136, false, fillTo eGorI [.sc (.int .i64 0), .sc (.int .i64 0), .nl, .sc (.int .i64 0), .nl] xs i⟩)], 1, 0, []⟩) (fun i => True) xs.length (fun i hi hH ih => ?_) 0 (Nat.zero_le _) (trivial))
 · (simp only [go_sem, fillTo_0]; try rfl)
 refine .seq (.seq (.region ?_)); (iterate 3 refine .o ?_); refine .o (.nil (.xseq ?_)); refine .cs (fun h0 => ?_) (fun h0 => ?_)
 · have hlt : i < xs.length := by simpa using h0
   obtain ⟨x, hx, hdx⟩ := drop_cons hlt; have hi0 : (0 : Int) ≤ (i : Int) := Int.natCast_nonneg i; have hic : (i : Int) < ((xs.length : Nat) : Int) := by omega
   have hw : IntKind.i64.wrap ((i : Int) + 1) = ((i + 1 : Nat) : Int) := by rw [w64 (by omega) (by omega)]; rfl
   have hft := fillTo_get (f := eGorI) (z := [.sc (.int .i64 0), .sc (.int .i64 0), .nl, .sc (.int .i64 0), .nl]) hlt; refine .skip (.xseq (.seq (.block (.region ?_))))
   (iterate 5 refine .o ?_); refine .o ?_; refine .cl (c_laws_toGor x (hf x (List.mem_of_getElem? hx))) ?_; refine .o ?_; refine .o (.nil (.xblk (.xseq (.region ?_))))
   (iterate 2 refine .o ?_); refine .o (.nil ?_); refine .xlp (.cut [0, 3, 4] 1 (Nat.zero_le _) (.eq ?_ (ih (by assumption) ?_)))
   · (simp only [go_sem, hw, ← fillTo_set hx]; try rfl)
   · trivial
 · refine .exit (.eseq (.elp (.eblk (.xseq (.seq (.region ?_)))))); refine .o ?_; refine .o (.nil (.xseq (.ret (.done ?_)))); refine .mk ?_ (hn := noAss_map nGorI xs)
   (try simp only [Hb_iff] at *); have : xs.length ≤ i := by simpa using h0
   simp only [List.drop_zero, fillTo_all this]

theorem c_laws_toChanS (xs : List Chan) (hx : xs.length ≤ 1048576) (hf : ∀ x ∈ xs, fitChan x) : FnC Tryz.prog TA false 93 [.ls .o 194 (xs.map eChanL)] [] (.ls .o 209 (xs.map eChanI)) [] := by
 refine .ini Tryz.ntmps93 Tryz.results93 ?_; have hmk : (0 ≤ (xs.length : Int) ∧ (xs.length : Int) * ((88 : Nat) : Int) ≤ 140737488355328) := by omega
 have hmx : (xs.length : Int) ≤ ((maxLen : Nat) : Int) := by rw [mxl]; omega
 obtain ⟨hmk1, hmk2⟩ := hmk; refine .seq (.region ?_); refine .o (.nil (.xseq (.seq (.region ?_)))); (iterate 3 refine .o ?_); refine .o (.nil (.xseq (.seq (.seq (.region ?_)))))
 refine .o (.nil (.xseq (.block (.loop ?_)))); refine .cut [0, 3, 4] 1 (Nat.zero_le _) ?_
 refine .eq ?_ (Go.iterH (fun i => ⟨[.ls .a 194 (xs.map eChanL), .un, .un, .rf 0 0 xs.length, .sc (.int .i64 (i : Nat)), .un, .un, .un, .un, .un, .un, .un, .un, .un, .un, .un, .un, .un, .un, .un, .un, .un, .un], [(0, ⟨209, false, fillTo eChanI [.sc (.int .i64 0), .nl, .nl, .nl, .sc (.bool false)] xs i⟩)], 1, 0, []⟩) (fun i => True) xs.length (fun i hi hH ih => ?_) 0 (Nat.zero_le _) (trivial))
 · (simp only [go_sem, fillTo_0]; try rfl)
 refine .seq (.seq (.region ?_)); (iterate 3 refine .o ?_); refine .o (.nil (.xseq ?_)); refine .cs (fun h0 => ?_) (fun h0 => ?_)
 · have hlt : i < xs.length := by simpa using h0
   obtain ⟨x, hx, hdx⟩ := drop_cons hlt; have hi0 : (0 : Int) ≤ (i : Int) := Int.natCast_nonneg i; have hic : (i : Int) < ((xs.length : Nat) : Int) := by omega
   have hw : IntKind.i64.wrap ((i : Int) + 1) = ((i + 1 : Nat) : Int) := by rw [w64 (by omega) (by omega)]; rfl
   have hft := fillTo_get (f := eChanI) (z := [.sc (.int .i64 0), .nl, .nl, .nl, .sc (.bool false)]) hlt; refine .skip (.xseq (.seq (.block (.region ?_)))); (iterate 5 refine .o ?_)
   refine .o ?_; refine .cl (c_laws_toChan x (hf x (List.mem_of_getElem? hx))) ?_; refine .o ?_; refine .o (.nil (.xblk (.xseq (.region ?_)))); (iterate 2 refine .o ?_)
   refine .o (.nil ?_); refine .xlp (.cut [0, 3, 4] 1 (Nat.zero_le _) (.eq ?_ (ih (by assumption) ?_)))
   · (simp only [go_sem, hw, ← fillTo_set hx]; try rfl)
   · trivial
 · refine .exit (.eseq (.elp (.eblk (.xseq (.seq (.region ?_)))))); refine .o ?_; refine .o (.nil (.xseq (.ret (.done ?_)))); refine .mk ?_ (hn := noAss_map nChanI xs)
   (try simp only [Hb_iff] at *); have : xs.length ≤ i := by simpa using h0
   simp only [List.drop_zero, fillTo_all this]

theorem c_laws_toMutexS (xs : List Mutex) (hx : xs.length ≤ 1048576) (hf : ∀ x ∈ xs, fitMutex x) : FnC Tryz.prog TA false 94 [.ls .o 196 (xs.map eMutexL)] [] (.ls .o 141 (xs.map eMutexI)) [] := by
 refine .ini Tryz.ntmps94 Tryz.results94 ?_; have hmk : (0 ≤ (xs.length : Int) ∧ (xs.length : Int) * ((32 : Nat) : Int) ≤ 140737488355328) := by omega
 have hmx : (xs.length : Int) ≤ ((maxLen : Nat) : Int) := by rw [mxl]; omega
 obtain ⟨hmk1, hmk2⟩ := hmk; refine .seq (.region ?_); refine .o (.nil (.xseq (.seq (.region ?_)))); (iterate 3 refine .o ?_); refine .o (.nil (.xseq (.seq (.seq (.region ?_)))))
 refine .o (.nil (.xseq (.block (.loop ?_)))); refine .cut [0, 3, 4] 1 (Nat.zero_le _) ?_
 refine .eq ?_ (Go.iterH (fun i => ⟨[.ls .a 196 (xs.map eMutexL), .un, .un, .rf 0 0 xs.length, .sc (.int .i64 (i : Nat)), .un, .un, .un, .un, .un, .un, .un, .un, .un, .un, .un, .un, .un, .un, .un, .un, .un, .un], [(0, ⟨141, false, fillTo eMutexI [.sc (.int .i64 0), .nl] xs i⟩)], 1, 0, []⟩) (fun i => True) xs.length (fun i hi hH ih => ?_) 0 (Nat.zero_le _) (trivial))
 · (simp only [go_sem, fillTo_0]; try rfl)
 refine .seq (.seq (.region ?_)); (iterate 3 refine .o ?_); refine .o (.nil (.xseq ?_)); refine .cs (fun h0 => ?_) (fun h0 => ?_)
 · have hlt : i < xs.length := by simpa using h0
   obtain ⟨x, hx, hdx⟩ := drop_cons hlt; have hi0 : (0 : Int) ≤ (i : Int) := Int.natCast_nonneg i; have hic : (i : Int) < ((xs.length : Nat) : Int) := by omega
   have hw : IntKind.i64.wrap ((i : Int) + 1) = ((i + 1 : Nat) : Int) := by rw [w64 (by omega) (by omega)]; rfl
   have hft := fillTo_get (f := eMutexI) (z := [.sc (.int .i64 0), .nl]) hlt; refine .skip (.xseq (.seq (.block (.region ?_)))); (iterate 5 refine .o ?_); refine .o ?_
   refine .cl (c_laws_toMutex x (hf x (List.mem_of_getElem? hx))) ?_; refine .o ?_; refine .o (.nil (.xblk (.xseq (.region ?_)))); (iterate 2 refine .o ?_); refine .o (.nil ?_)
   refine .xlp (.cut [0, 3, 4] 1 (Nat.zero_le _) (.eq ?_ (ih (by assumption) ?_)))
   · (simp only [go_sem, hw, ← fillTo_set hx]; try rfl)
   · trivial
 · refine .exit (.eseq (.elp (.eblk (.xseq (.seq (.region ?_)))))); refine .o ?_; refine .o (.nil (.xseq (.ret (.done ?_)))); refine .mk ?_ (hn := noAss_map nMutexI xs)
   (try simp only [Hb_iff] at *); have : xs.length ≤ i := by simpa using h0
   simp only [List.drop_zero, fillTo_all this]

theorem c_laws_toProg (x : Prog) (hx : fitProg x) : FnC Tryz.prog TA false 22 [.agg (eProgL x)] [] (.agg (eProgI x)) [] := by
 refine .ini Tryz.ntmps22 Tryz.results22 ?_; have f0 := hx; refine .seq (.region ?_); refine .o ?_; refine .o (.nil (.xseq (.seq (.region ?_))))
 refine .o (.nil (.xseq (.seq (.region ?_)))); refine .o ?_; refine .o ?_; refine .cl (c_laws_toIntS x.caps hx.1) ?_; refine .o ?_; refine .o (.nil (.xseq (.seq (.region ?_))))
 (iterate 3 refine .o ?_); refine .o (.nil (.xseq (.seq (.region ?_)))); refine .o ?_; refine .o ?_; refine .cl (c_laws_toSelectS x.sels hx.2.1 hx.2.2.1) ?_; refine .o ?_
 refine .o (.nil (.xseq (.seq (.region ?_)))); refine .o ?_; refine .o ?_; refine .cl (c_laws_toProcS x.procs hx.2.2.2.1 hx.2.2.2.2) ?_; refine .o ?_
 refine .o (.nil (.xseq (.seq (.region ?_)))); refine .o ?_; refine .o (.nil (.xseq (.ret (.done ?_)))); refine .mk ?_ (hn := nProgI x); (try simp only [Hb_iff] at *)
 first | rfl | simp only [go_sem]

theorem c_laws_toEng (x : Eng) (hx : fitEng x) : FnC Tryz.prog TA false 23 [.agg (eEngL x)] [] (.agg (eEngI x)) [] := by
 refine .ini Tryz.ntmps23 Tryz.results23 ?_; have f0 := hx; refine .seq (.region ?_); refine .o ?_; refine .o (.nil (.xseq (.seq (.region ?_))))
 refine .o (.nil (.xseq (.seq (.region ?_)))); refine .o ?_; refine .o ?_; refine .cl (c_laws_toGorS x.gs hx.1 hx.2.1) ?_; refine .o ?_; refine .o (.nil (.xseq (.seq (.region ?_))))
 refine .o ?_; refine .o ?_; refine .cl (c_laws_toChanS x.chans hx.2.2.1 hx.2.2.2.1) ?_; refine .o ?_; refine .o (.nil (.xseq (.seq (.region ?_)))); refine .o ?_; refine .o ?_
 refine .cl (c_laws_toMutexS x.mus hx.2.2.2.2.1 hx.2.2.2.2.2) ?_; refine .o ?_; refine .o (.nil (.xseq (.seq (.region ?_)))); refine .o ?_; refine .o (.nil (.xseq (.ret (.done ?_))))
 refine .mk ?_ (hn := nEngI x); (try simp only [Hb_iff] at *); first | rfl | simp only [go_sem]
end Go.Proofs.AM
