/- A part of the proof: the walk of functions of the program, or the rules of the walk. -/
import Derived.Test.YthilnfccfjcgfaaGreatA1E
set_option linter.unusedSimpArgs false
set_option linter.unusedVariables false
namespace Go.Proofs.AM
open Go Go.Proofs
set_option maxHeartbeats 4000000

theorem c_laws_szIntS (xs : List Int) (left : Int) (hl : 0 ≤ left) (hl2 : left ≤ 1048576) : FnC Tryz.prog TA false 80 [.ls .o 3 (xs.map eInt), .sc (.int .i64 left)] [] (.sc (.int .i64 (szLen xs.length left))) [] := by
 refine .ini Tryz.ntmps80 Tryz.results80 ?_; refine .bound 0 rfl fun hb => ?_; rw [List.length_map, mxl] at hb
 have hw : IntKind.i64.wrap (left - (xs.length : Int)) = left - xs.length := w64 (by omega) (by omega); refine .seq (.region ?_); refine .o (.nil (.xseq (.seq (.region ?_))))
 (iterate 4 refine .o ?_); refine .o (.nil (.xseq (.seq (.seq (.region ?_))))); refine .o ?_; refine .o (.nil (.xseq ?_)); refine .cs (fun h0 => ?_) (fun h0 => ?_)
 · refine .seq (.region ?_); refine .o (.nil (.xseq (.ret (.rseq (.done ?_))))); refine .mk ?_; (try simp only [Hb_iff] at *); simp at h0; simp [szLen, h0]
 · refine .skip (.xseq (.seq (.region ?_))); refine .o ?_; refine .o (.nil (.xseq (.ret (.done ?_)))); refine .mk ?_; (try simp only [Hb_iff] at *)
   simp at h0; simp [szLen]; intro h2; omega

theorem c_laws_szCaseS (xs : List Case) (left : Int) (hl : 0 ≤ left) (hl2 : left ≤ 1048576) : FnC Tryz.prog TA false 266 [.ls .o 310 (xs.map eCase), .sc (.int .i64 left)] [] (.sc (.int .i64 (szLen xs.length left))) [] := by
 refine .ini Tryz.ntmps266 Tryz.results266 ?_; refine .bound 0 rfl fun hb => ?_; rw [List.length_map, mxl] at hb
 have hw : IntKind.i64.wrap (left - (xs.length : Int)) = left - xs.length := w64 (by omega) (by omega); refine .seq (.region ?_); refine .o (.nil (.xseq (.seq (.region ?_))))
 (iterate 4 refine .o ?_); refine .o (.nil (.xseq (.seq (.seq (.region ?_))))); refine .o ?_; refine .o (.nil (.xseq ?_)); refine .cs (fun h0 => ?_) (fun h0 => ?_)
 · refine .seq (.region ?_); refine .o (.nil (.xseq (.ret (.rseq (.done ?_))))); refine .mk ?_; (try simp only [Hb_iff] at *); simp at h0; simp [szLen, h0]
 · refine .skip (.xseq (.seq (.region ?_))); refine .o ?_; refine .o (.nil (.xseq (.ret (.done ?_)))); refine .mk ?_; (try simp only [Hb_iff] at *)
   simp at h0; simp [szLen]; intro h2; omega

theorem c_laws_szInstrS (xs : List Instr) (left : Int) (hl : 0 ≤ left) (hl2 : left ≤ 1048576) : FnC Tryz.prog TA false 267 [.ls .o 312 (xs.map eInstr), .sc (.int .i64 left)] [] (.sc (.int .i64 (szLen xs.length left))) [] := by
 refine .ini Tryz.ntmps267 Tryz.results267 ?_; refine .bound 0 rfl fun hb => ?_; rw [List.length_map, mxl] at hb
 have hw : IntKind.i64.wrap (left - (xs.length : Int)) = left - xs.length := w64 (by omega) (by omega); refine .seq (.region ?_); refine .o (.nil (.xseq (.seq (.region ?_))))
 (iterate 4 refine .o ?_); refine .o (.nil (.xseq (.seq (.seq (.region ?_))))); refine .o ?_; refine .o (.nil (.xseq ?_)); refine .cs (fun h0 => ?_) (fun h0 => ?_)
 · refine .seq (.region ?_); refine .o (.nil (.xseq (.ret (.rseq (.done ?_))))); refine .mk ?_; (try simp only [Hb_iff] at *); simp at h0; simp [szLen, h0]
 · refine .skip (.xseq (.seq (.region ?_))); refine .o ?_; refine .o (.nil (.xseq (.ret (.done ?_)))); refine .mk ?_; (try simp only [Hb_iff] at *)
   simp at h0; simp [szLen]; intro h2; omega

theorem c_laws_szItemS (xs : List Item) (left : Int) (hl : 0 ≤ left) (hl2 : left ≤ 1048576) : FnC Tryz.prog TA false 268 [.ls .o 314 (xs.map eItem), .sc (.int .i64 left)] [] (.sc (.int .i64 (szLen xs.length left))) [] := by
 refine .ini Tryz.ntmps268 Tryz.results268 ?_; refine .bound 0 rfl fun hb => ?_; rw [List.length_map, mxl] at hb
 have hw : IntKind.i64.wrap (left - (xs.length : Int)) = left - xs.length := w64 (by omega) (by omega); refine .seq (.region ?_); refine .o (.nil (.xseq (.seq (.region ?_))))
 (iterate 4 refine .o ?_); refine .o (.nil (.xseq (.seq (.seq (.region ?_))))); refine .o ?_; refine .o (.nil (.xseq ?_)); refine .cs (fun h0 => ?_) (fun h0 => ?_)
 · refine .seq (.region ?_); refine .o (.nil (.xseq (.ret (.rseq (.done ?_))))); refine .mk ?_; (try simp only [Hb_iff] at *); simp at h0; simp [szLen, h0]
 · refine .skip (.xseq (.seq (.region ?_))); refine .o ?_; refine .o (.nil (.xseq (.ret (.done ?_)))); refine .mk ?_; (try simp only [Hb_iff] at *)
   simp at h0; simp [szLen]; intro h2; omega

theorem c_laws_szWaiterS (xs : List Waiter) (left : Int) (hl : 0 ≤ left) (hl2 : left ≤ 1048576) : FnC Tryz.prog TA false 269 [.ls .o 59 (xs.map eWaiter), .sc (.int .i64 left)] [] (.sc (.int .i64 (szLen xs.length left))) [] := by
 refine .ini Tryz.ntmps269 Tryz.results269 ?_; refine .bound 0 rfl fun hb => ?_; rw [List.length_map, mxl] at hb
 have hw : IntKind.i64.wrap (left - (xs.length : Int)) = left - xs.length := w64 (by omega) (by omega); refine .seq (.region ?_); refine .o (.nil (.xseq (.seq (.region ?_))))
 (iterate 4 refine .o ?_); refine .o (.nil (.xseq (.seq (.seq (.region ?_))))); refine .o ?_; refine .o (.nil (.xseq ?_)); refine .cs (fun h0 => ?_) (fun h0 => ?_)
 · refine .seq (.region ?_); refine .o (.nil (.xseq (.ret (.rseq (.done ?_))))); refine .mk ?_; (try simp only [Hb_iff] at *); simp at h0; simp [szLen, h0]
 · refine .skip (.xseq (.seq (.region ?_))); refine .o ?_; refine .o (.nil (.xseq (.ret (.done ?_)))); refine .mk ?_; (try simp only [Hb_iff] at *)
   simp at h0; simp [szLen]; intro h2; omega

theorem c_laws_szSelect (x : Select) (left : Int) (hl : 0 ≤ left) (hl2 : left ≤ 1048576) : FnC Tryz.prog TA false 158 [.agg (eSelL x), .sc (.int .i64 left)] [] (.sc (.int .i64 (szSelect x left))) [] := by
 refine .ini Tryz.ntmps158 Tryz.results158 ?_; refine .seq (.region ?_); refine .o ?_; refine .o (.nil (.xseq (.seq (.region ?_)))); (iterate 2 refine .o ?_); refine .o ?_
 refine .cl (c_laws_szCaseS x.cases left hl hl2) ?_; refine .o (.nil (.xseq (.seq (.seq (.region ?_))))); refine .o ?_; refine .o (.nil (.xseq ?_))
 refine .cs (fun h0 => ?_) (fun h0 => ?_)
 · refine .seq (.region ?_); refine .o (.nil (.xseq (.ret (.rseq (.done ?_))))); refine .mk ?_; (try simp only [Hb_iff] at *); simp only [Hb_iff, decide_eq_true_eq] at h0
   simp [szSelect, sz1, sz2, h0]
 · simp only [Hb_iff, decide_eq_false_iff_not, Int.not_lt] at h0; refine .skip (.xseq (.seq (.region ?_))); refine .o ?_; refine .o (.nil (.xseq (.ret (.done ?_)))); refine .mk ?_
   (try simp only [Hb_iff] at *); simp [szSelect, sz1, sz2, Int.not_lt.2 h0]

theorem c_laws_szProc (x : Proc) (left : Int) (hl : 0 ≤ left) (hl2 : left ≤ 1048576) : FnC Tryz.prog TA false 159 [.agg (eProcL x), .sc (.int .i64 left)] [] (.sc (.int .i64 (szProc x left))) [] := by
 refine .ini Tryz.ntmps159 Tryz.results159 ?_; refine .seq (.region ?_); refine .o ?_; refine .o (.nil (.xseq (.seq (.region ?_)))); (iterate 2 refine .o ?_); refine .o ?_
 refine .cl (c_laws_szInstrS x.code left hl hl2) ?_; refine .o (.nil (.xseq (.seq (.seq (.region ?_))))); refine .o ?_; refine .o (.nil (.xseq ?_))
 refine .cs (fun h0 => ?_) (fun h0 => ?_)
 · refine .seq (.region ?_); refine .o (.nil (.xseq (.ret (.rseq (.done ?_))))); refine .mk ?_; (try simp only [Hb_iff] at *); simp only [Hb_iff, decide_eq_true_eq] at h0
   simp [szProc, sz1, sz2, h0]
 · simp only [Hb_iff, decide_eq_false_iff_not, Int.not_lt] at h0; refine .skip (.xseq (.seq (.region ?_))); refine .o ?_; refine .o (.nil (.xseq (.ret (.done ?_)))); refine .mk ?_
   (try simp only [Hb_iff] at *); simp [szProc, sz1, sz2, Int.not_lt.2 h0]

theorem c_laws_szMutex (x : Mutex) (left : Int) (hl : 0 ≤ left) (hl2 : left ≤ 1048576) : FnC Tryz.prog TA false 162 [.agg (eMutexL x), .sc (.int .i64 left)] [] (.sc (.int .i64 (szMutex x left))) [] := by
 refine .ini Tryz.ntmps162 Tryz.results162 ?_; refine .seq (.region ?_); refine .o ?_; refine .o (.nil (.xseq (.seq (.region ?_)))); (iterate 2 refine .o ?_); refine .o ?_
 refine .cl (c_laws_szIntS x.wait left hl hl2) ?_; refine .o (.nil (.xseq (.seq (.seq (.region ?_))))); refine .o ?_; refine .o (.nil (.xseq ?_))
 refine .cs (fun h0 => ?_) (fun h0 => ?_)
 · refine .seq (.region ?_); refine .o (.nil (.xseq (.ret (.rseq (.done ?_))))); refine .mk ?_; (try simp only [Hb_iff] at *); simp only [Hb_iff, decide_eq_true_eq] at h0
   simp [szMutex, sz1, sz2, h0]
 · simp only [Hb_iff, decide_eq_false_iff_not, Int.not_lt] at h0; refine .skip (.xseq (.seq (.region ?_))); refine .o ?_; refine .o (.nil (.xseq (.ret (.done ?_)))); refine .mk ?_
   (try simp only [Hb_iff] at *); simp [szMutex, sz1, sz2, Int.not_lt.2 h0]

theorem c_laws_szGor (x : Gor) (left : Int) (hl : 0 ≤ left) (hl2 : left ≤ 1048576) : FnC Tryz.prog TA false 160 [.agg (eGorL x), .sc (.int .i64 left)] [] (.sc (.int .i64 (szGor x left))) [] := by
 refine .ini Tryz.ntmps160 Tryz.results160 ?_; refine .seq (.region ?_); refine .o ?_; refine .o (.nil (.xseq (.seq (.region ?_)))); (iterate 2 refine .o ?_); refine .o ?_
 refine .cl (c_laws_szIntS x.regs left hl hl2) ?_; refine .o (.nil (.xseq (.seq (.seq (.region ?_))))); refine .o ?_; refine .o (.nil (.xseq ?_))
 refine .cs (fun h0 => ?_) (fun h0 => ?_)
 · refine .seq (.region ?_); refine .o (.nil (.xseq (.ret (.rseq (.done ?_))))); refine .mk ?_; (try simp only [Hb_iff] at *); simp only [Hb_iff, decide_eq_true_eq] at h0
   simp [szGor, sz1, sz2, h0]
 · simp only [Hb_iff, decide_eq_false_iff_not, Int.not_lt] at h0; have ok0 := szLen_ok (n := x.regs.length) hl; unfold SzOk at ok0; refine .skip (.xseq (.seq (.region ?_)))
   (iterate 2 refine .o ?_); refine .o ?_; refine .cl (c_laws_szItemS x.trace _ h0 (by omega)) ?_; refine .o (.nil (.xseq (.seq (.seq (.region ?_))))); refine .o ?_
   refine .o (.nil (.xseq ?_)); refine .cs (fun h1 => ?_) (fun h1 => ?_)
   · refine .seq (.region ?_); refine .o (.nil (.xseq (.ret (.rseq (.done ?_))))); refine .mk ?_; (try simp only [Hb_iff] at *); simp only [Hb_iff, decide_eq_true_eq] at h1
     simp [szGor, sz1, sz2, h1, Int.not_lt.2 h0]
   · simp only [Hb_iff, decide_eq_false_iff_not, Int.not_lt] at h1; refine .skip (.xseq (.seq (.region ?_))); refine .o ?_; refine .o (.nil (.xseq (.ret (.done ?_)))); refine .mk ?_
     (try simp only [Hb_iff] at *); simp [szGor, sz1, sz2, Int.not_lt.2 h0, Int.not_lt.2 h1]

theorem c_laws_szChan (x : Chan) (left : Int) (hl : 0 ≤ left) (hl2 : left ≤ 1048576) : FnC Tryz.prog TA false 161 [.agg (eChanL x), .sc (.int .i64 left)] [] (.sc (.int .i64 (szChan x left))) [] := by
 refine .ini Tryz.ntmps161 Tryz.results161 ?_; refine .seq (.region ?_); refine .o ?_; refine .o (.nil (.xseq (.seq (.region ?_)))); (iterate 2 refine .o ?_); refine .o ?_
 refine .cl (c_laws_szIntS x.buf left hl hl2) ?_; refine .o (.nil (.xseq (.seq (.seq (.region ?_))))); refine .o ?_; refine .o (.nil (.xseq ?_))
 refine .cs (fun h0 => ?_) (fun h0 => ?_)
 · refine .seq (.region ?_); refine .o (.nil (.xseq (.ret (.rseq (.done ?_))))); refine .mk ?_; (try simp only [Hb_iff] at *); simp only [Hb_iff, decide_eq_true_eq] at h0
   simp [szChan, sz1, sz2, h0]
 · simp only [Hb_iff, decide_eq_false_iff_not, Int.not_lt] at h0; have ok0 := szLen_ok (n := x.buf.length) hl; unfold SzOk at ok0; refine .skip (.xseq (.seq (.region ?_)))
   (iterate 2 refine .o ?_); refine .o ?_; refine .cl (c_laws_szWaiterS x.sends _ h0 (by omega)) ?_; refine .o (.nil (.xseq (.seq (.seq (.region ?_))))); refine .o ?_
   refine .o (.nil (.xseq ?_)); refine .cs (fun h1 => ?_) (fun h1 => ?_)
   · refine .seq (.region ?_); refine .o (.nil (.xseq (.ret (.rseq (.done ?_))))); refine .mk ?_; (try simp only [Hb_iff] at *); simp only [Hb_iff, decide_eq_true_eq] at h1
     simp [szChan, sz1, sz2, h1, Int.not_lt.2 h0]
   · simp only [Hb_iff, decide_eq_false_iff_not, Int.not_lt] at h1; have ok1 := szLen_ok (n := x.sends.length) h0; unfold SzOk at ok1; refine .skip (.xseq (.seq (.region ?_)))
     (iterate 2 refine .o ?_); refine .o ?_; refine .cl (c_laws_szWaiterS x.recvs _ h1 (by omega)) ?_; refine .o (.nil (.xseq (.seq (.seq (.region ?_))))); refine .o ?_
     refine .o (.nil (.xseq ?_)); refine .cs (fun h2 => ?_) (fun h2 => ?_)
     · refine .seq (.region ?_); refine .o (.nil (.xseq (.ret (.rseq (.done ?_))))); refine .mk ?_; (try simp only [Hb_iff] at *); simp only [Hb_iff, decide_eq_true_eq] at h2
       simp [szChan, sz1, sz2, h2, Int.not_lt.2 h0, Int.not_lt.2 h1]
     · simp only [Hb_iff, decide_eq_false_iff_not, Int.not_lt] at h2; refine .skip (.xseq (.seq (.region ?_))); refine .o ?_; refine .o (.nil (.xseq (.ret (.done ?_)))); refine .mk ?_
       (try simp only [Hb_iff] at *); simp [szChan, sz1, sz2, Int.not_lt.2 h0, Int.not_lt.2 h1, Int.not_lt.2 h2]

theorem c_laws_szSelectS (xs : List Select) (left : Int) (hl : 0 ≤ left) (hl2 : left ≤ 1048576) : FnC Tryz.prog TA false 81 [.ls .o 182 (xs.map eSelL), .sc (.int .i64 left)] [] (.sc (.int .i64 (szList szSelect xs left))) [] := by
 refine .ini Tryz.ntmps81 Tryz.results81 ?_; refine .bound 0 rfl fun hb => ?_; rw [List.length_map, mxl] at hb
 have hw : IntKind.i64.wrap (left - (xs.length : Int)) = left - xs.length := w64 (by omega) (by omega); refine .seq (.region ?_); refine .o (.nil (.xseq (.seq (.region ?_))))
 (iterate 4 refine .o ?_); refine .o (.nil (.xseq (.seq (.seq (.region ?_))))); refine .o ?_; refine .o (.nil (.xseq ?_)); refine .cs (fun h0 => ?_) (fun h0 => ?_)
 · refine .seq (.region ?_); refine .o (.nil (.xseq (.ret (.rseq (.done ?_))))); refine .mk ?_; (try simp only [Hb_iff] at *); simp at h0; simp [szList, h0]
 · simp only [Hb_iff, decide_eq_false_iff_not, Int.not_lt] at h0; refine .skip (.xseq (.seq (.seq (.region ?_)))); refine .o (.nil (.xseq (.block (.loop ?_))))
   refine .cut [0, 1, 5] 0 (Nat.zero_le _) ?_
   refine .eq ?_ (Go.loopW (fun p : Nat × Int => match p with | (i, l) => ⟨[.ls .a 182 (xs.map eSelL), .sc (.int .i64 l), .un, .un, .un, .sc (.int .i64 (i : Nat)), .un, .un, .un, .un, .un, .un, .un, .un, .un, .un, .un, .un, .un, .un, .un, .un, .un, .un, .un, .un, .un], [], 0, 0, []⟩) (fun p => match p with | (i, l) => i ≤ xs.length ∧ 0 ≤ l ∧ l ≤ 1048576 ∧ szFold szSelect (xs.drop i) l = szList szSelect xs left) (fun p => xs.length - p.1) (fun p hH ih => ?_) (0, left - xs.length) (⟨Nat.zero_le _, h0, by omega, by simp [szList, Int.not_lt.2 h0]⟩))
   · (simp only [go_sem]; try rfl)
   obtain ⟨i, l⟩ := p
   refine .eq (st' := ⟨[.ls .a 182 (xs.map eSelL), .sc (.int .i64 l), .un, .un, .un, .sc (.int .i64 (i : Nat)), .un, .un, .un, .un, .un, .un, .un, .un, .un, .un, .un, .un, .un, .un, .un, .un, .un, .un, .un, .un, .un], [], 0, 0, []⟩) rfl ?_
   replace hH : i ≤ xs.length ∧ 0 ≤ l ∧ l ≤ 1048576 ∧ szFold szSelect (xs.drop i) l = szList szSelect xs left := hH; obtain ⟨hH1, hH2, hH3, hH4⟩ := hH; refine .seq (.seq (.region ?_))
   (iterate 3 refine .o ?_); refine .o (.nil (.xseq ?_)); refine .cs (fun h1 => ?_) (fun h1 => ?_)
   · have hlt : i < xs.length := by simpa using h1
     obtain ⟨x, hx, hdx⟩ := drop_cons hlt; have hi0 : (0 : Int) ≤ (i : Int) := Int.natCast_nonneg i
     have hwi : IntKind.i64.wrap ((i : Int) + 1) = ((i + 1 : Nat) : Int) := by rw [w64 (by omega) (by omega)]; rfl
     have ok := szSelect_ok x l hH2; unfold SzOk at ok; refine .skip (.xseq (.seq (.block (.seq (.region ?_))))); (iterate 4 refine .o ?_); refine .o ?_
     refine .cl (c_laws_szSelect x l hH2 hH3) ?_; refine .o (.nil (.xseq (.seq (.region ?_)))); refine .o ?_; refine .o (.nil (.xseq ?_)); refine .cs (fun h2 => ?_) (fun h2 => ?_)
     · refine .seq (.region ?_); refine .o (.nil (.xseq (.ret (.rblk (.rseq (.rlp (.rblk (.rseq (.done ?_))))))))); refine .mk ?_; clear ih; (try simp only [Hb_iff] at *)
       simp only [Hb_iff, decide_eq_true_eq] at h2; rw [← hH4, hdx]; simp [szFold, h2]
     · simp only [Hb_iff, decide_eq_false_iff_not, Int.not_lt] at h2; refine .skip (.xblk (.xseq (.region ?_))); (iterate 2 refine .o ?_); refine .o (.nil ?_)
       refine .xlp (.cut [0, 1, 5] 0 (Nat.zero_le _) (.eq ?_ (ih (i + 1, (szSelect x l)) (by show xs.length - (i + 1) < xs.length - i; omega) ?_)))
       · (simp only [go_sem, Nat.reduceEqDiff, Nat.reduceLT, Nat.reduceLeDiff, Nat.reduceAdd, Nat.reduceSub, reduceCtorEq, *]; try rfl)
       · refine ⟨hlt, h2, by omega, ?_⟩; rw [← hH4, hdx]; simp [szFold, Int.not_lt.2 h2]
   · refine .exit (.eseq (.elp (.eblk (.xseq (.seq (.region ?_)))))); refine .o ?_; refine .o (.nil (.xseq (.ret (.done ?_)))); refine .mk ?_; (try simp only [Hb_iff] at *)
     have : xs.length ≤ i := by simpa using h1
     rw [← hH4, List.drop_of_length_le this]; rfl

theorem c_laws_szProcS (xs : List Proc) (left : Int) (hl : 0 ≤ left) (hl2 : left ≤ 1048576) : FnC Tryz.prog TA false 82 [.ls .o 186 (xs.map eProcL), .sc (.int .i64 left)] [] (.sc (.int .i64 (szList szProc xs left))) [] := by
 refine .ini Tryz.ntmps82 Tryz.results82 ?_; refine .bound 0 rfl fun hb => ?_; rw [List.length_map, mxl] at hb
 have hw : IntKind.i64.wrap (left - (xs.length : Int)) = left - xs.length := w64 (by omega) (by omega); refine .seq (.region ?_); refine .o (.nil (.xseq (.seq (.region ?_))))
 (iterate 4 refine .o ?_); refine .o (.nil (.xseq (.seq (.seq (.region ?_))))); refine .o ?_; refine .o (.nil (.xseq ?_)); refine .cs (fun h0 => ?_) (fun h0 => ?_)
 · refine .seq (.region ?_); refine .o (.nil (.xseq (.ret (.rseq (.done ?_))))); refine .mk ?_; (try simp only [Hb_iff] at *); simp at h0; simp [szList, h0]
 · simp only [Hb_iff, decide_eq_false_iff_not, Int.not_lt] at h0; refine .skip (.xseq (.seq (.seq (.region ?_)))); refine .o (.nil (.xseq (.block (.loop ?_))))
   refine .cut [0, 1, 5] 0 (Nat.zero_le _) ?_
   refine .eq ?_ (Go.loopW (fun p : Nat × Int => match p with | (i, l) => ⟨[.ls .a 186 (xs.map eProcL), .sc (.int .i64 l), .un, .un, .un, .sc (.int .i64 (i : Nat)), .un, .un, .un, .un, .un, .un, .un, .un, .un, .un, .un, .un, .un, .un, .un, .un, .un, .un, .un, .un, .un], [], 0, 0, []⟩) (fun p => match p with | (i, l) => i ≤ xs.length ∧ 0 ≤ l ∧ l ≤ 1048576 ∧ szFold szProc (xs.drop i) l = szList szProc xs left) (fun p => xs.length - p.1) (fun p hH ih => ?_) (0, left - xs.length) (⟨Nat.zero_le _, h0, by omega, by simp [szList, Int.not_lt.2 h0]⟩))
   · (simp only [go_sem]; try rfl)
   obtain ⟨i, l⟩ := p
   refine .eq (st' := ⟨[.ls .a 186 (xs.map eProcL), .sc (.int .i64 l), .un, .un, .un, .sc (.int .i64 (i : Nat)), .un, .un, .un, .un, .un, .un, .un, .un, .un, .un, .un, .un, .un, .un, .un, .un, .un, .un, .un, .un, .un], [], 0, 0, []⟩) rfl ?_
   replace hH : i ≤ xs.length ∧ 0 ≤ l ∧ l ≤ 1048576 ∧ szFold szProc (xs.drop i) l = szList szProc xs left := hH; obtain ⟨hH1, hH2, hH3, hH4⟩ := hH; refine .seq (.seq (.region ?_))
   (iterate 3 refine .o ?_); refine .o (.nil (.xseq ?_)); refine .cs (fun h1 => ?_) (fun h1 => ?_)
   · have hlt : i < xs.length := by simpa using h1
     obtain ⟨x, hx, hdx⟩ := drop_cons hlt; have hi0 : (0 : Int) ≤ (i : Int) := Int.natCast_nonneg i
     have hwi : IntKind.i64.wrap ((i : Int) + 1) = ((i + 1 : Nat) : Int) := by rw [w64 (by omega) (by omega)]; rfl
     have ok := szProc_ok x l hH2; unfold SzOk at ok; refine .skip (.xseq (.seq (.block (.seq (.region ?_))))); (iterate 4 refine .o ?_); refine .o ?_
     refine .cl (c_laws_szProc x l hH2 hH3) ?_; refine .o (.nil (.xseq (.seq (.region ?_)))); refine .o ?_; refine .o (.nil (.xseq ?_)); refine .cs (fun h2 => ?_) (fun h2 => ?_)
     · refine .seq (.region ?_); refine .o (.nil (.xseq (.ret (.rblk (.rseq (.rlp (.rblk (.rseq (.done ?_))))))))); refine .mk ?_; clear ih; (try simp only [Hb_iff] at *)
       simp only [Hb_iff, decide_eq_true_eq] at h2; rw [← hH4, hdx]; simp [szFold, h2]
     · simp only [Hb_iff, decide_eq_false_iff_not, Int.not_lt] at h2; refine .skip (.xblk (.xseq (.region ?_))); (iterate 2 refine .o ?_); refine .o (.nil ?_)
       refine .xlp (.cut [0, 1, 5] 0 (Nat.zero_le _) (.eq ?_ (ih (i + 1, (szProc x l)) (by show xs.length - (i + 1) < xs.length - i; omega) ?_)))
       · (simp only [go_sem, Nat.reduceEqDiff, Nat.reduceLT, Nat.reduceLeDiff, Nat.reduceAdd, Nat.reduceSub, reduceCtorEq, *]; try rfl)
       · refine ⟨hlt, h2, by omega, ?_⟩; rw [← hH4, hdx]; simp [szFold, Int.not_lt.2 h2]
   · refine .exit (.eseq (.elp (.eblk (.xseq (.seq (.region ?_)))))); refine .o ?_; refine .o (.nil (.xseq (.ret (.done ?_)))); refine .mk ?_; (try simp only [Hb_iff] at *)
     have : xs.length ≤ i := by simpa using h1
     rw [← hH4, List.drop_of_length_le this]; rfl

theorem c_laws_szGorS (xs : List Gor) (left : Int) (hl : 0 ≤ left) (hl2 : left ≤ 1048576) : FnC Tryz.prog TA false 83 [.ls .o 190 (xs.map eGorL), .sc (.int .i64 left)] [] (.sc (.int .i64 (szList szGor xs left))) [] := by
 refine .ini Tryz.ntmps83 Tryz.results83 ?_; refine .bound 0 rfl fun hb => ?_; rw [List.length_map, mxl] at hb
 have hw : IntKind.i64.wrap (left - (xs.length : Int)) = left - xs.length := w64 (by omega) (by omega); refine .seq (.region ?_); refine .o (.nil (.xseq (.seq (.region ?_))))
 (iterate 4 refine .o ?_); refine .o (.nil (.xseq (.seq (.seq (.region ?_))))); refine .o ?_; refine .o (.nil (.xseq ?_)); refine .cs (fun h0 => ?_) (fun h0 => ?_)
 · refine .seq (.region ?_); refine .o (.nil (.xseq (.ret (.rseq (.done ?_))))); refine .mk ?_; (try simp only [Hb_iff] at *); simp at h0; simp [szList, h0]
 · simp only [Hb_iff, decide_eq_false_iff_not, Int.not_lt] at h0; refine .skip (.xseq (.seq (.seq (.region ?_)))); refine .o (.nil (.xseq (.block (.loop ?_))))
   refine .cut [0, 1, 5] 0 (Nat.zero_le _) ?_
   refine .eq ?_ (Go.loopW (fun p : Nat × Int => match p with | (i, l) => ⟨[.ls .a 190 (xs.map eGorL), .sc (.int .i64 l), .un, .un, .un, .sc (.int .i64 (i : Nat)), .un, .un, .un, .un, .un, .un, .un, .un, .un, .un, .un, .un, .un, .un, .un, .un, .un, .un, .un, .un, .un], [], 0, 0, []⟩) (fun p => match p with | (i, l) => i ≤ xs.length ∧ 0 ≤ l ∧ l ≤ 1048576 ∧ szFold szGor (xs.drop i) l = szList szGor xs left) (fun p => xs.length - p.1) (fun p hH ih => ?_) (0, left - xs.length) (⟨Nat.zero_le _, h0, by omega, by simp [szList, Int.not_lt.2 h0]⟩))
   · (simp only [go_sem]; try rfl)
   obtain ⟨i, l⟩ := p
   refine .eq (st' := ⟨[.ls .a 190 (xs.map eGorL), .sc (.int .i64 l), .un, .un, .un, .sc (.int .i64 (i : Nat)), .un, .un, .un, .un, .un, .un, .un, .un, .un, .un, .un, .un, .un, .un, .un, .un, .un, .un, .un, .un, .un], [], 0, 0, []⟩) rfl ?_
   replace hH : i ≤ xs.length ∧ 0 ≤ l ∧ l ≤ 1048576 ∧ szFold szGor (xs.drop i) l = szList szGor xs left := hH; obtain ⟨hH1, hH2, hH3, hH4⟩ := hH; refine .seq (.seq (.region ?_))
   (iterate 3 refine .o ?_); refine .o (.nil (.xseq ?_)); refine .cs (fun h1 => ?_) (fun h1 => ?_)
   · have hlt : i < xs.length := by simpa using h1
     obtain ⟨x, hx, hdx⟩ := drop_cons hlt; have hi0 : (0 : Int) ≤ (i : Int) := Int.natCast_nonneg i
     have hwi : IntKind.i64.wrap ((i : Int) + 1) = ((i + 1 : Nat) : Int) := by rw [w64 (by omega) (by omega)]; rfl
     have ok := szGor_ok x l hH2; unfold SzOk at ok; refine .skip (.xseq (.seq (.block (.seq (.region ?_))))); (iterate 4 refine .o ?_); refine .o ?_
     refine .cl (c_laws_szGor x l hH2 hH3) ?_; refine .o (.nil (.xseq (.seq (.region ?_)))); refine .o ?_; refine .o (.nil (.xseq ?_)); refine .cs (fun h2 => ?_) (fun h2 => ?_)
     · refine .seq (.region ?_); refine .o (.nil (.xseq (.ret (.rblk (.rseq (.rlp (.rblk (.rseq (.done ?_))))))))); refine .mk ?_; clear ih; (try simp only [Hb_iff] at *)
       simp only [Hb_iff, decide_eq_true_eq] at h2; rw [← hH4, hdx]; simp [szFold, h2]
     · simp only [Hb_iff, decide_eq_false_iff_not, Int.not_lt] at h2; refine .skip (.xblk (.xseq (.region ?_))); (iterate 2 refine .o ?_); refine .o (.nil ?_)
       refine .xlp (.cut [0, 1, 5] 0 (Nat.zero_le _) (.eq ?_ (ih (i + 1, (szGor x l)) (by show xs.length - (i + 1) < xs.length - i; omega) ?_)))
       · (simp only [go_sem, Nat.reduceEqDiff, Nat.reduceLT, Nat.reduceLeDiff, Nat.reduceAdd, Nat.reduceSub, reduceCtorEq, *]; try rfl)
       · refine ⟨hlt, h2, by omega, ?_⟩; rw [← hH4, hdx]; simp [szFold, Int.not_lt.2 h2]
   · refine .exit (.eseq (.elp (.eblk (.xseq (.seq (.region ?_)))))); refine .o ?_; refine .o (.nil (.xseq (.ret (.done ?_)))); refine .mk ?_; (try simp only [Hb_iff] at *)
     have : xs.length ≤ i := by simpa using h1
     rw [← hH4, List.drop_of_length_le this]; rfl

theorem c_laws_szChanS (xs : List Chan) (left : Int) (hl : 0 ≤ left) (hl2 : left ≤ 1048576) : FnC Tryz.prog TA false 84 [.ls .o 194 (xs.map eChanL), .sc (.int .i64 left)] [] (.sc (.int .i64 (szList szChan xs left))) [] := by
 refine .ini Tryz.ntmps84 Tryz.results84 ?_; refine .bound 0 rfl fun hb => ?_; rw [List.length_map, mxl] at hb
 have hw : IntKind.i64.wrap (left - (xs.length : Int)) = left - xs.length := w64 (by omega) (by omega); refine .seq (.region ?_); refine .o (.nil (.xseq (.seq (.region ?_))))
 (iterate 4 refine .o ?_); refine .o (.nil (.xseq (.seq (.seq (.region ?_))))); refine .o ?_; refine .o (.nil (.xseq ?_)); refine .cs (fun h0 => ?_) (fun h0 => ?_)
 · refine .seq (.region ?_); refine .o (.nil (.xseq (.ret (.rseq (.done ?_))))); refine .mk ?_; (try simp only [Hb_iff] at *); simp at h0; simp [szList, h0]
 · simp only [Hb_iff, decide_eq_false_iff_not, Int.not_lt] at h0; refine .skip (.xseq (.seq (.seq (.region ?_)))); refine .o (.nil (.xseq (.block (.loop ?_))))
   refine .cut [0, 1, 5] 0 (Nat.zero_le _) ?_
   refine .eq ?_ (Go.loopW (fun p : Nat × Int => match p with | (i, l) => ⟨[.ls .a 194 (xs.map eChanL), .sc (.int .i64 l), .un, .un, .un, .sc (.int .i64 (i : Nat)), .un, .un, .un, .un, .un, .un, .un, .un, .un, .un, .un, .un, .un, .un, .un, .un, .un, .un, .un, .un, .un], [], 0, 0, []⟩) (fun p => match p with | (i, l) => i ≤ xs.length ∧ 0 ≤ l ∧ l ≤ 1048576 ∧ szFold szChan (xs.drop i) l = szList szChan xs left) (fun p => xs.length - p.1) (fun p hH ih => ?_) (0, left - xs.length) (⟨Nat.zero_le _, h0, by omega, by simp [szList, Int.not_lt.2 h0]⟩))
   · (simp only [go_sem]; try rfl)
   obtain ⟨i, l⟩ := p
   refine .eq (st' := ⟨[.ls .a 194 (xs.map eChanL), .sc (.int .i64 l), .un, .un, .un, .sc (.int .i64 (i : Nat)), .un, .un, .un, .un, .un, .un, .un, .un, .un, .un, .un, .un, .un, .un, .un, .un, .un, .un, .un, .un, .un], [], 0, 0, []⟩) rfl ?_
   replace hH : i ≤ xs.length ∧ 0 ≤ l ∧ l ≤ 1048576 ∧ szFold szChan (xs.drop i) l = szList szChan xs left := hH; obtain ⟨hH1, hH2, hH3, hH4⟩ := hH; refine .seq (.seq (.region ?_))
   (iterate 3 refine .o ?_); refine .o (.nil (.xseq ?_)); refine .cs (fun h1 => ?_) (fun h1 => ?_)
   · have hlt : i < xs.length := by simpa using h1
     obtain ⟨x, hx, hdx⟩ := drop_cons hlt; have hi0 : (0 : Int) ≤ (i : Int) := Int.natCast_nonneg i
     have hwi : IntKind.i64.wrap ((i : Int) + 1) = ((i + 1 : Nat) : Int) := by rw [w64 (by omega) (by omega)]; rfl
     have ok := szChan_ok x l hH2; unfold SzOk at ok; refine .skip (.xseq (.seq (.block (.seq (.region ?_))))); (iterate 4 refine .o ?_); refine .o ?_
     refine .cl (c_laws_szChan x l hH2 hH3) ?_; refine .o (.nil (.xseq (.seq (.region ?_)))); refine .o ?_; refine .o (.nil (.xseq ?_)); refine .cs (fun h2 => ?_) (fun h2 => ?_)
     · refine .seq (.region ?_); refine .o (.nil (.xseq (.ret (.rblk (.rseq (.rlp (.rblk (.rseq (.done ?_))))))))); refine .mk ?_; clear ih; (try simp only [Hb_iff] at *)
       simp only [Hb_iff, decide_eq_true_eq] at h2; rw [← hH4, hdx]; simp [szFold, h2]
     · simp only [Hb_iff, decide_eq_false_iff_not, Int.not_lt] at h2; refine .skip (.xblk (.xseq (.region ?_))); (iterate 2 refine .o ?_); refine .o (.nil ?_)
       refine .xlp (.cut [0, 1, 5] 0 (Nat.zero_le _) (.eq ?_ (ih (i + 1, (szChan x l)) (by show xs.length - (i + 1) < xs.length - i; omega) ?_)))
       · (simp only [go_sem, Nat.reduceEqDiff, Nat.reduceLT, Nat.reduceLeDiff, Nat.reduceAdd, Nat.reduceSub, reduceCtorEq, *]; try rfl)
       · refine ⟨hlt, h2, by omega, ?_⟩; rw [← hH4, hdx]; simp [szFold, Int.not_lt.2 h2]
   · refine .exit (.eseq (.elp (.eblk (.xseq (.seq (.region ?_)))))); refine .o ?_; refine .o (.nil (.xseq (.ret (.done ?_)))); refine .mk ?_; (try simp only [Hb_iff] at *)
     have : xs.length ≤ i := by simpa using h1
     rw [← hH4, List.drop_of_length_le this]; rfl

theorem c_laws_szMutexS (xs : List Mutex) (left : Int) (hl : 0 ≤ left) (hl2 : left ≤ 1048576) : FnC Tryz.prog TA false 85 [.ls .o 196 (xs.map eMutexL), .sc (.int .i64 left)] [] (.sc (.int .i64 (szList szMutex xs left))) [] := by
 refine .ini Tryz.ntmps85 Tryz.results85 ?_; refine .bound 0 rfl fun hb => ?_; rw [List.length_map, mxl] at hb
 have hw : IntKind.i64.wrap (left - (xs.length : Int)) = left - xs.length := w64 (by omega) (by omega); refine .seq (.region ?_); refine .o (.nil (.xseq (.seq (.region ?_))))
 (iterate 4 refine .o ?_); refine .o (.nil (.xseq (.seq (.seq (.region ?_))))); refine .o ?_; refine .o (.nil (.xseq ?_)); refine .cs (fun h0 => ?_) (fun h0 => ?_)
 · refine .seq (.region ?_); refine .o (.nil (.xseq (.ret (.rseq (.done ?_))))); refine .mk ?_; (try simp only [Hb_iff] at *); simp at h0; simp [szList, h0]
 · simp only [Hb_iff, decide_eq_false_iff_not, Int.not_lt] at h0; refine .skip (.xseq (.seq (.seq (.region ?_)))); refine .o (.nil (.xseq (.block (.loop ?_))))
   refine .cut [0, 1, 5] 0 (Nat.zero_le _) ?_
   refine .eq ?_ (Go.loopW (fun p : Nat × Int => match p with | (i, l) => ⟨[.ls .a 196 (xs.map eMutexL), .sc (.int .i64 l), .un, .un, .un, .sc (.int .i64 (i : Nat)), .un, .un, .un, .un, .un, .un, .un, .un, .un, .un, .un, .un, .un, .un, .un, .un, .un, .un, .un, .un, .un], [], 0, 0, []⟩) (fun p => match p with | (i, l) => i ≤ xs.length ∧ 0 ≤ l ∧ l ≤ 1048576 ∧ szFold szMutex (xs.drop i) l = szList szMutex xs left) (fun p => xs.length - p.1) (fun p hH ih => ?_) (0, left - xs.length) (⟨Nat.zero_le _, h0, by omega, by simp [szList, Int.not_lt.2 h0]⟩))
   · (simp only [go_sem]; try rfl)
   obtain ⟨i, l⟩ := p
   refine .eq (st' := ⟨[.ls .a 196 (xs.map eMutexL), .sc (.int .i64 l), .un, .un, .un, .sc (.int .i64 (i : Nat)), .un, .un, .un, .un, .un, .un, .un, .un, .un, .un, .un, .un, .un, .un, .un, .un, .un, .un, .un, .un, .un], [], 0, 0, []⟩) rfl ?_
   replace hH : i ≤ xs.length ∧ 0 ≤ l ∧ l ≤ 1048576 ∧ szFold szMutex (xs.drop i) l = szList szMutex xs left := hH; obtain ⟨hH1, hH2, hH3, hH4⟩ := hH; refine .seq (.seq (.region ?_))
   (iterate 3 refine .o ?_); refine .o (.nil (.xseq ?_)); refine .cs (fun h1 => ?_) (fun h1 => ?_)
   · have hlt : i < xs.length := by simpa using h1
     obtain ⟨x, hx, hdx⟩ := drop_cons hlt; have hi0 : (0 : Int) ≤ (i : Int) := Int.natCast_nonneg i
     have hwi : IntKind.i64.wrap ((i : Int) + 1) = ((i + 1 : Nat) : Int) := by rw [w64 (by omega) (by omega)]; rfl
     have ok := szMutex_ok x l hH2; unfold SzOk at ok; refine .skip (.xseq (.seq (.block (.seq (.region ?_))))); (iterate 4 refine .o ?_); refine .o ?_
     refine .cl (c_laws_szMutex x l hH2 hH3) ?_; refine .o (.nil (.xseq (.seq (.region ?_)))); refine .o ?_; refine .o (.nil (.xseq ?_)); refine .cs (fun h2 => ?_) (fun h2 => ?_)
     · refine .seq (.region ?_); refine .o (.nil (.xseq (.ret (.rblk (.rseq (.rlp (.rblk (.rseq (.done ?_))))))))); refine .mk ?_; clear ih; (try simp only [Hb_iff] at *)
       simp only [Hb_iff, decide_eq_true_eq] at h2; rw [← hH4, hdx]; simp [szFold, h2]
     · simp only [Hb_iff, decide_eq_false_iff_not, Int.not_lt] at h2; refine .skip (.xblk (.xseq (.region ?_))); (iterate 2 refine .o ?_); refine .o (.nil ?_)
       refine .xlp (.cut [0, 1, 5] 0 (Nat.zero_le _) (.eq ?_ (ih (i + 1, (szMutex x l)) (by show xs.length - (i + 1) < xs.length - i; omega) ?_)))
       · (simp only [go_sem, Nat.reduceEqDiff, Nat.reduceLT, Nat.reduceLeDiff, Nat.reduceAdd, Nat.reduceSub, reduceCtorEq, *]; try rfl)
       · refine ⟨hlt, h2, by omega, ?_⟩; rw [← hH4, hdx]; simp [szFold, Int.not_lt.2 h2]
   · refine .exit (.eseq (.elp (.eblk (.xseq (.seq (.region ?_)))))); refine .o ?_; refine .o (.nil (.xseq (.ret (.done ?_)))); refine .mk ?_; (try simp only [Hb_iff] at *)
     have : xs.length ≤ i := by simpa using h1
     rw [← hH4, List.drop_of_length_le this]; rfl

theorem c_laws_szProg (x : Prog) (left : Int) (hl : 0 ≤ left) (hl2 : left ≤ 1048576) : FnC Tryz.prog TA false 19 [.agg (eProgL x), .sc (.int .i64 left)] [] (.sc (.int .i64 (szProg x left))) [] := by
 refine .ini Tryz.ntmps19 Tryz.results19 ?_; refine .seq (.region ?_); refine .o ?_; refine .o (.nil (.xseq (.seq (.region ?_)))); (iterate 2 refine .o ?_); refine .o ?_
 refine .cl (c_laws_szIntS x.caps left hl hl2) ?_; refine .o (.nil (.xseq (.seq (.seq (.region ?_))))); refine .o ?_; refine .o (.nil (.xseq ?_))
 refine .cs (fun h0 => ?_) (fun h0 => ?_)
 · refine .seq (.region ?_); refine .o (.nil (.xseq (.ret (.rseq (.done ?_))))); refine .mk ?_; (try simp only [Hb_iff] at *); simp only [Hb_iff, decide_eq_true_eq] at h0
   simp [szProg, sz1, sz2, h0]
 · simp only [Hb_iff, decide_eq_false_iff_not, Int.not_lt] at h0; have ok0 := szLen_ok (n := x.caps.length) hl; unfold SzOk at ok0; refine .skip (.xseq (.seq (.region ?_)))
   (iterate 2 refine .o ?_); refine .o ?_; refine .cl (c_laws_szSelectS x.sels _ h0 (by omega)) ?_; refine .o (.nil (.xseq (.seq (.seq (.region ?_))))); refine .o ?_
   refine .o (.nil (.xseq ?_)); refine .cs (fun h1 => ?_) (fun h1 => ?_)
   · refine .seq (.region ?_); refine .o (.nil (.xseq (.ret (.rseq (.done ?_))))); refine .mk ?_; (try simp only [Hb_iff] at *); simp only [Hb_iff, decide_eq_true_eq] at h1
     simp [szProg, sz1, sz2, h1, Int.not_lt.2 h0]
   · simp only [Hb_iff, decide_eq_false_iff_not, Int.not_lt] at h1; have ok1 := szList_ok szSelect_ok x.sels h0; unfold SzOk at ok1; refine .skip (.xseq (.seq (.region ?_)))
     (iterate 2 refine .o ?_); refine .o ?_; refine .cl (c_laws_szProcS x.procs _ h1 (by omega)) ?_; refine .o (.nil (.xseq (.seq (.seq (.region ?_))))); refine .o ?_
     refine .o (.nil (.xseq ?_)); refine .cs (fun h2 => ?_) (fun h2 => ?_)
     · refine .seq (.region ?_); refine .o (.nil (.xseq (.ret (.rseq (.done ?_))))); refine .mk ?_; (try simp only [Hb_iff] at *); simp only [Hb_iff, decide_eq_true_eq] at h2
       simp [szProg, sz1, sz2, h2, Int.not_lt.2 h0, Int.not_lt.2 h1]
     · simp only [Hb_iff, decide_eq_false_iff_not, Int.not_lt] at h2; refine .skip (.xseq (.seq (.region ?_))); refine .o ?_; refine .o (.nil (.xseq (.ret (.done ?_)))); refine .mk ?_
       (try simp only [Hb_iff] at *); simp [szProg, sz1, sz2, Int.not_lt.2 h0, Int.not_lt.2 h1, Int.not_lt.2 h2]

theorem c_laws_szEng (x : Eng) (left : Int) (hl : 0 ≤ left) (hl2 : left ≤ 1048576) : FnC Tryz.prog TA false 20 [.agg (eEngL x), .sc (.int .i64 left)] [] (.sc (.int .i64 (szEng x left))) [] := by
 refine .ini Tryz.ntmps20 Tryz.results20 ?_; refine .seq (.region ?_); refine .o ?_; refine .o (.nil (.xseq (.seq (.region ?_)))); (iterate 2 refine .o ?_); refine .o ?_
 refine .cl (c_laws_szGorS x.gs left hl hl2) ?_; refine .o (.nil (.xseq (.seq (.seq (.region ?_))))); refine .o ?_; refine .o (.nil (.xseq ?_))
 refine .cs (fun h0 => ?_) (fun h0 => ?_)
 · refine .seq (.region ?_); refine .o (.nil (.xseq (.ret (.rseq (.done ?_))))); refine .mk ?_; (try simp only [Hb_iff] at *); simp only [Hb_iff, decide_eq_true_eq] at h0
   simp [szEng, sz1, sz2, h0]
 · simp only [Hb_iff, decide_eq_false_iff_not, Int.not_lt] at h0; have ok0 := szList_ok szGor_ok x.gs hl; unfold SzOk at ok0; refine .skip (.xseq (.seq (.region ?_)))
   (iterate 2 refine .o ?_); refine .o ?_; refine .cl (c_laws_szChanS x.chans _ h0 (by omega)) ?_; refine .o (.nil (.xseq (.seq (.seq (.region ?_))))); refine .o ?_
   refine .o (.nil (.xseq ?_)); refine .cs (fun h1 => ?_) (fun h1 => ?_)
   · refine .seq (.region ?_); refine .o (.nil (.xseq (.ret (.rseq (.done ?_))))); refine .mk ?_; (try simp only [Hb_iff] at *); simp only [Hb_iff, decide_eq_true_eq] at h1
     simp [szEng, sz1, sz2, h1, Int.not_lt.2 h0]
   · simp only [Hb_iff, decide_eq_false_iff_not, Int.not_lt] at h1; have ok1 := szList_ok szChan_ok x.chans h0; unfold SzOk at ok1; refine .skip (.xseq (.seq (.region ?_)))
     (iterate 2 refine .o ?_); refine .o ?_; refine .cl (c_laws_szMutexS x.mus _ h1 (by omega)) ?_; refine .o (.nil (.xseq (.seq (.seq (.region ?_))))); refine .o ?_
     refine .o (.nil (.xseq ?_)); refine .cs (fun h2 => ?_) (fun h2 => ?_)
     · refine .seq (.region ?_); refine .o (.nil (.xseq (.ret (.rseq (.done ?_))))); refine .mk ?_; (try simp only [Hb_iff] at *); simp only [Hb_iff, decide_eq_true_eq] at h2
       simp [szEng, sz1, sz2, h2, Int.not_lt.2 h0, Int.not_lt.2 h1]
     · simp only [Hb_iff, decide_eq_false_iff_not, Int.not_lt] at h2; refine .skip (.xseq (.seq (.region ?_))); refine .o ?_; refine .o (.nil (.xseq (.ret (.done ?_)))); refine .mk ?_
       (try simp only [Hb_iff] at *); simp [szEng, sz1, sz2, Int.not_lt.2 h0, Int.not_lt.2 h1, Int.not_lt.2 h2]
end Go.Proofs.AM
