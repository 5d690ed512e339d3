/- A part of the proof: the walk of functions of the program, or the rules of the walk. -/
import Derived.Test.YthilnfccfjcgfaaGreatA1Z
import Derived.Test.YthilnfccfjcgfaaGreatA1S
import Derived.Test.YthilnfccfjcgfaaGreatA1Sz
import Derived.Test.YthilnfccfjcgfaaGreatA1To
import Derived.Test.YthilnfccfjcgfaaGreatA1Eq
import Derived.Test.YthilnfccfjcgfaaGreatA1F
set_option linter.unusedSimpArgs false
set_option linter.unusedVariables false
namespace Go.Proofs.AM
open Go Go.Proofs
set_option maxHeartbeats 4000000
set_option maxRecDepth 100000

theorem c_laws_FnExactStatus (p : Prog) (e : Eng) : FnC Tryz.prog TA false 3 [.agg (eProgL p), .agg (eEngL e)] [] (.sc (.bool true)) [] := by
 refine .ini Tryz.ntmps3 Tryz.results3 ?_; refine .seq (.region ?_); (iterate 2 refine .o ?_); refine .o (.nil (.xseq (.seq (.region ?_))))
 refine .o (.nil (.xseq (.seq (.region ?_)))); refine .o ?_; refine .o ?_; refine .cl (c_laws_szProg p 1048576 (by omega) (by omega)) ?_
 refine .o (.nil (.xseq (.seq (.seq (.region ?_))))); refine .o ?_; refine .o (.nil (.xseq ?_)); refine .cs (fun h0 => ?_) (fun h0 => ?_)
 · refine .seq (.region ?_); refine .o (.nil (.xseq (.ret (.rseq (.done ?_))))); refine .mk ?_; (try simp only [Hb_iff, Bool.not_eq_true', Bool.not_eq_false'] at *)
   all_goals (first | rfl | (exfalso; simp at *; done))
 · have hp0 : ¬ szProg p 1048576 < 0 := by simpa using h0
   have hso := szProg_ok p 1048576 (by omega); have hs1 : 0 ≤ szProg p 1048576 := by omega
   have hs2 : szProg p 1048576 ≤ 1048576 := hso.2; have hfp := fit_prog (by omega) (by omega) hp0; clear hso; refine .skip (.xseq (.seq (.region ?_))); refine .o ?_; refine .o ?_
   refine .cl (c_laws_szEng _ _ hs1 hs2) ?_; refine .o (.nil (.xseq (.seq (.seq (.region ?_))))); refine .o ?_; refine .o (.nil (.xseq ?_)); refine .cs (fun h1 => ?_) (fun h1 => ?_)
   · refine .seq (.region ?_); refine .o (.nil (.xseq (.ret (.rseq (.done ?_))))); refine .mk ?_; (try simp only [Hb_iff, Bool.not_eq_true', Bool.not_eq_false'] at *)
     all_goals (first | rfl | (exfalso; simp at *; done))
   · have he0 : ¬ szEng e (szProg p 1048576) < 0 := by simpa using h1
     have hfe := fit_eng hs1 hs2 he0; have hfg := fit_g hfe; clear h1; refine .skip (.xseq (.seq ?_)); refine .drawnK 3 [(0, false), (2, false), (1, true)] mixed (by kernel_rfl) ?_
     refine .o ?_; refine .o ?_; refine .cc (c_laws_toProg _ hfp) ?_; refine .nil ?_; refine .cl (c_laws_toEng _ hfe) ?_; refine .cl (c_spec_Status _ _ hfg) ?_
     refine .o (.nil (.xseq (.seq (.region ?_)))); refine .o ?_; refine .cl (c_laws_toProg _ hfp) ?_; refine .o ?_; refine .o (.nil (.xseq (.seq (.region ?_)))); refine .o ?_
     refine .cl (c_laws_toEng _ hfe) ?_; refine .o ?_; refine .o (.nil (.xseq (.seq (.region ?_)))); refine .o ?_; refine .o ?_; refine .cl (c_impl_Status _ _ hfg) ?_
     refine .o (.nil (.xseq (.seq (.seq (.region ?_))))); (iterate 2 refine .o ?_); refine .o (.nil (.xseq ?_)); refine .cs (fun h2 => ?_) (fun h2 => ?_)
     · refine .seq (.region ?_); refine .o (.nil (.xseq (.ret (.rseq (.done ?_))))); refine .mk ?_; (try simp only [Hb_iff, Bool.not_eq_true', Bool.not_eq_false'] at *)
       all_goals (first | rfl | (exfalso; simp at *; done))
     · refine .skip (.xseq (.seq (.seq ?_))); refine .drawnK 3 [(0, false), (1, false), (2, true)] mixed (by kernel_rfl) ?_; refine .o ?_; refine .o ?_; refine .cc (c_laws_toProg _ hfp) ?_
       refine .nil ?_; refine .cl (c_laws_eqProg _ _) ?_; refine .o (.nil (.xseq ?_)); refine .cs (fun h3 => ?_) (fun h3 => ?_)
       · refine .seq (.region ?_); refine .o (.nil (.xseq (.ret (.rseq (.done ?_))))); refine .mk ?_; (try simp only [Hb_iff, Bool.not_eq_true', Bool.not_eq_false'] at *)
         all_goals (first | rfl | (exfalso; simp at *; done))
       · refine .skip (.xseq (.seq (.seq ?_))); refine .drawnK 3 [(0, false), (1, false), (2, true)] mixed (by kernel_rfl) ?_; refine .o ?_; refine .o ?_; refine .cc (c_laws_toEng _ hfe) ?_
         refine .nil ?_; refine .cl (c_laws_eqEng _ _) ?_; refine .o (.nil (.xseq ?_)); refine .cs (fun h4 => ?_) (fun h4 => ?_)
         · refine .seq (.region ?_); refine .o (.nil (.xseq (.ret (.rseq (.done ?_))))); refine .mk ?_; (try simp only [Hb_iff, Bool.not_eq_true', Bool.not_eq_false'] at *)
           all_goals (first | rfl | (exfalso; simp at *; done))
         · refine .skip (.xseq (.seq (.region ?_))); refine .o (.nil (.xseq (.ret (.done ?_)))); refine .mk ?_; (try simp only [Hb_iff, Bool.not_eq_true', Bool.not_eq_false'] at *)
           all_goals (first | rfl | (exfalso; simp at *; done))
end Go.Proofs.AM
