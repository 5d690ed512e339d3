/- A part of the proof: the walk of functions of the program, or the rules of the walk. -/
import Derived.Test.YthilnfccfjcgfaaGreatA1P
set_option linter.unusedSimpArgs false
set_option linter.unusedVariables false
namespace Go.Proofs.AM
open Go Go.Proofs
set_option maxHeartbeats 4000000
set_option maxRecDepth 100000

theorem c_spec_InstrOk (p : Prog) (n : Int) (i : Instr) : FnC Tryz.prog TA false 303 [.agg (eProgI p), .sc (.int .i64 (n)), .agg (eInstr i)] [] (.sc (.bool (instrOkP p n i))) [] := by
 refine .ini Tryz.ntmps303 Tryz.results303 ?_; refine .seq (.region ?_); (iterate 2 refine .o ?_); refine .o (.nil (.xseq (.seq (.region ?_)))); refine .o ?_; refine .o ?_
 refine .cl (c_spec_Fields _) ?_; refine .o (.nil (.xseq (.seq (.seq (.region ?_))))); (iterate 2 refine .o ?_); refine .o ?_; refine .sp 13 (fun s0 => ?_) (fun s0 => ?_)
 · (iterate 4 refine .o ?_); refine .o (.nil (.xseq ?_)); refine .cT (.seq (.region ?_)); refine .o (.nil (.xseq (.ret (.rseq (.done ?_))))); refine .mk ?_
   (try simp only [Hb_iff] at *)
   first | rfl | (simp [instrOkP, withinP, in_within, *]; done) | (simp at *; simp [instrOkP, withinP, in_within, *]; done) | (simp at *; simp [instrOkP, withinP, in_within, *]; omega) | (simp [instrOkP, withinP, in_within, *] at *; omega) | (simp_all [instrOkP, withinP, in_within]; done) | (simp_all [instrOkP, withinP, in_within]; omega)
 · refine .o ?_; refine .o ?_; refine .cl (c_spec_l04Rest _ _) ?_; refine .o ?_; refine .o (.nil (.xseq ?_)); refine .cs (fun h0 => ?_) (fun h0 => ?_)
   · refine .seq (.region ?_); refine .o (.nil (.xseq (.ret (.rseq (.done ?_))))); refine .mk ?_; (try simp only [Hb_iff] at *)
     first | rfl | (simp [instrOkP, withinP, in_within, *]; done) | (simp at *; simp [instrOkP, withinP, in_within, *]; done) | (simp at *; simp [instrOkP, withinP, in_within, *]; omega) | (simp [instrOkP, withinP, in_within, *] at *; omega) | (simp_all [instrOkP, withinP, in_within]; done) | (simp_all [instrOkP, withinP, in_within]; omega)
   · refine .skip (.xseq (.seq (.seq (.region ?_)))); refine .o ?_; refine .o (.nil (.xseq (.block (.seq (.region ?_))))); refine .o ?_; refine .o (.nil (.xseq ?_))
     refine .cs (fun h1 => ?_) (fun h1 => ?_)
     · refine .seq (.region ?_); refine .o ?_; refine .o ?_; refine .cl (c_spec_l03Reg _) ?_; refine .o ?_; refine .sp 26 (fun s1 => ?_) (fun s1 => ?_)
       · refine .o ?_; refine .o ?_; refine .cl (c_spec_l03Val _) ?_; refine .o ?_; refine .o (.nil (.xseq (.ret (.rblk (.rseq (.done ?_)))))); refine .mk ?_; (try simp only [Hb_iff] at *)
         first | rfl | (simp [instrOkP, withinP, in_within, *]; done) | (simp at *; simp [instrOkP, withinP, in_within, *]; done) | (simp at *; simp [instrOkP, withinP, in_within, *]; omega) | (simp [instrOkP, withinP, in_within, *] at *; omega) | (simp_all [instrOkP, withinP, in_within]; done) | (simp_all [instrOkP, withinP, in_within]; omega)
       · (iterate 4 refine .o ?_); refine .o (.nil (.xseq (.ret (.rblk (.rseq (.done ?_)))))); refine .mk ?_; (try simp only [Hb_iff] at *)
         first | rfl | (simp [instrOkP, withinP, in_within, *]; done) | (simp at *; simp [instrOkP, withinP, in_within, *]; done) | (simp at *; simp [instrOkP, withinP, in_within, *]; omega) | (simp [instrOkP, withinP, in_within, *] at *; omega) | (simp_all [instrOkP, withinP, in_within]; done) | (simp_all [instrOkP, withinP, in_within]; omega)
     · refine .seq (.seq (.region ?_)); refine .o ?_; refine .o (.nil (.xseq ?_)); refine .cs (fun h2 => ?_) (fun h2 => ?_)
       · refine .skip (.xseq ?_); refine .cT (.seq (.region ?_)); refine .o ?_; refine .o ?_; refine .cl (c_spec_l03Reg _) ?_; refine .o ?_; refine .sp 38 (fun s2 => ?_) (fun s2 => ?_)
         · refine .o ?_; refine .o ?_; refine .cl (c_spec_l03Reg _) ?_; refine .o ?_; refine .o ?_; refine .sp 43 (fun s3 => ?_) (fun s3 => ?_)
           · refine .o ?_; refine .o ?_; refine .cl (c_spec_l03Reg _) ?_; refine .o ?_; refine .o (.nil (.xseq (.ret (.rblk (.rseq (.done ?_)))))); refine .mk ?_; (try simp only [Hb_iff] at *)
             first | rfl | (simp [instrOkP, withinP, in_within, *]; done) | (simp at *; simp [instrOkP, withinP, in_within, *]; done) | (simp at *; simp [instrOkP, withinP, in_within, *]; omega) | (simp [instrOkP, withinP, in_within, *] at *; omega) | (simp_all [instrOkP, withinP, in_within]; done) | (simp_all [instrOkP, withinP, in_within]; omega)
           · (iterate 4 refine .o ?_); refine .o (.nil (.xseq (.ret (.rblk (.rseq (.done ?_)))))); refine .mk ?_; (try simp only [Hb_iff] at *)
             first | rfl | (simp [instrOkP, withinP, in_within, *]; done) | (simp at *; simp [instrOkP, withinP, in_within, *]; done) | (simp at *; simp [instrOkP, withinP, in_within, *]; omega) | (simp [instrOkP, withinP, in_within, *] at *; omega) | (simp_all [instrOkP, withinP, in_within]; done) | (simp_all [instrOkP, withinP, in_within]; omega)
         · (iterate 9 refine .o ?_); refine .o (.nil (.xseq (.ret (.rblk (.rseq (.done ?_)))))); refine .mk ?_; (try simp only [Hb_iff] at *)
           first | rfl | (simp [instrOkP, withinP, in_within, *]; done) | (simp at *; simp [instrOkP, withinP, in_within, *]; done) | (simp at *; simp [instrOkP, withinP, in_within, *]; omega) | (simp [instrOkP, withinP, in_within, *] at *; omega) | (simp_all [instrOkP, withinP, in_within]; done) | (simp_all [instrOkP, withinP, in_within]; omega)
       · refine .seq (.region ?_); refine .o ?_; refine .o (.nil (.xseq ?_)); refine .cs (fun h3 => ?_) (fun h3 => ?_)
         · refine .skip (.xseq ?_); refine .cT (.seq (.region ?_)); refine .o ?_; refine .o ?_; refine .cl (c_spec_l03Reg _) ?_; refine .o ?_; refine .sp 38 (fun s4 => ?_) (fun s4 => ?_)
           · refine .o ?_; refine .o ?_; refine .cl (c_spec_l03Reg _) ?_; refine .o ?_; refine .o ?_; refine .sp 43 (fun s5 => ?_) (fun s5 => ?_)
             · refine .o ?_; refine .o ?_; refine .cl (c_spec_l03Reg _) ?_; refine .o ?_; refine .o (.nil (.xseq (.ret (.rblk (.rseq (.done ?_)))))); refine .mk ?_; (try simp only [Hb_iff] at *)
               first | rfl | (simp [instrOkP, withinP, in_within, *]; done) | (simp at *; simp [instrOkP, withinP, in_within, *]; done) | (simp at *; simp [instrOkP, withinP, in_within, *]; omega) | (simp [instrOkP, withinP, in_within, *] at *; omega) | (simp_all [instrOkP, withinP, in_within]; done) | (simp_all [instrOkP, withinP, in_within]; omega)
             · (iterate 4 refine .o ?_); refine .o (.nil (.xseq (.ret (.rblk (.rseq (.done ?_)))))); refine .mk ?_; (try simp only [Hb_iff] at *)
               first | rfl | (simp [instrOkP, withinP, in_within, *]; done) | (simp at *; simp [instrOkP, withinP, in_within, *]; done) | (simp at *; simp [instrOkP, withinP, in_within, *]; omega) | (simp [instrOkP, withinP, in_within, *] at *; omega) | (simp_all [instrOkP, withinP, in_within]; done) | (simp_all [instrOkP, withinP, in_within]; omega)
           · (iterate 9 refine .o ?_); refine .o (.nil (.xseq (.ret (.rblk (.rseq (.done ?_)))))); refine .mk ?_; (try simp only [Hb_iff] at *)
             first | rfl | (simp [instrOkP, withinP, in_within, *]; done) | (simp at *; simp [instrOkP, withinP, in_within, *]; done) | (simp at *; simp [instrOkP, withinP, in_within, *]; omega) | (simp [instrOkP, withinP, in_within, *] at *; omega) | (simp_all [instrOkP, withinP, in_within]; done) | (simp_all [instrOkP, withinP, in_within]; omega)
         · refine .region ?_; refine .o ?_; refine .o (.nil (.xseq ?_)); refine .cs (fun h4 => ?_) (fun h4 => ?_)
           · refine .seq (.region ?_); refine .o ?_; refine .o ?_; refine .cl (c_spec_l03Reg _) ?_; refine .o ?_; refine .sp 38 (fun s6 => ?_) (fun s6 => ?_)
             · refine .o ?_; refine .o ?_; refine .cl (c_spec_l03Reg _) ?_; refine .o ?_; refine .o ?_; refine .sp 43 (fun s7 => ?_) (fun s7 => ?_)
               · refine .o ?_; refine .o ?_; refine .cl (c_spec_l03Reg _) ?_; refine .o ?_; refine .o (.nil (.xseq (.ret (.rblk (.rseq (.done ?_)))))); refine .mk ?_; (try simp only [Hb_iff] at *)
                 first | rfl | (simp [instrOkP, withinP, in_within, *]; done) | (simp at *; simp [instrOkP, withinP, in_within, *]; done) | (simp at *; simp [instrOkP, withinP, in_within, *]; omega) | (simp [instrOkP, withinP, in_within, *] at *; omega) | (simp_all [instrOkP, withinP, in_within]; done) | (simp_all [instrOkP, withinP, in_within]; omega)
               · (iterate 4 refine .o ?_); refine .o (.nil (.xseq (.ret (.rblk (.rseq (.done ?_)))))); refine .mk ?_; (try simp only [Hb_iff] at *)
                 first | rfl | (simp [instrOkP, withinP, in_within, *]; done) | (simp at *; simp [instrOkP, withinP, in_within, *]; done) | (simp at *; simp [instrOkP, withinP, in_within, *]; omega) | (simp [instrOkP, withinP, in_within, *] at *; omega) | (simp_all [instrOkP, withinP, in_within]; done) | (simp_all [instrOkP, withinP, in_within]; omega)
             · (iterate 9 refine .o ?_); refine .o (.nil (.xseq (.ret (.rblk (.rseq (.done ?_)))))); refine .mk ?_; (try simp only [Hb_iff] at *)
               first | rfl | (simp [instrOkP, withinP, in_within, *]; done) | (simp at *; simp [instrOkP, withinP, in_within, *]; done) | (simp at *; simp [instrOkP, withinP, in_within, *]; omega) | (simp [instrOkP, withinP, in_within, *] at *; omega) | (simp_all [instrOkP, withinP, in_within]; done) | (simp_all [instrOkP, withinP, in_within]; omega)
           · refine .seq (.region ?_); refine .o ?_; refine .o (.nil (.xseq ?_)); refine .cs (fun h5 => ?_) (fun h5 => ?_)
             · refine .seq (.region ?_); (iterate 3 refine .o ?_); refine .o ?_; refine .sp 53 (fun s8 => ?_) (fun s8 => ?_)
               · (iterate 5 refine .o ?_); refine .o (.nil (.xseq (.ret (.rblk (.rseq (.done ?_)))))); refine .mk ?_; (try simp only [Hb_iff] at *)
                 first | rfl | (simp [instrOkP, withinP, in_within, *]; done) | (simp at *; simp [instrOkP, withinP, in_within, *]; done) | (simp at *; simp [instrOkP, withinP, in_within, *]; omega) | (simp [instrOkP, withinP, in_within, *] at *; omega) | (simp_all [instrOkP, withinP, in_within]; done) | (simp_all [instrOkP, withinP, in_within]; omega)
               · (iterate 5 refine .o ?_); refine .o (.nil (.xseq (.ret (.rblk (.rseq (.done ?_)))))); refine .mk ?_; (try simp only [Hb_iff] at *)
                 first | rfl | (simp [instrOkP, withinP, in_within, *]; done) | (simp at *; simp [instrOkP, withinP, in_within, *]; done) | (simp at *; simp [instrOkP, withinP, in_within, *]; omega) | (simp [instrOkP, withinP, in_within, *] at *; omega) | (simp_all [instrOkP, withinP, in_within]; done) | (simp_all [instrOkP, withinP, in_within]; omega)
             · refine .seq (.region ?_); refine .o ?_; refine .o (.nil (.xseq ?_)); refine .cs (fun h6 => ?_) (fun h6 => ?_)
               · refine .seq (.region ?_); refine .o ?_; refine .o ?_; refine .cl (c_spec_l03Reg _) ?_; refine .o ?_; refine .sp 64 (fun s9 => ?_) (fun s9 => ?_)
                 · (iterate 4 refine .o ?_); refine .o ?_; refine .sp 69 (fun s10 => ?_) (fun s10 => ?_)
                   · (iterate 5 refine .o ?_); refine .o (.nil (.xseq (.ret (.rblk (.rseq (.done ?_)))))); refine .mk ?_; (try simp only [Hb_iff] at *)
                     first | rfl | (simp [instrOkP, withinP, in_within, *]; done) | (simp at *; simp [instrOkP, withinP, in_within, *]; done) | (simp at *; simp [instrOkP, withinP, in_within, *]; omega) | (simp [instrOkP, withinP, in_within, *] at *; omega) | (simp_all [instrOkP, withinP, in_within]; done) | (simp_all [instrOkP, withinP, in_within]; omega)
                   · (iterate 5 refine .o ?_); refine .o (.nil (.xseq (.ret (.rblk (.rseq (.done ?_)))))); refine .mk ?_; (try simp only [Hb_iff] at *)
                     first | rfl | (simp [instrOkP, withinP, in_within, *]; done) | (simp at *; simp [instrOkP, withinP, in_within, *]; done) | (simp at *; simp [instrOkP, withinP, in_within, *]; omega) | (simp [instrOkP, withinP, in_within, *] at *; omega) | (simp_all [instrOkP, withinP, in_within]; done) | (simp_all [instrOkP, withinP, in_within]; omega)
                 · (iterate 10 refine .o ?_); refine .o (.nil (.xseq (.ret (.rblk (.rseq (.done ?_)))))); refine .mk ?_; (try simp only [Hb_iff] at *)
                   first | rfl | (simp [instrOkP, withinP, in_within, *]; done) | (simp at *; simp [instrOkP, withinP, in_within, *]; done) | (simp at *; simp [instrOkP, withinP, in_within, *]; omega) | (simp [instrOkP, withinP, in_within, *] at *; omega) | (simp_all [instrOkP, withinP, in_within]; done) | (simp_all [instrOkP, withinP, in_within]; omega)
               · refine .seq (.region ?_); refine .o ?_; refine .o (.nil (.xseq ?_)); refine .cs (fun h7 => ?_) (fun h7 => ?_)
                 · refine .seq (.region ?_); (iterate 2 refine .o ?_); refine .o ?_; refine .cl (c_spec_l04Chan _ _) ?_; refine .o ?_; refine .sp 81 (fun s11 => ?_) (fun s11 => ?_)
                   · refine .o ?_; refine .o ?_; refine .cl (c_spec_l03Reg _) ?_; refine .o ?_; refine .o (.nil (.xseq (.ret (.rblk (.rseq (.done ?_)))))); refine .mk ?_; (try simp only [Hb_iff] at *)
                     first | rfl | (simp [instrOkP, withinP, in_within, *]; done) | (simp at *; simp [instrOkP, withinP, in_within, *]; done) | (simp at *; simp [instrOkP, withinP, in_within, *]; omega) | (simp [instrOkP, withinP, in_within, *] at *; omega) | (simp_all [instrOkP, withinP, in_within]; done) | (simp_all [instrOkP, withinP, in_within]; omega)
                   · (iterate 4 refine .o ?_); refine .o (.nil (.xseq (.ret (.rblk (.rseq (.done ?_)))))); refine .mk ?_; (try simp only [Hb_iff] at *)
                     first | rfl | (simp [instrOkP, withinP, in_within, *]; done) | (simp at *; simp [instrOkP, withinP, in_within, *]; done) | (simp at *; simp [instrOkP, withinP, in_within, *]; omega) | (simp [instrOkP, withinP, in_within, *] at *; omega) | (simp_all [instrOkP, withinP, in_within]; done) | (simp_all [instrOkP, withinP, in_within]; omega)
                 · refine .seq (.region ?_); refine .o ?_; refine .o (.nil (.xseq ?_)); refine .cs (fun h8 => ?_) (fun h8 => ?_)
                   · refine .seq (.region ?_); (iterate 2 refine .o ?_); refine .o ?_; refine .cl (c_spec_l04Chan _ _) ?_; refine .o ?_; refine .sp 92 (fun s12 => ?_) (fun s12 => ?_)
                     · refine .o ?_; refine .o ?_; refine .cl (c_spec_l03Reg _) ?_; refine .o ?_; refine .o ?_; refine .sp 97 (fun s13 => ?_) (fun s13 => ?_)
                       · refine .o ?_; refine .o ?_; refine .cl (c_spec_l03Reg _) ?_; refine .o ?_; refine .o (.nil (.xseq (.ret (.rblk (.rseq (.done ?_)))))); refine .mk ?_; (try simp only [Hb_iff] at *)
                         first | rfl | (simp [instrOkP, withinP, in_within, *]; done) | (simp at *; simp [instrOkP, withinP, in_within, *]; done) | (simp at *; simp [instrOkP, withinP, in_within, *]; omega) | (simp [instrOkP, withinP, in_within, *] at *; omega) | (simp_all [instrOkP, withinP, in_within]; done) | (simp_all [instrOkP, withinP, in_within]; omega)
                       · (iterate 4 refine .o ?_); refine .o (.nil (.xseq (.ret (.rblk (.rseq (.done ?_)))))); refine .mk ?_; (try simp only [Hb_iff] at *)
                         first | rfl | (simp [instrOkP, withinP, in_within, *]; done) | (simp at *; simp [instrOkP, withinP, in_within, *]; done) | (simp at *; simp [instrOkP, withinP, in_within, *]; omega) | (simp [instrOkP, withinP, in_within, *] at *; omega) | (simp_all [instrOkP, withinP, in_within]; done) | (simp_all [instrOkP, withinP, in_within]; omega)
                     · (iterate 9 refine .o ?_); refine .o (.nil (.xseq (.ret (.rblk (.rseq (.done ?_)))))); refine .mk ?_; (try simp only [Hb_iff] at *)
                       first | rfl | (simp [instrOkP, withinP, in_within, *]; done) | (simp at *; simp [instrOkP, withinP, in_within, *]; done) | (simp at *; simp [instrOkP, withinP, in_within, *]; omega) | (simp [instrOkP, withinP, in_within, *] at *; omega) | (simp_all [instrOkP, withinP, in_within]; done) | (simp_all [instrOkP, withinP, in_within]; omega)
                   · refine .seq (.region ?_); refine .o ?_; refine .o (.nil (.xseq ?_)); refine .cs (fun h9 => ?_) (fun h9 => ?_)
                     · refine .seq (.region ?_); (iterate 2 refine .o ?_); refine .o ?_; refine .cl (c_spec_l04Chan _ _) ?_; refine .o (.nil (.xseq (.ret (.rblk (.rseq (.done ?_)))))); refine .mk ?_
                       (try simp only [Hb_iff] at *)
                       first | rfl | (simp [instrOkP, withinP, in_within, *]; done) | (simp at *; simp [instrOkP, withinP, in_within, *]; done) | (simp at *; simp [instrOkP, withinP, in_within, *]; omega) | (simp [instrOkP, withinP, in_within, *] at *; omega) | (simp_all [instrOkP, withinP, in_within]; done) | (simp_all [instrOkP, withinP, in_within]; omega)
                     · refine .seq (.region ?_); refine .o ?_; refine .o (.nil (.xseq ?_)); refine .cs (fun h10 => ?_) (fun h10 => ?_)
                       · refine .seq (.region ?_); (iterate 4 refine .o ?_); refine .o ?_; refine .bound 113 rfl fun hb => ?_; simp only [List.length_map, mxl] at hb
                         have hwhb : IntKind.i64.wrap ((p.sels.length : Int) - 1) = (p.sels.length : Int) - 1 := w64 (by omega) (by omega); refine .o ?_; refine .cl (c_spec_l04In _ _ _) ?_
                         refine .o (.nil (.xseq (.ret (.rblk (.rseq (.done ?_)))))); refine .mk ?_; (try simp only [Hb_iff] at *)
                         first | rfl | (simp [instrOkP, withinP, in_within, *]; done) | (simp at *; simp [instrOkP, withinP, in_within, *]; done) | (simp at *; simp [instrOkP, withinP, in_within, *]; omega) | (simp [instrOkP, withinP, in_within, *] at *; omega) | (simp_all [instrOkP, withinP, in_within]; done) | (simp_all [instrOkP, withinP, in_within]; omega)
                       · refine .seq (.seq (.region ?_)); refine .o ?_; refine .o (.nil (.xseq ?_)); refine .cs (fun h11 => ?_) (fun h11 => ?_)
                         · refine .skip (.xseq ?_); refine .cT (.seq (.region ?_)); (iterate 3 refine .o ?_); refine .o ?_; refine .sp 123 (fun s14 => ?_) (fun s14 => ?_)
                           · (iterate 6 refine .o ?_); refine .o (.nil (.xseq (.ret (.rblk (.rseq (.done ?_)))))); refine .mk ?_; (try simp only [Hb_iff] at *)
                             first | rfl | (simp [instrOkP, withinP, in_within, *]; done) | (simp at *; simp [instrOkP, withinP, in_within, *]; done) | (simp at *; simp [instrOkP, withinP, in_within, *]; omega) | (simp [instrOkP, withinP, in_within, *] at *; omega) | (simp_all [instrOkP, withinP, in_within]; done) | (simp_all [instrOkP, withinP, in_within]; omega)
                           · (iterate 6 refine .o ?_); refine .o (.nil (.xseq (.ret (.rblk (.rseq (.done ?_)))))); refine .mk ?_; (try simp only [Hb_iff] at *)
                             first | rfl | (simp [instrOkP, withinP, in_within, *]; done) | (simp at *; simp [instrOkP, withinP, in_within, *]; done) | (simp at *; simp [instrOkP, withinP, in_within, *]; omega) | (simp [instrOkP, withinP, in_within, *] at *; omega) | (simp_all [instrOkP, withinP, in_within]; done) | (simp_all [instrOkP, withinP, in_within]; omega)
                         · refine .region ?_; refine .o ?_; refine .o (.nil (.xseq ?_)); refine .cs (fun h12 => ?_) (fun h12 => ?_)
                           · refine .seq (.region ?_); (iterate 3 refine .o ?_); refine .o ?_; refine .sp 123 (fun s15 => ?_) (fun s15 => ?_)
                             · (iterate 6 refine .o ?_); refine .o (.nil (.xseq (.ret (.rblk (.rseq (.done ?_)))))); refine .mk ?_; (try simp only [Hb_iff] at *)
                               first | rfl | (simp [instrOkP, withinP, in_within, *]; done) | (simp at *; simp [instrOkP, withinP, in_within, *]; done) | (simp at *; simp [instrOkP, withinP, in_within, *]; omega) | (simp [instrOkP, withinP, in_within, *] at *; omega) | (simp_all [instrOkP, withinP, in_within]; done) | (simp_all [instrOkP, withinP, in_within]; omega)
                             · (iterate 6 refine .o ?_); refine .o (.nil (.xseq (.ret (.rblk (.rseq (.done ?_)))))); refine .mk ?_; (try simp only [Hb_iff] at *)
                               first | rfl | (simp [instrOkP, withinP, in_within, *]; done) | (simp at *; simp [instrOkP, withinP, in_within, *]; done) | (simp at *; simp [instrOkP, withinP, in_within, *]; omega) | (simp [instrOkP, withinP, in_within, *] at *; omega) | (simp_all [instrOkP, withinP, in_within]; done) | (simp_all [instrOkP, withinP, in_within]; omega)
                           · refine .seq (.region ?_); refine .o ?_; refine .o (.nil (.xseq ?_)); refine .cs (fun h13 => ?_) (fun h13 => ?_)
                             · refine .seq (.region ?_); (iterate 4 refine .o ?_); refine .o ?_; refine .bound 135 rfl fun hb => ?_; simp only [List.length_map, mxl] at hb
                               have hwhb : IntKind.i64.wrap ((p.procs.length : Int) - 1) = (p.procs.length : Int) - 1 := w64 (by omega) (by omega); refine .o ?_; refine .cl (c_spec_l04In _ _ _) ?_; refine .o ?_
                               refine .sp 139 (fun s16 => ?_) (fun s16 => ?_)
                               · refine .o ?_; refine .o ?_; refine .cl (c_spec_l03Reg _) ?_; refine .o ?_; refine .o (.nil (.xseq (.ret (.rblk (.rseq (.done ?_)))))); refine .mk ?_; (try simp only [Hb_iff] at *)
                                 first | rfl | (simp [instrOkP, withinP, in_within, *]; done) | (simp at *; simp [instrOkP, withinP, in_within, *]; done) | (simp at *; simp [instrOkP, withinP, in_within, *]; omega) | (simp [instrOkP, withinP, in_within, *] at *; omega) | (simp_all [instrOkP, withinP, in_within]; done) | (simp_all [instrOkP, withinP, in_within]; omega)
                               · (iterate 4 refine .o ?_); refine .o (.nil (.xseq (.ret (.rblk (.rseq (.done ?_)))))); refine .mk ?_; (try simp only [Hb_iff] at *)
                                 first | rfl | (simp [instrOkP, withinP, in_within, *]; done) | (simp at *; simp [instrOkP, withinP, in_within, *]; done) | (simp at *; simp [instrOkP, withinP, in_within, *]; omega) | (simp [instrOkP, withinP, in_within, *] at *; omega) | (simp_all [instrOkP, withinP, in_within]; done) | (simp_all [instrOkP, withinP, in_within]; omega)
                             · refine .seq (.region ?_); refine .o ?_; refine .o (.nil (.xseq ?_)); refine .cs (fun h14 => ?_) (fun h14 => ?_)
                               · refine .seq (.region ?_); refine .o ?_; refine .o ?_; refine .cl (c_spec_l03Reg _) ?_; refine .o (.nil (.xseq (.ret (.rblk (.rseq (.done ?_)))))); refine .mk ?_
                                 (try simp only [Hb_iff] at *)
                                 first | rfl | (simp [instrOkP, withinP, in_within, *]; done) | (simp at *; simp [instrOkP, withinP, in_within, *]; done) | (simp at *; simp [instrOkP, withinP, in_within, *]; omega) | (simp [instrOkP, withinP, in_within, *] at *; omega) | (simp_all [instrOkP, withinP, in_within]; done) | (simp_all [instrOkP, withinP, in_within]; omega)
                               · refine .skip (.xblk (.xseq (.seq (.region ?_)))); refine .o (.nil (.xseq (.ret (.done ?_)))); refine .mk ?_; (try simp only [Hb_iff] at *)
                                 first | rfl | (simp [instrOkP, withinP, in_within, *]; done) | (simp at *; simp [instrOkP, withinP, in_within, *]; done) | (simp at *; simp [instrOkP, withinP, in_within, *]; omega) | (simp [instrOkP, withinP, in_within, *] at *; omega) | (simp_all [instrOkP, withinP, in_within]; done) | (simp_all [instrOkP, withinP, in_within]; omega)

theorem c_impl_InstrOk (p : Prog) (n : Int) (i : Instr) : FnC Tryz.prog TA false 227 [.agg (eProgI p), .sc (.int .i64 (n)), .agg (eInstr i)] [] (.sc (.bool (instrOkP p n i))) [] := by
 refine .ini Tryz.ntmps227 Tryz.results227 ?_; refine .seq (.region ?_); (iterate 2 refine .o ?_); refine .o (.nil (.xseq ?_)); apply Go.jn (R := instrOkP p n i = instrArmP p n i)
 · intro key; refine .seq (.region ?_); refine .o ?_; refine .o ?_; refine .cl (c_impl_Fields _) ?_; refine .nil (.xseq (.block (.seq (.region ?_)))); refine .o ?_
   refine .o (.nil (.xseq ?_)); refine .cs (fun h0 => ?_) (fun h0 => ?_)
   · refine .seq (.region ?_); (iterate 3 refine .o ?_); refine .o ?_; refine .sp 15 (fun s0 => ?_) (fun s0 => ?_)
     · (iterate 8 refine .o ?_); refine .o (.nil (.xseq ?_)); refine .cT (.seq (.region ?_)); refine .o (.nil (.xseq (.ret (.rblk (.rseq (.done ?_)))))); refine .mk ?_; clear key
       (try simp only [Hb_iff] at *)
       first | rfl | (rw [hR]; simp at *; simp [instrArmP, *]; done) | (have h3 : ¬ restP i (fieldsP i.op) = true := by (intro hr; simp [restP] at *; simp_all <;> omega)); simp [instrOkP, h3]
     · (iterate 4 refine .o ?_); refine .o ?_; refine .sp 20 (fun s1 => ?_) (fun s1 => ?_)
       · (iterate 3 refine .o ?_); refine .o (.nil (.xseq ?_)); refine .cT (.seq (.region ?_)); refine .o (.nil (.xseq (.ret (.rblk (.rseq (.done ?_)))))); refine .mk ?_; clear key
         (try simp only [Hb_iff] at *)
         first | rfl | (rw [hR]; simp at *; simp [instrArmP, *]; done) | (have h3 : ¬ restP i (fieldsP i.op) = true := by (intro hr; simp [restP] at *; simp_all <;> omega)); simp [instrOkP, h3]
       · (iterate 3 refine .o ?_); refine .o (.nil (.xseq ?_)); refine .cs (fun h1 => ?_) (fun h1 => ?_)
         · refine .seq (.region ?_); refine .o (.nil (.xseq (.ret (.rblk (.rseq (.done ?_)))))); refine .mk ?_; clear key; (try simp only [Hb_iff] at *)
           first | rfl | (rw [hR]; simp at *; simp [instrArmP, *]; done) | (have h3 : ¬ restP i (fieldsP i.op) = true := by (intro hr; simp [restP] at *; simp_all <;> omega)); simp [instrOkP, h3]
         · refine .skip (.xblk ?_); refine .jx [1, 3, 5] (key ?_); clear key; (try simp only [Hb_iff] at *); refine instr_arm p n (fun hf => ?_); simp [restP] at *; omega
   · refine .seq (.region ?_); refine .o ?_; refine .o (.nil (.xseq ?_)); refine .cs (fun h2 => ?_) (fun h2 => ?_)
     · refine .seq (.region ?_); (iterate 3 refine .o ?_); refine .o ?_; refine .sp 30 (fun s2 => ?_) (fun s2 => ?_)
       · (iterate 3 refine .o ?_); refine .o (.nil (.xseq ?_)); refine .cT (.seq (.region ?_)); refine .o (.nil (.xseq (.ret (.rblk (.rseq (.done ?_)))))); refine .mk ?_; clear key
         (try simp only [Hb_iff] at *)
         first | rfl | (rw [hR]; simp at *; simp [instrArmP, *]; done) | (have h3 : ¬ restP i (fieldsP i.op) = true := by (intro hr; simp [restP] at *; simp_all <;> omega)); simp [instrOkP, h3]
       · (iterate 3 refine .o ?_); refine .o (.nil (.xseq ?_)); refine .cs (fun h3 => ?_) (fun h3 => ?_)
         · refine .seq (.region ?_); refine .o (.nil (.xseq (.ret (.rblk (.rseq (.done ?_)))))); refine .mk ?_; clear key; (try simp only [Hb_iff] at *)
           first | rfl | (rw [hR]; simp at *; simp [instrArmP, *]; done) | (have h3 : ¬ restP i (fieldsP i.op) = true := by (intro hr; simp [restP] at *; simp_all <;> omega)); simp [instrOkP, h3]
         · refine .skip (.xblk ?_); refine .jx [1, 3, 5] (key ?_); clear key; (try simp only [Hb_iff] at *); refine instr_arm p n (fun hf => ?_); simp [restP] at *; omega
     · refine .seq (.region ?_); refine .o ?_; refine .o (.nil (.xseq ?_)); refine .cs (fun h4 => ?_) (fun h4 => ?_)
       · refine .seq (.region ?_); (iterate 2 refine .o ?_); refine .o (.nil (.xseq ?_)); refine .cs (fun h5 => ?_) (fun h5 => ?_)
         · refine .seq (.region ?_); refine .o (.nil (.xseq (.ret (.rblk (.rseq (.done ?_)))))); refine .mk ?_; clear key; (try simp only [Hb_iff] at *)
           first | rfl | (rw [hR]; simp at *; simp [instrArmP, *]; done) | (have h3 : ¬ restP i (fieldsP i.op) = true := by (intro hr; simp [restP] at *; simp_all <;> omega)); simp [instrOkP, h3]
         · refine .skip (.xblk ?_); refine .jx [1, 3, 5] (key ?_); clear key; (try simp only [Hb_iff] at *); refine instr_arm p n (fun hf => ?_); simp [restP] at *; omega
       · refine .skip (.xblk ?_); refine .jx [1, 3, 5] (key ?_); clear key; (try simp only [Hb_iff] at *); refine instr_arm p n (fun hf => ?_); simp [restP] at *; omega
 · intro hR; refine .seq (.seq (.region ?_)); refine .o ?_; refine .o (.nil (.xseq (.block (.seq (.region ?_))))); refine .o ?_; refine .o (.nil (.xseq ?_))
   refine .cs (fun h6 => ?_) (fun h6 => ?_)
   · refine .seq (.region ?_); refine .o (.nil (.xseq (.ret (.rblk (.rseq (.done ?_)))))); refine .mk ?_; (try simp only [Hb_iff] at *)
     first | rfl | (rw [hR]; simp at *; simp [instrArmP, *]; done) | (have h3 : ¬ restP i (fieldsP i.op) = true := by (intro hr; simp [restP] at *; simp_all <;> omega)); simp [instrOkP, h3]
   · refine .seq (.region ?_); refine .o ?_; refine .o (.nil (.xseq ?_)); refine .cs (fun h7 => ?_) (fun h7 => ?_)
     · refine .seq (.region ?_); refine .o ?_; refine .o ?_; refine .cl (c_impl_isReg _) ?_; refine .o ?_; refine .sp 49 (fun s3 => ?_) (fun s3 => ?_)
       · refine .o ?_; refine .o ?_; refine .cl (c_impl_isVal _) ?_; refine .o ?_; refine .o (.nil (.xseq (.ret (.rblk (.rseq (.done ?_)))))); refine .mk ?_; (try simp only [Hb_iff] at *)
         first | rfl | (rw [hR]; simp at *; simp [instrArmP, *]; done) | (have h3 : ¬ restP i (fieldsP i.op) = true := by (intro hr; simp [restP] at *; simp_all <;> omega)); simp [instrOkP, h3]
       · (iterate 4 refine .o ?_); refine .o (.nil (.xseq (.ret (.rblk (.rseq (.done ?_)))))); refine .mk ?_; (try simp only [Hb_iff] at *)
         first | rfl | (rw [hR]; simp at *; simp [instrArmP, *]; done) | (have h3 : ¬ restP i (fieldsP i.op) = true := by (intro hr; simp [restP] at *; simp_all <;> omega)); simp [instrOkP, h3]
     · refine .seq (.seq (.region ?_)); refine .o ?_; refine .o (.nil (.xseq ?_)); refine .cs (fun h8 => ?_) (fun h8 => ?_)
       · refine .skip (.xseq ?_); refine .cT (.seq (.region ?_)); refine .o ?_; refine .o ?_; refine .cl (c_impl_isReg _) ?_; refine .o ?_; refine .sp 61 (fun s4 => ?_) (fun s4 => ?_)
         · refine .o ?_; refine .o ?_; refine .cl (c_impl_isReg _) ?_; refine .o ?_; refine .o ?_; refine .sp 66 (fun s5 => ?_) (fun s5 => ?_)
           · refine .o ?_; refine .o ?_; refine .cl (c_impl_isReg _) ?_; refine .o ?_; refine .o (.nil (.xseq (.ret (.rblk (.rseq (.done ?_)))))); refine .mk ?_; (try simp only [Hb_iff] at *)
             first | rfl | (rw [hR]; simp at *; simp [instrArmP, *]; done) | (have h3 : ¬ restP i (fieldsP i.op) = true := by (intro hr; simp [restP] at *; simp_all <;> omega)); simp [instrOkP, h3]
           · (iterate 4 refine .o ?_); refine .o (.nil (.xseq (.ret (.rblk (.rseq (.done ?_)))))); refine .mk ?_; (try simp only [Hb_iff] at *)
             first | rfl | (rw [hR]; simp at *; simp [instrArmP, *]; done) | (have h3 : ¬ restP i (fieldsP i.op) = true := by (intro hr; simp [restP] at *; simp_all <;> omega)); simp [instrOkP, h3]
         · (iterate 9 refine .o ?_); refine .o (.nil (.xseq (.ret (.rblk (.rseq (.done ?_)))))); refine .mk ?_; (try simp only [Hb_iff] at *)
           first | rfl | (rw [hR]; simp at *; simp [instrArmP, *]; done) | (have h3 : ¬ restP i (fieldsP i.op) = true := by (intro hr; simp [restP] at *; simp_all <;> omega)); simp [instrOkP, h3]
       · refine .seq (.region ?_); refine .o ?_; refine .o (.nil (.xseq ?_)); refine .cs (fun h9 => ?_) (fun h9 => ?_)
         · refine .skip (.xseq ?_); refine .cT (.seq (.region ?_)); refine .o ?_; refine .o ?_; refine .cl (c_impl_isReg _) ?_; refine .o ?_; refine .sp 61 (fun s6 => ?_) (fun s6 => ?_)
           · refine .o ?_; refine .o ?_; refine .cl (c_impl_isReg _) ?_; refine .o ?_; refine .o ?_; refine .sp 66 (fun s7 => ?_) (fun s7 => ?_)
             · refine .o ?_; refine .o ?_; refine .cl (c_impl_isReg _) ?_; refine .o ?_; refine .o (.nil (.xseq (.ret (.rblk (.rseq (.done ?_)))))); refine .mk ?_; (try simp only [Hb_iff] at *)
               first | rfl | (rw [hR]; simp at *; simp [instrArmP, *]; done) | (have h3 : ¬ restP i (fieldsP i.op) = true := by (intro hr; simp [restP] at *; simp_all <;> omega)); simp [instrOkP, h3]
             · (iterate 4 refine .o ?_); refine .o (.nil (.xseq (.ret (.rblk (.rseq (.done ?_)))))); refine .mk ?_; (try simp only [Hb_iff] at *)
               first | rfl | (rw [hR]; simp at *; simp [instrArmP, *]; done) | (have h3 : ¬ restP i (fieldsP i.op) = true := by (intro hr; simp [restP] at *; simp_all <;> omega)); simp [instrOkP, h3]
           · (iterate 9 refine .o ?_); refine .o (.nil (.xseq (.ret (.rblk (.rseq (.done ?_)))))); refine .mk ?_; (try simp only [Hb_iff] at *)
             first | rfl | (rw [hR]; simp at *; simp [instrArmP, *]; done) | (have h3 : ¬ restP i (fieldsP i.op) = true := by (intro hr; simp [restP] at *; simp_all <;> omega)); simp [instrOkP, h3]
         · refine .region ?_; refine .o ?_; refine .o (.nil (.xseq ?_)); refine .cs (fun h10 => ?_) (fun h10 => ?_)
           · refine .seq (.region ?_); refine .o ?_; refine .o ?_; refine .cl (c_impl_isReg _) ?_; refine .o ?_; refine .sp 61 (fun s8 => ?_) (fun s8 => ?_)
             · refine .o ?_; refine .o ?_; refine .cl (c_impl_isReg _) ?_; refine .o ?_; refine .o ?_; refine .sp 66 (fun s9 => ?_) (fun s9 => ?_)
               · refine .o ?_; refine .o ?_; refine .cl (c_impl_isReg _) ?_; refine .o ?_; refine .o (.nil (.xseq (.ret (.rblk (.rseq (.done ?_)))))); refine .mk ?_; (try simp only [Hb_iff] at *)
                 first | rfl | (rw [hR]; simp at *; simp [instrArmP, *]; done) | (have h3 : ¬ restP i (fieldsP i.op) = true := by (intro hr; simp [restP] at *; simp_all <;> omega)); simp [instrOkP, h3]
               · (iterate 4 refine .o ?_); refine .o (.nil (.xseq (.ret (.rblk (.rseq (.done ?_)))))); refine .mk ?_; (try simp only [Hb_iff] at *)
                 first | rfl | (rw [hR]; simp at *; simp [instrArmP, *]; done) | (have h3 : ¬ restP i (fieldsP i.op) = true := by (intro hr; simp [restP] at *; simp_all <;> omega)); simp [instrOkP, h3]
             · (iterate 9 refine .o ?_); refine .o (.nil (.xseq (.ret (.rblk (.rseq (.done ?_)))))); refine .mk ?_; (try simp only [Hb_iff] at *)
               first | rfl | (rw [hR]; simp at *; simp [instrArmP, *]; done) | (have h3 : ¬ restP i (fieldsP i.op) = true := by (intro hr; simp [restP] at *; simp_all <;> omega)); simp [instrOkP, h3]
           · refine .seq (.region ?_); refine .o ?_; refine .o (.nil (.xseq ?_)); refine .cs (fun h11 => ?_) (fun h11 => ?_)
             · refine .seq (.region ?_); (iterate 2 refine .o ?_); refine .o ?_; refine .cl (c_impl_within _ _ _) ?_; refine .o (.nil (.xseq (.ret (.rblk (.rseq (.done ?_)))))); refine .mk ?_
               (try simp only [Hb_iff] at *)
               first | rfl | (rw [hR]; simp at *; simp [instrArmP, *]; done) | (have h3 : ¬ restP i (fieldsP i.op) = true := by (intro hr; simp [restP] at *; simp_all <;> omega)); simp [instrOkP, h3]
             · refine .seq (.region ?_); refine .o ?_; refine .o (.nil (.xseq ?_)); refine .cs (fun h12 => ?_) (fun h12 => ?_)
               · refine .seq (.region ?_); refine .o ?_; refine .o ?_; refine .cl (c_impl_isReg _) ?_; refine .o ?_; refine .sp 82 (fun s10 => ?_) (fun s10 => ?_)
                 · (iterate 2 refine .o ?_); refine .o ?_; refine .cl (c_impl_within _ _ _) ?_; refine .o ?_; refine .o (.nil (.xseq (.ret (.rblk (.rseq (.done ?_)))))); refine .mk ?_
                   (try simp only [Hb_iff] at *)
                   first | rfl | (rw [hR]; simp at *; simp [instrArmP, *]; done) | (have h3 : ¬ restP i (fieldsP i.op) = true := by (intro hr; simp [restP] at *; simp_all <;> omega)); simp [instrOkP, h3]
                 · (iterate 5 refine .o ?_); refine .o (.nil (.xseq (.ret (.rblk (.rseq (.done ?_)))))); refine .mk ?_; (try simp only [Hb_iff] at *)
                   first | rfl | (rw [hR]; simp at *; simp [instrArmP, *]; done) | (have h3 : ¬ restP i (fieldsP i.op) = true := by (intro hr; simp [restP] at *; simp_all <;> omega)); simp [instrOkP, h3]
               · refine .seq (.region ?_); refine .o ?_; refine .o (.nil (.xseq ?_)); refine .cs (fun h13 => ?_) (fun h13 => ?_)
                 · refine .seq (.region ?_); (iterate 2 refine .o ?_); refine .o ?_; refine .cl (c_impl_isChan _ _) ?_; refine .o ?_; refine .sp 94 (fun s11 => ?_) (fun s11 => ?_)
                   · refine .o ?_; refine .o ?_; refine .cl (c_impl_isReg _) ?_; refine .o ?_; refine .o (.nil (.xseq (.ret (.rblk (.rseq (.done ?_)))))); refine .mk ?_; (try simp only [Hb_iff] at *)
                     first | rfl | (rw [hR]; simp at *; simp [instrArmP, *]; done) | (have h3 : ¬ restP i (fieldsP i.op) = true := by (intro hr; simp [restP] at *; simp_all <;> omega)); simp [instrOkP, h3]
                   · (iterate 4 refine .o ?_); refine .o (.nil (.xseq (.ret (.rblk (.rseq (.done ?_)))))); refine .mk ?_; (try simp only [Hb_iff] at *)
                     first | rfl | (rw [hR]; simp at *; simp [instrArmP, *]; done) | (have h3 : ¬ restP i (fieldsP i.op) = true := by (intro hr; simp [restP] at *; simp_all <;> omega)); simp [instrOkP, h3]
                 · refine .seq (.region ?_); refine .o ?_; refine .o (.nil (.xseq ?_)); refine .cs (fun h14 => ?_) (fun h14 => ?_)
                   · refine .seq (.region ?_); (iterate 2 refine .o ?_); refine .o ?_; refine .cl (c_impl_isChan _ _) ?_; refine .o ?_; refine .sp 105 (fun s12 => ?_) (fun s12 => ?_)
                     · refine .o ?_; refine .o ?_; refine .cl (c_impl_isReg _) ?_; refine .o ?_; refine .o ?_; refine .sp 110 (fun s13 => ?_) (fun s13 => ?_)
                       · refine .o ?_; refine .o ?_; refine .cl (c_impl_isReg _) ?_; refine .o ?_; refine .o (.nil (.xseq (.ret (.rblk (.rseq (.done ?_)))))); refine .mk ?_; (try simp only [Hb_iff] at *)
                         first | rfl | (rw [hR]; simp at *; simp [instrArmP, *]; done) | (have h3 : ¬ restP i (fieldsP i.op) = true := by (intro hr; simp [restP] at *; simp_all <;> omega)); simp [instrOkP, h3]
                       · (iterate 4 refine .o ?_); refine .o (.nil (.xseq (.ret (.rblk (.rseq (.done ?_)))))); refine .mk ?_; (try simp only [Hb_iff] at *)
                         first | rfl | (rw [hR]; simp at *; simp [instrArmP, *]; done) | (have h3 : ¬ restP i (fieldsP i.op) = true := by (intro hr; simp [restP] at *; simp_all <;> omega)); simp [instrOkP, h3]
                     · (iterate 9 refine .o ?_); refine .o (.nil (.xseq (.ret (.rblk (.rseq (.done ?_)))))); refine .mk ?_; (try simp only [Hb_iff] at *)
                       first | rfl | (rw [hR]; simp at *; simp [instrArmP, *]; done) | (have h3 : ¬ restP i (fieldsP i.op) = true := by (intro hr; simp [restP] at *; simp_all <;> omega)); simp [instrOkP, h3]
                   · refine .seq (.region ?_); refine .o ?_; refine .o (.nil (.xseq ?_)); refine .cs (fun h15 => ?_) (fun h15 => ?_)
                     · refine .seq (.region ?_); (iterate 2 refine .o ?_); refine .o ?_; refine .cl (c_impl_isChan _ _) ?_; refine .o (.nil (.xseq (.ret (.rblk (.rseq (.done ?_)))))); refine .mk ?_
                       (try simp only [Hb_iff] at *)
                       first | rfl | (rw [hR]; simp at *; simp [instrArmP, *]; done) | (have h3 : ¬ restP i (fieldsP i.op) = true := by (intro hr; simp [restP] at *; simp_all <;> omega)); simp [instrOkP, h3]
                     · refine .seq (.region ?_); refine .o ?_; refine .o (.nil (.xseq ?_)); refine .cs (fun h16 => ?_) (fun h16 => ?_)
                       · refine .seq (.region ?_); (iterate 4 refine .o ?_); refine .o ?_; refine .cl (c_impl_within _ _ _) ?_; refine .o (.nil (.xseq (.ret (.rblk (.rseq (.done ?_)))))); refine .mk ?_
                         (try simp only [Hb_iff] at *)
                         first | rfl | (rw [hR]; simp at *; simp [instrArmP, *]; done) | (have h3 : ¬ restP i (fieldsP i.op) = true := by (intro hr; simp [restP] at *; simp_all <;> omega)); simp [instrOkP, h3]
                       · refine .seq (.seq (.region ?_)); refine .o ?_; refine .o (.nil (.xseq ?_)); refine .cs (fun h17 => ?_) (fun h17 => ?_)
                         · refine .skip (.xseq ?_); refine .cT (.seq (.region ?_)); (iterate 3 refine .o ?_); refine .o ?_; refine .cl (c_impl_within _ _ _) ?_
                           refine .o (.nil (.xseq (.ret (.rblk (.rseq (.done ?_)))))); refine .mk ?_; (try simp only [Hb_iff] at *)
                           first | rfl | (rw [hR]; simp at *; simp [instrArmP, *]; done) | (have h3 : ¬ restP i (fieldsP i.op) = true := by (intro hr; simp [restP] at *; simp_all <;> omega)); simp [instrOkP, h3]
                         · refine .region ?_; refine .o ?_; refine .o (.nil (.xseq ?_)); refine .cs (fun h18 => ?_) (fun h18 => ?_)
                           · refine .seq (.region ?_); (iterate 3 refine .o ?_); refine .o ?_; refine .cl (c_impl_within _ _ _) ?_; refine .o (.nil (.xseq (.ret (.rblk (.rseq (.done ?_)))))); refine .mk ?_
                             (try simp only [Hb_iff] at *)
                             first | rfl | (rw [hR]; simp at *; simp [instrArmP, *]; done) | (have h3 : ¬ restP i (fieldsP i.op) = true := by (intro hr; simp [restP] at *; simp_all <;> omega)); simp [instrOkP, h3]
                           · refine .seq (.region ?_); refine .o ?_; refine .o (.nil (.xseq ?_)); refine .cs (fun h19 => ?_) (fun h19 => ?_)
                             · refine .seq (.region ?_); (iterate 4 refine .o ?_); refine .o ?_; refine .cl (c_impl_within _ _ _) ?_; refine .o ?_; refine .sp 145 (fun s14 => ?_) (fun s14 => ?_)
                               · refine .o ?_; refine .o ?_; refine .cl (c_impl_isReg _) ?_; refine .o ?_; refine .o (.nil (.xseq (.ret (.rblk (.rseq (.done ?_)))))); refine .mk ?_; (try simp only [Hb_iff] at *)
                                 first | rfl | (rw [hR]; simp at *; simp [instrArmP, *]; done) | (have h3 : ¬ restP i (fieldsP i.op) = true := by (intro hr; simp [restP] at *; simp_all <;> omega)); simp [instrOkP, h3]
                               · (iterate 4 refine .o ?_); refine .o (.nil (.xseq (.ret (.rblk (.rseq (.done ?_)))))); refine .mk ?_; (try simp only [Hb_iff] at *)
                                 first | rfl | (rw [hR]; simp at *; simp [instrArmP, *]; done) | (have h3 : ¬ restP i (fieldsP i.op) = true := by (intro hr; simp [restP] at *; simp_all <;> omega)); simp [instrOkP, h3]
                             · refine .seq (.region ?_); refine .o ?_; refine .o (.nil (.xseq ?_)); refine .cs (fun h20 => ?_) (fun h20 => ?_)
                               · refine .seq (.region ?_); refine .o ?_; refine .o ?_; refine .cl (c_impl_isReg _) ?_; refine .o (.nil (.xseq (.ret (.rblk (.rseq (.done ?_)))))); refine .mk ?_
                                 (try simp only [Hb_iff] at *)
                                 first | rfl | (rw [hR]; simp at *; simp [instrArmP, *]; done) | (have h3 : ¬ restP i (fieldsP i.op) = true := by (intro hr; simp [restP] at *; simp_all <;> omega)); simp [instrOkP, h3]
                               · refine .skip (.xblk (.xseq (.seq (.region ?_)))); refine .o (.nil (.xseq (.ret (.done ?_)))); refine .mk ?_; (try simp only [Hb_iff] at *)
                                 first | rfl | (rw [hR]; simp at *; simp [instrArmP, *]; done) | (have h3 : ¬ restP i (fieldsP i.op) = true := by (intro hr; simp [restP] at *; simp_all <;> omega)); simp [instrOkP, h3]

theorem c_slices_Index_int_int (xs : List Int) (n : Int) : FnC Tryz.prog TA false 136 [.ls .o 3 (xs.map eInt), .sc (.int .i64 (n))] [] (.sc (.int .i64 (idxP xs n))) [] := by
 refine .ini Tryz.ntmps136 Tryz.results136 ?_; refine .seq (.region ?_); refine .o (.nil (.xseq (.seq (.seq (.region ?_))))); (iterate 2 refine .o ?_)
 refine .o (.nil (.xseq (.block (.loop ?_)))); refine .bound 6 rfl fun hb0 => ?_; simp only [List.length_map, mxl] at hb0
 refine .rng [0, 1, 7, 8] (fun i => [(8, .sc (.int .i64 (i : Nat)))]) (fun i => []) (fun i => n ∉ xs.take i) (xs.length) (by simp) (fun i hi0 hH0 ih0 => ?_); refine .seq (.region ?_)
 refine .o (.nil (.xseq (.seq ?_))); refine .cs (fun h0 => ?_) (fun h0 => ?_)
 · have hlt0 : i < xs.length := by simpa using h0
   obtain ⟨x, hx0, hd0⟩ := drop_cons hlt0; have hn0 : (0 : Int) ≤ (i : Int) := Int.natCast_nonneg i
   have hw0 : IntKind.i64.wrap ((i : Int) + 1) = ((i + 1 : Nat) : Int) := by rw [w64 (by omega) (by omega)]; rfl
   refine .skip (.xseq (.seq (.block (.seq (.region ?_))))); refine .o ?_; refine .o (.nil (.xseq (.seq (.region ?_)))); (iterate 5 refine .o ?_); refine .o (.nil (.xseq ?_))
   refine .cs (fun h1 => ?_) (fun h1 => ?_)
   · refine .seq (.region ?_); refine .o ?_; refine .o (.nil (.xseq (.ret (.rblk (.rseq (.rlp (.rblk (.rseq (.done ?_))))))))); refine .mk ?_; clear ih0; (try simp only [Hb_iff] at *)
     simp at h1; subst h1; rw [idx_found hH0 hx0]
   · refine .skip (.xblk (.xseq (.region ?_))); refine .o ?_; refine .o (.nil ?_); refine .xlp (.back [0, 1, 7, 8] (ih0 (by assumption) ?_)); clear ih0; (try simp only [Hb_iff] at *)
     rw [take_snoc hx0]; simp at *; exact ⟨hH0, by omega⟩
 · have hge0 : xs.length ≤ i := by simpa using h0
   refine .exit (.eseq (.elp (.eblk (.xseq (.seq (.region ?_)))))); refine .o (.nil (.xseq (.ret (.done ?_)))); refine .mk ?_; (try simp only [Hb_iff] at *)
   rw [idx_none]; rwa [List.take_of_length_le hge0] at hH0

theorem c_slices_Contains_int_int (xs : List Int) (n : Int) : FnC Tryz.prog TA false 285 [.ls .o 3 (xs.map eInt), .sc (.int .i64 (n))] [] (.sc (.bool (decide (n ∈ xs)))) [] := by
 refine .ini Tryz.ntmps285 Tryz.results285 ?_; refine .seq (.region ?_); refine .o (.nil (.xseq (.seq (.region ?_)))); refine .o ?_; refine .o ?_
 refine .cl (c_slices_Index_int_int _ _) ?_; refine .o ?_; refine .o (.nil (.xseq (.ret (.done ?_)))); refine .mk ?_; (try simp only [Hb_iff] at *); rw [← idx_has]
end Go.Proofs.AM
