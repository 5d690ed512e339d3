/- A part of the proof: the walk of functions of the program, or the rules of the walk. -/
import Derived.Test.YthilnfccfjcgfaaGreatA1E
set_option linter.unusedSimpArgs false
set_option linter.unusedVariables false
namespace Go.Proofs.AM
open Go Go.Proofs
set_option maxHeartbeats 4000000

theorem scb {a b : Bool} (h : a = true ↔ b = true) : AV.sc (.bool a) = AV.sc (.bool b) := by rw [Bool.eq_iff_iff.2 h]
theorem c_spec_l03Val (n : Int) : FnC Tryz.prog TA false 119 [.sc (.int .i64 (n))] [] (.sc (.bool (isValP n))) [] := by
 refine .ini Tryz.ntmps119 Tryz.results119 ?_; refine .seq (.region ?_); refine .o (.nil (.xseq (.seq (.region ?_)))); (iterate 2 refine .o ?_); refine .o ?_
 refine .sp 5 (fun s0 => ?_) (fun s0 => ?_)
 · (iterate 3 refine .o ?_); refine .o (.nil (.xseq (.ret (.done ?_)))); refine .mk ?_; (try simp only [Hb_iff] at *); refine scb ?_; simp [isValP] at * <;> omega
 · (iterate 3 refine .o ?_); refine .o (.nil (.xseq (.ret (.done ?_)))); refine .mk ?_; (try simp only [Hb_iff] at *); refine scb ?_; simp [isValP] at * <;> omega

theorem c_impl_isVal (n : Int) : FnC Tryz.prog TA false 124 [.sc (.int .i64 (n))] [] (.sc (.bool (isValP n))) [] := by
 refine .ini Tryz.ntmps124 Tryz.results124 ?_; refine .seq (.region ?_); refine .o (.nil (.xseq (.seq (.region ?_)))); (iterate 2 refine .o ?_); refine .o ?_
 refine .sp 5 (fun s0 => ?_) (fun s0 => ?_)
 · (iterate 3 refine .o ?_); refine .o (.nil (.xseq (.ret (.done ?_)))); refine .mk ?_; (try simp only [Hb_iff] at *); refine scb ?_; simp [isValP] at * <;> omega
 · (iterate 3 refine .o ?_); refine .o (.nil (.xseq (.ret (.done ?_)))); refine .mk ?_; (try simp only [Hb_iff] at *); refine scb ?_; simp [isValP] at * <;> omega

theorem c_impl_within (n lo hi : Int) : FnC Tryz.prog TA false 111 [.sc (.int .i64 (n)), .sc (.int .i64 (lo)), .sc (.int .i64 (hi))] [] (.sc (.bool (withinP n lo hi))) [] := by
 refine .ini Tryz.ntmps111 Tryz.results111 ?_; refine .seq (.region ?_); refine .o (.nil (.xseq (.seq (.region ?_)))); (iterate 3 refine .o ?_); refine .o ?_
 refine .sp 10 (fun s0 => ?_) (fun s0 => ?_)
 · (iterate 4 refine .o ?_); refine .o (.nil (.xseq (.ret (.done ?_)))); refine .mk ?_; (try simp only [Hb_iff] at *); refine scb ?_; simp [withinP] at * <;> omega
 · (iterate 4 refine .o ?_); refine .o (.nil (.xseq (.ret (.done ?_)))); refine .mk ?_; (try simp only [Hb_iff] at *); refine scb ?_; simp [withinP] at * <;> omega

theorem c_spec_l03Reg (n : Int) : FnC Tryz.prog TA false 302 [.sc (.int .i64 (n))] [] (.sc (.bool (isRegP n))) [] := by
 refine .ini Tryz.ntmps302 Tryz.results302 ?_; refine .seq (.region ?_); refine .o (.nil (.xseq (.seq (.region ?_)))); (iterate 2 refine .o ?_); refine .o ?_
 refine .sp 5 (fun s0 => ?_) (fun s0 => ?_)
 · (iterate 3 refine .o ?_); refine .o (.nil (.xseq (.ret (.done ?_)))); refine .mk ?_; (try simp only [Hb_iff] at *); refine scb ?_; simp [isRegP] at * <;> omega
 · (iterate 3 refine .o ?_); refine .o (.nil (.xseq (.ret (.done ?_)))); refine .mk ?_; (try simp only [Hb_iff] at *); refine scb ?_; simp [isRegP] at * <;> omega

theorem c_impl_isReg (n : Int) : FnC Tryz.prog TA false 305 [.sc (.int .i64 (n))] [] (.sc (.bool (isRegP n))) [] := by
 refine .ini Tryz.ntmps305 Tryz.results305 ?_; refine .seq (.region ?_); refine .o (.nil (.xseq (.seq (.region ?_)))); refine .o ?_; refine .cl (c_impl_within n 0 6) ?_
 refine .o (.nil (.xseq (.ret (.done ?_)))); refine .mk ?_; (try simp only [Hb_iff] at *); rfl

theorem c_impl_isChan (p : Prog) (n : Int) : FnC Tryz.prog TA false 304 [.agg (eProgI p), .sc (.int .i64 (n))] [] (.sc (.bool (isChanP p n))) [] := by
 refine .ini Tryz.ntmps304 Tryz.results304 ?_; refine .seq (.region ?_); refine .o ?_; refine .o (.nil (.xseq (.seq (.region ?_)))); (iterate 3 refine .o ?_); refine .o ?_
 refine .cl (c_impl_within n (-1) p.caps.length) ?_; refine .o (.nil (.xseq (.ret (.done ?_)))); refine .mk ?_; (try simp only [Hb_iff] at *); rfl

theorem c_spec_Fields (op : Int) : FnC Tryz.prog TA false 189 [.sc (.int .i64 (op))] [] (.sc (.int .i64 (fieldsP op))) [] := by
 refine .ini Tryz.ntmps189 Tryz.results189 ?_; refine .seq (.region ?_); refine .o (.nil (.xseq (.seq (.seq (.region ?_))))); refine .o (.nil (.xseq (.block (.seq (.region ?_)))))
 refine .o ?_; refine .o (.nil (.xseq ?_)); refine .cs (fun h0 => ?_) (fun h0 => ?_)
 · refine .seq (.region ?_); refine .o (.nil (.xseq (.ret (.rblk (.rseq (.done ?_)))))); refine .mk ?_; (try simp only [Hb_iff] at *); simp_all [fieldsP]
 · refine .seq (.seq (.region ?_)); refine .o ?_; refine .o (.nil (.xseq ?_)); refine .cs (fun h1 => ?_) (fun h1 => ?_)
   · refine .skip (.xseq ?_); refine .cT (.seq (.region ?_)); refine .o (.nil (.xseq (.ret (.rblk (.rseq (.done ?_)))))); refine .mk ?_; (try simp only [Hb_iff] at *); simp_all [fieldsP]
   · refine .seq (.region ?_); refine .o ?_; refine .o (.nil (.xseq ?_)); refine .cs (fun h2 => ?_) (fun h2 => ?_)
     · refine .skip (.xseq ?_); refine .cT (.seq (.region ?_)); refine .o (.nil (.xseq (.ret (.rblk (.rseq (.done ?_)))))); refine .mk ?_; (try simp only [Hb_iff] at *); simp_all [fieldsP]
     · refine .seq (.region ?_); refine .o ?_; refine .o (.nil (.xseq ?_)); refine .cs (fun h3 => ?_) (fun h3 => ?_)
       · refine .skip (.xseq ?_); refine .cT (.seq (.region ?_)); refine .o (.nil (.xseq (.ret (.rblk (.rseq (.done ?_)))))); refine .mk ?_; (try simp only [Hb_iff] at *); simp_all [fieldsP]
       · refine .seq (.region ?_); refine .o ?_; refine .o (.nil (.xseq ?_)); refine .cs (fun h4 => ?_) (fun h4 => ?_)
         · refine .skip (.xseq ?_); refine .cT (.seq (.region ?_)); refine .o (.nil (.xseq (.ret (.rblk (.rseq (.done ?_)))))); refine .mk ?_; (try simp only [Hb_iff] at *); simp_all [fieldsP]
         · refine .seq (.region ?_); refine .o ?_; refine .o (.nil (.xseq ?_)); refine .cs (fun h5 => ?_) (fun h5 => ?_)
           · refine .skip (.xseq ?_); refine .cT (.seq (.region ?_)); refine .o (.nil (.xseq (.ret (.rblk (.rseq (.done ?_)))))); refine .mk ?_; (try simp only [Hb_iff] at *); simp_all [fieldsP]
           · refine .region ?_; refine .o ?_; refine .o (.nil (.xseq ?_)); refine .cs (fun h6 => ?_) (fun h6 => ?_)
             · refine .seq (.region ?_); refine .o (.nil (.xseq (.ret (.rblk (.rseq (.done ?_)))))); refine .mk ?_; (try simp only [Hb_iff] at *); simp_all [fieldsP]
             · refine .seq (.seq (.region ?_)); refine .o ?_; refine .o (.nil (.xseq ?_)); refine .cs (fun h7 => ?_) (fun h7 => ?_)
               · refine .skip (.xseq ?_); refine .cT (.seq (.region ?_)); refine .o (.nil (.xseq (.ret (.rblk (.rseq (.done ?_)))))); refine .mk ?_; (try simp only [Hb_iff] at *); simp_all [fieldsP]
               · refine .seq (.region ?_); refine .o ?_; refine .o (.nil (.xseq ?_)); refine .cs (fun h8 => ?_) (fun h8 => ?_)
                 · refine .skip (.xseq ?_); refine .cT (.seq (.region ?_)); refine .o (.nil (.xseq (.ret (.rblk (.rseq (.done ?_)))))); refine .mk ?_; (try simp only [Hb_iff] at *); simp_all [fieldsP]
                 · refine .seq (.region ?_); refine .o ?_; refine .o (.nil (.xseq ?_)); refine .cs (fun h9 => ?_) (fun h9 => ?_)
                   · refine .skip (.xseq ?_); refine .cT (.seq (.region ?_)); refine .o (.nil (.xseq (.ret (.rblk (.rseq (.done ?_)))))); refine .mk ?_; (try simp only [Hb_iff] at *); simp_all [fieldsP]
                   · refine .region ?_; refine .o ?_; refine .o (.nil (.xseq ?_)); refine .cs (fun h10 => ?_) (fun h10 => ?_)
                     · refine .seq (.region ?_); refine .o (.nil (.xseq (.ret (.rblk (.rseq (.done ?_)))))); refine .mk ?_; (try simp only [Hb_iff] at *); simp_all [fieldsP]
                     · refine .seq (.seq (.region ?_)); refine .o ?_; refine .o (.nil (.xseq ?_)); refine .cs (fun h11 => ?_) (fun h11 => ?_)
                       · refine .skip (.xseq ?_); refine .cT (.seq (.region ?_)); refine .o (.nil (.xseq (.ret (.rblk (.rseq (.done ?_)))))); refine .mk ?_; (try simp only [Hb_iff] at *); simp_all [fieldsP]
                       · refine .seq (.region ?_); refine .o ?_; refine .o (.nil (.xseq ?_)); refine .cs (fun h12 => ?_) (fun h12 => ?_)
                         · refine .skip (.xseq ?_); refine .cT (.seq (.region ?_)); refine .o (.nil (.xseq (.ret (.rblk (.rseq (.done ?_)))))); refine .mk ?_; (try simp only [Hb_iff] at *); simp_all [fieldsP]
                         · refine .seq (.region ?_); refine .o ?_; refine .o (.nil (.xseq ?_)); refine .cs (fun h13 => ?_) (fun h13 => ?_)
                           · refine .skip (.xseq ?_); refine .cT (.seq (.region ?_)); refine .o (.nil (.xseq (.ret (.rblk (.rseq (.done ?_)))))); refine .mk ?_; (try simp only [Hb_iff] at *); simp_all [fieldsP]
                           · refine .region ?_; refine .o ?_; refine .o (.nil (.xseq ?_)); refine .cs (fun h14 => ?_) (fun h14 => ?_)
                             · refine .seq (.region ?_); refine .o (.nil (.xseq (.ret (.rblk (.rseq (.done ?_)))))); refine .mk ?_; (try simp only [Hb_iff] at *); simp_all [fieldsP]
                             · refine .skip (.xblk (.xseq (.seq (.region ?_)))); refine .o (.nil (.xseq (.ret (.done ?_)))); refine .mk ?_; (try simp only [Hb_iff] at *); simp_all [fieldsP]

theorem c_impl_Fields (op : Int) : FnC Tryz.prog TA false 194 [.sc (.int .i64 (op))] [] (.sc (.int .i64 (fieldsP op))) [] := by
 refine .ini Tryz.ntmps194 Tryz.results194 ?_; refine .seq (.region ?_); refine .o (.nil (.xseq (.seq (.seq (.region ?_))))); refine .o (.nil (.xseq (.block (.seq (.region ?_)))))
 refine .o ?_; refine .o (.nil (.xseq ?_)); refine .cs (fun h0 => ?_) (fun h0 => ?_)
 · refine .seq (.region ?_); refine .o (.nil (.xseq (.ret (.rblk (.rseq (.done ?_)))))); refine .mk ?_; (try simp only [Hb_iff] at *); simp_all [fieldsP]
 · refine .seq (.seq (.region ?_)); refine .o ?_; refine .o (.nil (.xseq ?_)); refine .cs (fun h1 => ?_) (fun h1 => ?_)
   · refine .skip (.xseq ?_); refine .cT (.seq (.region ?_)); refine .o (.nil (.xseq (.ret (.rblk (.rseq (.done ?_)))))); refine .mk ?_; (try simp only [Hb_iff] at *); simp_all [fieldsP]
   · refine .seq (.region ?_); refine .o ?_; refine .o (.nil (.xseq ?_)); refine .cs (fun h2 => ?_) (fun h2 => ?_)
     · refine .skip (.xseq ?_); refine .cT (.seq (.region ?_)); refine .o (.nil (.xseq (.ret (.rblk (.rseq (.done ?_)))))); refine .mk ?_; (try simp only [Hb_iff] at *); simp_all [fieldsP]
     · refine .seq (.region ?_); refine .o ?_; refine .o (.nil (.xseq ?_)); refine .cs (fun h3 => ?_) (fun h3 => ?_)
       · refine .skip (.xseq ?_); refine .cT (.seq (.region ?_)); refine .o (.nil (.xseq (.ret (.rblk (.rseq (.done ?_)))))); refine .mk ?_; (try simp only [Hb_iff] at *); simp_all [fieldsP]
       · refine .seq (.region ?_); refine .o ?_; refine .o (.nil (.xseq ?_)); refine .cs (fun h4 => ?_) (fun h4 => ?_)
         · refine .skip (.xseq ?_); refine .cT (.seq (.region ?_)); refine .o (.nil (.xseq (.ret (.rblk (.rseq (.done ?_)))))); refine .mk ?_; (try simp only [Hb_iff] at *); simp_all [fieldsP]
         · refine .seq (.region ?_); refine .o ?_; refine .o (.nil (.xseq ?_)); refine .cs (fun h5 => ?_) (fun h5 => ?_)
           · refine .skip (.xseq ?_); refine .cT (.seq (.region ?_)); refine .o (.nil (.xseq (.ret (.rblk (.rseq (.done ?_)))))); refine .mk ?_; (try simp only [Hb_iff] at *); simp_all [fieldsP]
           · refine .region ?_; refine .o ?_; refine .o (.nil (.xseq ?_)); refine .cs (fun h6 => ?_) (fun h6 => ?_)
             · refine .seq (.region ?_); refine .o (.nil (.xseq (.ret (.rblk (.rseq (.done ?_)))))); refine .mk ?_; (try simp only [Hb_iff] at *); simp_all [fieldsP]
             · refine .seq (.seq (.region ?_)); refine .o ?_; refine .o (.nil (.xseq ?_)); refine .cs (fun h7 => ?_) (fun h7 => ?_)
               · refine .skip (.xseq ?_); refine .cT (.seq (.region ?_)); refine .o (.nil (.xseq (.ret (.rblk (.rseq (.done ?_)))))); refine .mk ?_; (try simp only [Hb_iff] at *); simp_all [fieldsP]
               · refine .seq (.region ?_); refine .o ?_; refine .o (.nil (.xseq ?_)); refine .cs (fun h8 => ?_) (fun h8 => ?_)
                 · refine .skip (.xseq ?_); refine .cT (.seq (.region ?_)); refine .o (.nil (.xseq (.ret (.rblk (.rseq (.done ?_)))))); refine .mk ?_; (try simp only [Hb_iff] at *); simp_all [fieldsP]
                 · refine .seq (.region ?_); refine .o ?_; refine .o (.nil (.xseq ?_)); refine .cs (fun h9 => ?_) (fun h9 => ?_)
                   · refine .skip (.xseq ?_); refine .cT (.seq (.region ?_)); refine .o (.nil (.xseq (.ret (.rblk (.rseq (.done ?_)))))); refine .mk ?_; (try simp only [Hb_iff] at *); simp_all [fieldsP]
                   · refine .region ?_; refine .o ?_; refine .o (.nil (.xseq ?_)); refine .cs (fun h10 => ?_) (fun h10 => ?_)
                     · refine .seq (.region ?_); refine .o (.nil (.xseq (.ret (.rblk (.rseq (.done ?_)))))); refine .mk ?_; (try simp only [Hb_iff] at *); simp_all [fieldsP]
                     · refine .seq (.seq (.region ?_)); refine .o ?_; refine .o (.nil (.xseq ?_)); refine .cs (fun h11 => ?_) (fun h11 => ?_)
                       · refine .skip (.xseq ?_); refine .cT (.seq (.region ?_)); refine .o (.nil (.xseq (.ret (.rblk (.rseq (.done ?_)))))); refine .mk ?_; (try simp only [Hb_iff] at *); simp_all [fieldsP]
                       · refine .seq (.region ?_); refine .o ?_; refine .o (.nil (.xseq ?_)); refine .cs (fun h12 => ?_) (fun h12 => ?_)
                         · refine .skip (.xseq ?_); refine .cT (.seq (.region ?_)); refine .o (.nil (.xseq (.ret (.rblk (.rseq (.done ?_)))))); refine .mk ?_; (try simp only [Hb_iff] at *); simp_all [fieldsP]
                         · refine .seq (.region ?_); refine .o ?_; refine .o (.nil (.xseq ?_)); refine .cs (fun h13 => ?_) (fun h13 => ?_)
                           · refine .skip (.xseq ?_); refine .cT (.seq (.region ?_)); refine .o (.nil (.xseq (.ret (.rblk (.rseq (.done ?_)))))); refine .mk ?_; (try simp only [Hb_iff] at *); simp_all [fieldsP]
                           · refine .region ?_; refine .o ?_; refine .o (.nil (.xseq ?_)); refine .cs (fun h14 => ?_) (fun h14 => ?_)
                             · refine .seq (.region ?_); refine .o (.nil (.xseq (.ret (.rblk (.rseq (.done ?_)))))); refine .mk ?_; (try simp only [Hb_iff] at *); simp_all [fieldsP]
                             · refine .skip (.xblk (.xseq (.seq (.region ?_)))); refine .o (.nil (.xseq (.ret (.done ?_)))); refine .mk ?_; (try simp only [Hb_iff] at *); simp_all [fieldsP]

theorem c_spec_l04In (n lo hi : Int) : FnC Tryz.prog TA false 338 [.sc (.int .i64 (n)), .sc (.int .i64 (lo)), .sc (.int .i64 (hi))] [] (.sc (.bool (inP n lo hi))) [] := by
 refine .ini Tryz.ntmps338 Tryz.results338 ?_; refine .seq (.region ?_); refine .o (.nil (.xseq (.seq (.region ?_)))); (iterate 3 refine .o ?_); refine .o ?_
 refine .sp 10 (fun s0 => ?_) (fun s0 => ?_)
 · (iterate 4 refine .o ?_); refine .o (.nil (.xseq (.ret (.done ?_)))); refine .mk ?_; (try simp only [Hb_iff] at *); refine scb ?_; simp [inP] at * <;> omega
 · (iterate 4 refine .o ?_); refine .o (.nil (.xseq (.ret (.done ?_)))); refine .mk ?_; (try simp only [Hb_iff] at *); refine scb ?_; simp [inP] at * <;> omega

theorem c_spec_l04Rest (i : Instr) (k : Int) : FnC Tryz.prog TA false 190 [.agg (eInstr i), .sc (.int .i64 (k))] [] (.sc (.bool (restP i k))) [] := by
 refine .ini Tryz.ntmps190 Tryz.results190 ?_; refine .seq (.region ?_); refine .o ?_; refine .o (.nil (.xseq (.seq (.region ?_)))); (iterate 2 refine .o ?_); refine .o ?_
 refine .sp 7 (fun s0 => ?_) (fun s0 => ?_)
 · (iterate 7 refine .o ?_); refine .o ?_; refine .sp 15 (fun s1 => ?_) (fun s1 => ?_)
   · (iterate 8 refine .o ?_); refine .o ?_; refine .sp 24 (fun s2 => ?_) (fun s2 => ?_)
     · (iterate 5 refine .o ?_); refine .o (.nil (.xseq (.ret (.done ?_)))); refine .mk ?_; (try simp only [Hb_iff] at *); refine scb ?_; simp [restP] at * <;> omega
     · (iterate 5 refine .o ?_); refine .o (.nil (.xseq (.ret (.done ?_)))); refine .mk ?_; (try simp only [Hb_iff] at *); refine scb ?_; simp [restP] at * <;> omega
   · (iterate 5 refine .o ?_); refine .o ?_; refine .sp 21 (fun s3 => ?_) (fun s3 => ?_)
     · (iterate 2 refine .o ?_); refine .o ?_; refine .sp 24 (fun s4 => ?_) (fun s4 => ?_)
       · (iterate 5 refine .o ?_); refine .o (.nil (.xseq (.ret (.done ?_)))); refine .mk ?_; (try simp only [Hb_iff] at *); refine scb ?_; simp [restP] at * <;> omega
       · (iterate 5 refine .o ?_); refine .o (.nil (.xseq (.ret (.done ?_)))); refine .mk ?_; (try simp only [Hb_iff] at *); refine scb ?_; simp [restP] at * <;> omega
     · (iterate 8 refine .o ?_); refine .o (.nil (.xseq (.ret (.done ?_)))); refine .mk ?_; (try simp only [Hb_iff] at *); refine scb ?_; simp [restP] at * <;> omega
 · (iterate 4 refine .o ?_); refine .o ?_; refine .sp 12 (fun s5 => ?_) (fun s5 => ?_)
   · (iterate 2 refine .o ?_); refine .o ?_; refine .sp 15 (fun s6 => ?_) (fun s6 => ?_)
     · (iterate 8 refine .o ?_); refine .o ?_; refine .sp 24 (fun s7 => ?_) (fun s7 => ?_)
       · (iterate 5 refine .o ?_); refine .o (.nil (.xseq (.ret (.done ?_)))); refine .mk ?_; (try simp only [Hb_iff] at *); refine scb ?_; simp [restP] at * <;> omega
       · (iterate 5 refine .o ?_); refine .o (.nil (.xseq (.ret (.done ?_)))); refine .mk ?_; (try simp only [Hb_iff] at *); refine scb ?_; simp [restP] at * <;> omega
     · (iterate 5 refine .o ?_); refine .o ?_; refine .sp 21 (fun s8 => ?_) (fun s8 => ?_)
       · (iterate 2 refine .o ?_); refine .o ?_; refine .sp 24 (fun s9 => ?_) (fun s9 => ?_)
         · (iterate 5 refine .o ?_); refine .o (.nil (.xseq (.ret (.done ?_)))); refine .mk ?_; (try simp only [Hb_iff] at *); refine scb ?_; simp [restP] at * <;> omega
         · (iterate 5 refine .o ?_); refine .o (.nil (.xseq (.ret (.done ?_)))); refine .mk ?_; (try simp only [Hb_iff] at *); refine scb ?_; simp [restP] at * <;> omega
       · (iterate 8 refine .o ?_); refine .o (.nil (.xseq (.ret (.done ?_)))); refine .mk ?_; (try simp only [Hb_iff] at *); refine scb ?_; simp [restP] at * <;> omega
   · (iterate 17 refine .o ?_); refine .o (.nil (.xseq (.ret (.done ?_)))); refine .mk ?_; (try simp only [Hb_iff] at *); refine scb ?_; simp [restP] at * <;> omega

theorem c_spec_l04Chan (p : Prog) (n : Int) : FnC Tryz.prog TA false 301 [.agg (eProgI p), .sc (.int .i64 (n))] [] (.sc (.bool (isChanP p n))) [] := by
 refine .ini Tryz.ntmps301 Tryz.results301 ?_; refine .seq (.region ?_); refine .o ?_; refine .o (.nil (.xseq (.seq (.region ?_)))); (iterate 2 refine .o ?_); refine .o ?_
 refine .bound 7 rfl fun hb => ?_; rw [List.length_map, mxl] at hb; have hw : IntKind.i64.wrap ((p.caps.length : Int) - 1) = (p.caps.length : Int) - 1 := w64 (by omega) (by omega)
 refine .o ?_; refine .o ?_; refine .cl (c_spec_l04In n (-1) (p.caps.length - 1)) ?_; refine .o (.nil (.xseq (.ret (.done ?_)))); refine .mk ?_; (try simp only [Hb_iff] at *)
 refine scb ?_; simp [isChanP, inP] at * <;> omega
end Go.Proofs.AM
