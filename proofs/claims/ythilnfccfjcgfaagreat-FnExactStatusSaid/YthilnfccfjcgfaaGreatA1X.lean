/- A part of the proof: the walk of functions of the program, or the rules of the walk. -/
import Derived.Test.YthilnfccfjcgfaaGreatA1R
import Derived.Test.YthilnfccfjcgfaaGreatA1V
import Derived.Test.YthilnfccfjcgfaaGreatAmMap3
set_option linter.unusedSimpArgs false
set_option linter.unusedVariables false
namespace Go.Proofs.AM
open Go Go.Proofs
set_option maxHeartbeats 4000000
set_option maxRecDepth 100000

theorem c_impl_Instrs (p : Prog) (n : Int) : FnC Tryz.prog TA false 279 [.agg (eProgI p), .sc (.int .i64 (n))] [] (.sc (.int .i64 (instrsP p n))) [] := by
 refine .ini Tryz.ntmps279 Tryz.results279 ?_; refine .seq (.region ?_); refine .o ?_; refine .o (.nil (.xseq (.seq (.seq (.region ?_))))); (iterate 3 refine .o ?_); refine .o ?_
 refine .cl (c_impl_within _ _ _) ?_; refine .o (.nil (.xseq ?_)); refine .cs (fun h0 => ?_) (fun h0 => ?_)
 · refine .seq (.region ?_); refine .o (.nil (.xseq (.ret (.rseq (.done ?_))))); refine .mk ?_; (try simp only [Hb_iff, Bool.not_eq_true', Bool.not_eq_false'] at *)
   have h : withinP n 0 p.procs.length = false := by (first | (simp [*]; done) | (simp at *; simp [*]; done) | (simp at *; simp [*]; omega) | (simp_all ; done) | (refine scb ?_; simp  at *; omega) | (refine scb ?_; simp_all ; done) | (refine scb ?_; simp_all  <;> omega) | (simp_all ; omega))
   all_goals (simp [instrsP, h])
 · refine .skip (.xseq (.seq ?_)); have hw0 : withinP n 0 p.procs.length = true := by (simp at *; assumption)
   have hw1 := hw0; simp only [withinP, Bool.and_eq_true, decide_eq_true_eq] at hw1; have hg := getD_get (default : Proc) hw1.1 hw1.2; have h0n := hw1.1; refine .region ?_
   (iterate 7 refine .o ?_); refine .o (.nil (.xseq (.ret (.done ?_)))); refine .mk ?_; (try simp only [Hb_iff, Bool.not_eq_true', Bool.not_eq_false'] at *)
   all_goals (simp [instrsP, hw0])

theorem c_slices_IndexFunc_int_int (xs : List Int) (f : FuncId) (q : Int → Bool) (hf : ∀ n, FnC Tryz.prog TA false f [.sc (.int .i64 n)] [] (.sc (.bool (q n))) []) : FnC Tryz.prog TA false 328 [.ls .o 3 (xs.map eInt), .fn f []] [] (.sc (.int .i64 (idxFP xs q))) [] := by
 refine .ini Tryz.ntmps328 Tryz.results328 ?_; refine .seq (.region ?_); refine .o (.nil (.xseq (.seq (.seq (.region ?_))))); (iterate 2 refine .o ?_)
 refine .o (.nil (.xseq (.block (.loop ?_)))); refine .bound 6 rfl fun hb0 => ?_; simp only [List.length_map, mxl] at hb0
 refine .rng [0, 1, 7, 8] (fun i => [(8, .sc (.int .i64 (i : Nat)))]) (fun i => []) (fun i => (xs.take i).all (fun v => !q v) = true) (xs.length) (by first | rfl | simp) (fun i hi0 hH0 ih0 => ?_)
 refine .seq (.region ?_); refine .o (.nil (.xseq (.seq ?_))); refine .cs (fun h0 => ?_) (fun h0 => ?_)
 · have hlt0 : i < xs.length := by simpa using h0
   obtain ⟨x, hx0, hd0⟩ := drop_cons hlt0; have hn0 : (0 : Int) ≤ (i : Int) := Int.natCast_nonneg i
   have hw0 : IntKind.i64.wrap ((i : Int) + 1) = ((i + 1 : Nat) : Int) := by rw [w64 (by omega) (by omega)]; rfl
   refine .skip (.xseq (.seq (.block (.seq (.region ?_))))); refine .o ?_; refine .o (.nil (.xseq (.seq (.region ?_)))); (iterate 4 refine .o ?_); refine .o ?_; refine .cl (hf _) ?_
   refine .nil (.xseq ?_); refine .cs (fun h1 => ?_) (fun h1 => ?_)
   · refine .seq (.region ?_); refine .o ?_; refine .o (.nil (.xseq (.ret (.rblk (.rseq (.rlp (.rblk (.rseq (.done ?_))))))))); refine .mk ?_; clear ih0
     (try simp only [Hb_iff, Bool.not_eq_true', Bool.not_eq_false'] at *)
     all_goals (rw [idxF_found hH0 hx0 (by clear hH0; (first | (simp [*]; done) | (simp at *; simp [*]; done) | (simp at *; simp [*]; omega) | (simp_all ; done) | (refine scb ?_; simp  at *; omega) | (refine scb ?_; simp_all ; done) | (refine scb ?_; simp_all  <;> omega) | (simp_all ; omega)))])
   · refine .skip (.xblk (.xseq (.region ?_))); refine .o ?_; refine .o (.nil ?_); refine .xlp (.back [0, 1, 7, 8] (ih0 (by assumption) ?_)); clear ih0
     (try simp only [Hb_iff, Bool.not_eq_true', Bool.not_eq_false'] at *)
     exact all_step hx0 hH0 (by clear hH0; (first | (simp [*]; done) | (simp at *; simp [*]; done) | (simp at *; simp [*]; omega) | (simp_all ; done) | (refine scb ?_; simp  at *; omega) | (refine scb ?_; simp_all ; done) | (refine scb ?_; simp_all  <;> omega) | (simp_all ; omega)))
 · have hge0 : xs.length ≤ i := by simpa using h0
   clear ih0; refine .exit (.eseq (.elp (.eblk (.xseq (.seq (.region ?_)))))); refine .o (.nil (.xseq (.ret (.done ?_)))); refine .mk ?_
   (try simp only [Hb_iff, Bool.not_eq_true', Bool.not_eq_false'] at *); all_goals (rw [idxF_none (all_yes hH0 hge0)])

theorem c_slices_ContainsFunc_int_int (xs : List Int) (f : FuncId) (q : Int → Bool) (hf : ∀ n, FnC Tryz.prog TA false f [.sc (.int .i64 n)] [] (.sc (.bool (q n))) []) : FnC Tryz.prog TA false 280 [.ls .o 3 (xs.map eInt), .fn f []] [] (.sc (.bool (xs.any q))) [] := by
 refine .ini Tryz.ntmps280 Tryz.results280 ?_; refine .seq (.region ?_); refine .o (.nil (.xseq (.seq (.region ?_)))); refine .o ?_; refine .o ?_
 refine .cl (c_slices_IndexFunc_int_int _ _ _ hf) ?_; refine .o ?_; refine .o (.nil (.xseq (.ret (.done ?_)))); refine .mk ?_
 (try simp only [Hb_iff, Bool.not_eq_true', Bool.not_eq_false'] at *); all_goals (rw [← idxF_has])

theorem c_impl_GorOk_1 (n : Int) : FnC Tryz.prog TA false 281 [.sc (.int .i64 (n))] [] (.sc (.bool (!isValP n))) [] := by
 refine .ini Tryz.ntmps281 Tryz.results281 ?_; refine .seq (.region ?_); refine .o (.nil (.xseq (.seq (.region ?_)))); refine .o ?_; refine .cl (c_impl_isVal _) ?_; refine .o ?_
 refine .o (.nil (.xseq (.ret (.done ?_)))); refine .mk ?_; (try simp only [Hb_iff, Bool.not_eq_true', Bool.not_eq_false'] at *); all_goals (rfl)

theorem c_impl_ChanOk_1 (n : Int) : FnC Tryz.prog TA false 283 [.sc (.int .i64 (n))] [] (.sc (.bool (!isValP n))) [] := by
 refine .ini Tryz.ntmps283 Tryz.results283 ?_; refine .seq (.region ?_); refine .o (.nil (.xseq (.seq (.region ?_)))); refine .o ?_; refine .cl (c_impl_isVal _) ?_; refine .o ?_
 refine .o (.nil (.xseq (.ret (.done ?_)))); refine .mk ?_; (try simp only [Hb_iff, Bool.not_eq_true', Bool.not_eq_false'] at *); all_goals (rfl)

theorem c_impl_ItemOk (i : Item) : FnC Tryz.prog TA false 282 [.agg (eItem i)] [] (.sc (.bool (itemOkP i))) [] := by
 refine .ini Tryz.ntmps282 Tryz.results282 ?_; refine .seq (.region ?_); refine .o ?_; refine .o (.nil (.xseq (.seq (.seq (.region ?_))))); (iterate 3 refine .o ?_); refine .o ?_
 refine .sp 6 (fun s0 => ?_) (fun s0 => ?_)
 · (iterate 7 refine .o ?_); refine .o (.nil (.xseq ?_)); refine .cT (.seq (.region ?_)); refine .o (.nil (.xseq (.ret (.rseq (.done ?_))))); refine .mk ?_
   (try simp only [Hb_iff, Bool.not_eq_true', Bool.not_eq_false'] at *)
   all_goals (first | (simp_all [itemOkP, itemPreP, itemArmP]; done) | (simp_all [itemOkP, itemPreP, itemArmP]; omega) | (refine scb ?_; simp_all [itemOkP, itemPreP, itemArmP] <;> omega))
 · (iterate 2 refine .o ?_); refine .o ?_; refine .sp 9 (fun s1 => ?_) (fun s1 => ?_)
   · (iterate 4 refine .o ?_); refine .o (.nil (.xseq ?_)); refine .cs (fun h0 => ?_) (fun h0 => ?_)
     · refine .seq (.region ?_); refine .o (.nil (.xseq (.ret (.rseq (.done ?_))))); refine .mk ?_; (try simp only [Hb_iff, Bool.not_eq_true', Bool.not_eq_false'] at *)
       all_goals (first | (simp_all [itemOkP, itemPreP, itemArmP]; done) | (simp_all [itemOkP, itemPreP, itemArmP]; omega) | (refine scb ?_; simp_all [itemOkP, itemPreP, itemArmP] <;> omega))
     · refine .skip (.xseq (.seq (.seq (.region ?_)))); refine .o ?_; refine .o (.nil (.xseq (.block (.seq (.region ?_))))); refine .o ?_; refine .o (.nil (.xseq ?_))
       refine .cs (fun h1 => ?_) (fun h1 => ?_)
       · refine .seq (.region ?_); refine .o ?_; refine .o ?_; refine .cl (c_impl_isVal _) ?_; refine .o (.nil (.xseq (.ret (.rblk (.rseq (.done ?_)))))); refine .mk ?_
         (try simp only [Hb_iff, Bool.not_eq_true', Bool.not_eq_false'] at *)
         all_goals (first | (simp_all [itemOkP, itemPreP, itemArmP]; done) | (simp_all [itemOkP, itemPreP, itemArmP]; omega) | (refine scb ?_; simp_all [itemOkP, itemPreP, itemArmP] <;> omega))
       · refine .seq (.region ?_); refine .o ?_; refine .o (.nil (.xseq ?_)); refine .cs (fun h2 => ?_) (fun h2 => ?_)
         · refine .seq (.region ?_); refine .o ?_; refine .o ?_; refine .cl (c_impl_isVal _) ?_; refine .o ?_; refine .sp 27 (fun s2 => ?_) (fun s2 => ?_)
           · (iterate 2 refine .o ?_); refine .o ?_; refine .sp 30 (fun s3 => ?_) (fun s3 => ?_)
             · (iterate 5 refine .o ?_); refine .o (.nil (.xseq (.ret (.rblk (.rseq (.done ?_)))))); refine .mk ?_; (try simp only [Hb_iff, Bool.not_eq_true', Bool.not_eq_false'] at *)
               all_goals (first | (simp_all [itemOkP, itemPreP, itemArmP]; done) | (simp_all [itemOkP, itemPreP, itemArmP]; omega) | (refine scb ?_; simp_all [itemOkP, itemPreP, itemArmP] <;> omega))
             · (iterate 5 refine .o ?_); refine .o (.nil (.xseq (.ret (.rblk (.rseq (.done ?_)))))); refine .mk ?_; (try simp only [Hb_iff, Bool.not_eq_true', Bool.not_eq_false'] at *)
               all_goals (first | (simp_all [itemOkP, itemPreP, itemArmP]; done) | (simp_all [itemOkP, itemPreP, itemArmP]; omega) | (refine scb ?_; simp_all [itemOkP, itemPreP, itemArmP] <;> omega))
           · (iterate 8 refine .o ?_); refine .o (.nil (.xseq (.ret (.rblk (.rseq (.done ?_)))))); refine .mk ?_; (try simp only [Hb_iff, Bool.not_eq_true', Bool.not_eq_false'] at *)
             all_goals (first | (simp_all [itemOkP, itemPreP, itemArmP]; done) | (simp_all [itemOkP, itemPreP, itemArmP]; omega) | (refine scb ?_; simp_all [itemOkP, itemPreP, itemArmP] <;> omega))
         · refine .seq (.region ?_); refine .o ?_; refine .o (.nil (.xseq ?_)); refine .cs (fun h3 => ?_) (fun h3 => ?_)
           · refine .seq (.region ?_); refine .o ?_; refine .o ?_; refine .cl (c_impl_isVal _) ?_; refine .o ?_; refine .sp 41 (fun s4 => ?_) (fun s4 => ?_)
             · (iterate 4 refine .o ?_); refine .o (.nil (.xseq (.ret (.rblk (.rseq (.done ?_)))))); refine .mk ?_; (try simp only [Hb_iff, Bool.not_eq_true', Bool.not_eq_false'] at *)
               all_goals (first | (simp_all [itemOkP, itemPreP, itemArmP]; done) | (simp_all [itemOkP, itemPreP, itemArmP]; omega) | (refine scb ?_; simp_all [itemOkP, itemPreP, itemArmP] <;> omega))
             · (iterate 4 refine .o ?_); refine .o (.nil (.xseq (.ret (.rblk (.rseq (.done ?_)))))); refine .mk ?_; (try simp only [Hb_iff, Bool.not_eq_true', Bool.not_eq_false'] at *)
               all_goals (first | (simp_all [itemOkP, itemPreP, itemArmP]; done) | (simp_all [itemOkP, itemPreP, itemArmP]; omega) | (refine scb ?_; simp_all [itemOkP, itemPreP, itemArmP] <;> omega))
           · refine .seq (.region ?_); refine .o ?_; refine .o (.nil (.xseq ?_)); refine .cs (fun h4 => ?_) (fun h4 => ?_)
             · refine .seq (.region ?_); (iterate 3 refine .o ?_); refine .o (.nil (.xseq (.ret (.rblk (.rseq (.done ?_)))))); refine .mk ?_
               (try simp only [Hb_iff, Bool.not_eq_true', Bool.not_eq_false'] at *)
               all_goals (first | (simp_all [itemOkP, itemPreP, itemArmP]; done) | (simp_all [itemOkP, itemPreP, itemArmP]; omega) | (refine scb ?_; simp_all [itemOkP, itemPreP, itemArmP] <;> omega))
             · refine .seq (.region ?_); refine .o ?_; refine .o (.nil (.xseq ?_)); refine .cs (fun h5 => ?_) (fun h5 => ?_)
               · refine .seq (.region ?_); (iterate 3 refine .o ?_); refine .o (.nil (.xseq (.ret (.rblk (.rseq (.done ?_)))))); refine .mk ?_
                 (try simp only [Hb_iff, Bool.not_eq_true', Bool.not_eq_false'] at *)
                 all_goals (first | (simp_all [itemOkP, itemPreP, itemArmP]; done) | (simp_all [itemOkP, itemPreP, itemArmP]; omega) | (refine scb ?_; simp_all [itemOkP, itemPreP, itemArmP] <;> omega))
               · refine .seq (.region ?_); refine .o ?_; refine .o (.nil (.xseq ?_)); refine .cs (fun h6 => ?_) (fun h6 => ?_)
                 · refine .seq (.region ?_); (iterate 3 refine .o ?_); refine .o ?_; refine .sp 61 (fun s5 => ?_) (fun s5 => ?_)
                   · (iterate 4 refine .o ?_); refine .o ?_; refine .sp 66 (fun s6 => ?_) (fun s6 => ?_)
                     · (iterate 4 refine .o ?_); refine .o (.nil (.xseq (.ret (.rblk (.rseq (.done ?_)))))); refine .mk ?_; (try simp only [Hb_iff, Bool.not_eq_true', Bool.not_eq_false'] at *)
                       all_goals (first | (simp_all [itemOkP, itemPreP, itemArmP]; done) | (simp_all [itemOkP, itemPreP, itemArmP]; omega) | (refine scb ?_; simp_all [itemOkP, itemPreP, itemArmP] <;> omega))
                     · (iterate 4 refine .o ?_); refine .o (.nil (.xseq (.ret (.rblk (.rseq (.done ?_)))))); refine .mk ?_; (try simp only [Hb_iff, Bool.not_eq_true', Bool.not_eq_false'] at *)
                       all_goals (first | (simp_all [itemOkP, itemPreP, itemArmP]; done) | (simp_all [itemOkP, itemPreP, itemArmP]; omega) | (refine scb ?_; simp_all [itemOkP, itemPreP, itemArmP] <;> omega))
                   · (iterate 9 refine .o ?_); refine .o (.nil (.xseq (.ret (.rblk (.rseq (.done ?_)))))); refine .mk ?_; (try simp only [Hb_iff, Bool.not_eq_true', Bool.not_eq_false'] at *)
                     all_goals (first | (simp_all [itemOkP, itemPreP, itemArmP]; done) | (simp_all [itemOkP, itemPreP, itemArmP]; omega) | (refine scb ?_; simp_all [itemOkP, itemPreP, itemArmP] <;> omega))
                 · refine .seq (.region ?_); refine .o ?_; refine .o (.nil (.xseq ?_)); refine .cs (fun h7 => ?_) (fun h7 => ?_)
                   · refine .seq (.region ?_); (iterate 3 refine .o ?_); refine .o ?_; refine .sp 76 (fun s7 => ?_) (fun s7 => ?_)
                     · (iterate 4 refine .o ?_); refine .o (.nil (.xseq (.ret (.rblk (.rseq (.done ?_)))))); refine .mk ?_; (try simp only [Hb_iff, Bool.not_eq_true', Bool.not_eq_false'] at *)
                       all_goals (first | (simp_all [itemOkP, itemPreP, itemArmP]; done) | (simp_all [itemOkP, itemPreP, itemArmP]; omega) | (refine scb ?_; simp_all [itemOkP, itemPreP, itemArmP] <;> omega))
                     · (iterate 4 refine .o ?_); refine .o (.nil (.xseq (.ret (.rblk (.rseq (.done ?_)))))); refine .mk ?_; (try simp only [Hb_iff, Bool.not_eq_true', Bool.not_eq_false'] at *)
                       all_goals (first | (simp_all [itemOkP, itemPreP, itemArmP]; done) | (simp_all [itemOkP, itemPreP, itemArmP]; omega) | (refine scb ?_; simp_all [itemOkP, itemPreP, itemArmP] <;> omega))
                   · refine .seq (.seq (.region ?_)); refine .o ?_; refine .o (.nil (.xseq ?_)); refine .cs (fun h8 => ?_) (fun h8 => ?_)
                     · refine .skip (.xseq ?_); refine .cT (.seq (.region ?_)); (iterate 3 refine .o ?_); refine .o (.nil (.xseq (.ret (.rblk (.rseq (.done ?_)))))); refine .mk ?_
                       (try simp only [Hb_iff, Bool.not_eq_true', Bool.not_eq_false'] at *)
                       all_goals (first | (simp_all [itemOkP, itemPreP, itemArmP]; done) | (simp_all [itemOkP, itemPreP, itemArmP]; omega) | (refine scb ?_; simp_all [itemOkP, itemPreP, itemArmP] <;> omega))
                     · refine .seq (.region ?_); refine .o ?_; refine .o (.nil (.xseq ?_)); refine .cs (fun h9 => ?_) (fun h9 => ?_)
                       · refine .skip (.xseq ?_); refine .cT (.seq (.region ?_)); (iterate 3 refine .o ?_); refine .o (.nil (.xseq (.ret (.rblk (.rseq (.done ?_)))))); refine .mk ?_
                         (try simp only [Hb_iff, Bool.not_eq_true', Bool.not_eq_false'] at *)
                         all_goals (first | (simp_all [itemOkP, itemPreP, itemArmP]; done) | (simp_all [itemOkP, itemPreP, itemArmP]; omega) | (refine scb ?_; simp_all [itemOkP, itemPreP, itemArmP] <;> omega))
                       · refine .region ?_; refine .o ?_; refine .o (.nil (.xseq ?_)); refine .cs (fun h10 => ?_) (fun h10 => ?_)
                         · refine .seq (.region ?_); (iterate 3 refine .o ?_); refine .o (.nil (.xseq (.ret (.rblk (.rseq (.done ?_)))))); refine .mk ?_
                           (try simp only [Hb_iff, Bool.not_eq_true', Bool.not_eq_false'] at *)
                           all_goals (first | (simp_all [itemOkP, itemPreP, itemArmP]; done) | (simp_all [itemOkP, itemPreP, itemArmP]; omega) | (refine scb ?_; simp_all [itemOkP, itemPreP, itemArmP] <;> omega))
                         · refine .skip (.xblk (.xseq (.seq (.region ?_)))); refine .o (.nil (.xseq (.ret (.done ?_)))); refine .mk ?_; (try simp only [Hb_iff, Bool.not_eq_true', Bool.not_eq_false'] at *)
                           all_goals (first | (simp_all [itemOkP, itemPreP, itemArmP]; done) | (simp_all [itemOkP, itemPreP, itemArmP]; omega) | (refine scb ?_; simp_all [itemOkP, itemPreP, itemArmP] <;> omega))
   · (iterate 4 refine .o ?_); refine .o (.nil (.xseq ?_)); refine .cF (.skip (.xseq (.seq (.seq (.region ?_))))); refine .o ?_; refine .o (.nil (.xseq (.block (.seq (.region ?_)))))
     refine .o ?_; refine .o (.nil (.xseq ?_)); refine .cs (fun h11 => ?_) (fun h11 => ?_)
     · refine .seq (.region ?_); refine .o ?_; refine .o ?_; refine .cl (c_impl_isVal _) ?_; refine .o (.nil (.xseq (.ret (.rblk (.rseq (.done ?_)))))); refine .mk ?_
       (try simp only [Hb_iff, Bool.not_eq_true', Bool.not_eq_false'] at *)
       all_goals (first | (simp_all [itemOkP, itemPreP, itemArmP]; done) | (simp_all [itemOkP, itemPreP, itemArmP]; omega) | (refine scb ?_; simp_all [itemOkP, itemPreP, itemArmP] <;> omega))
     · refine .seq (.region ?_); refine .o ?_; refine .o (.nil (.xseq ?_)); refine .cs (fun h12 => ?_) (fun h12 => ?_)
       · refine .seq (.region ?_); refine .o ?_; refine .o ?_; refine .cl (c_impl_isVal _) ?_; refine .o ?_; refine .sp 27 (fun s8 => ?_) (fun s8 => ?_)
         · (iterate 2 refine .o ?_); refine .o ?_; refine .sp 30 (fun s9 => ?_) (fun s9 => ?_)
           · (iterate 5 refine .o ?_); refine .o (.nil (.xseq (.ret (.rblk (.rseq (.done ?_)))))); refine .mk ?_; (try simp only [Hb_iff, Bool.not_eq_true', Bool.not_eq_false'] at *)
             all_goals (first | (simp_all [itemOkP, itemPreP, itemArmP]; done) | (simp_all [itemOkP, itemPreP, itemArmP]; omega) | (refine scb ?_; simp_all [itemOkP, itemPreP, itemArmP] <;> omega))
           · (iterate 5 refine .o ?_); refine .o (.nil (.xseq (.ret (.rblk (.rseq (.done ?_)))))); refine .mk ?_; (try simp only [Hb_iff, Bool.not_eq_true', Bool.not_eq_false'] at *)
             all_goals (first | (simp_all [itemOkP, itemPreP, itemArmP]; done) | (simp_all [itemOkP, itemPreP, itemArmP]; omega) | (refine scb ?_; simp_all [itemOkP, itemPreP, itemArmP] <;> omega))
         · (iterate 8 refine .o ?_); refine .o (.nil (.xseq (.ret (.rblk (.rseq (.done ?_)))))); refine .mk ?_; (try simp only [Hb_iff, Bool.not_eq_true', Bool.not_eq_false'] at *)
           all_goals (first | (simp_all [itemOkP, itemPreP, itemArmP]; done) | (simp_all [itemOkP, itemPreP, itemArmP]; omega) | (refine scb ?_; simp_all [itemOkP, itemPreP, itemArmP] <;> omega))
       · refine .seq (.region ?_); refine .o ?_; refine .o (.nil (.xseq ?_)); refine .cs (fun h13 => ?_) (fun h13 => ?_)
         · refine .seq (.region ?_); refine .o ?_; refine .o ?_; refine .cl (c_impl_isVal _) ?_; refine .o ?_; refine .sp 41 (fun s10 => ?_) (fun s10 => ?_)
           · (iterate 4 refine .o ?_); refine .o (.nil (.xseq (.ret (.rblk (.rseq (.done ?_)))))); refine .mk ?_; (try simp only [Hb_iff, Bool.not_eq_true', Bool.not_eq_false'] at *)
             all_goals (first | (simp_all [itemOkP, itemPreP, itemArmP]; done) | (simp_all [itemOkP, itemPreP, itemArmP]; omega) | (refine scb ?_; simp_all [itemOkP, itemPreP, itemArmP] <;> omega))
           · (iterate 4 refine .o ?_); refine .o (.nil (.xseq (.ret (.rblk (.rseq (.done ?_)))))); refine .mk ?_; (try simp only [Hb_iff, Bool.not_eq_true', Bool.not_eq_false'] at *)
             all_goals (first | (simp_all [itemOkP, itemPreP, itemArmP]; done) | (simp_all [itemOkP, itemPreP, itemArmP]; omega) | (refine scb ?_; simp_all [itemOkP, itemPreP, itemArmP] <;> omega))
         · refine .seq (.region ?_); refine .o ?_; refine .o (.nil (.xseq ?_)); refine .cs (fun h14 => ?_) (fun h14 => ?_)
           · refine .seq (.region ?_); (iterate 3 refine .o ?_); refine .o (.nil (.xseq (.ret (.rblk (.rseq (.done ?_)))))); refine .mk ?_
             (try simp only [Hb_iff, Bool.not_eq_true', Bool.not_eq_false'] at *)
             all_goals (first | (simp_all [itemOkP, itemPreP, itemArmP]; done) | (simp_all [itemOkP, itemPreP, itemArmP]; omega) | (refine scb ?_; simp_all [itemOkP, itemPreP, itemArmP] <;> omega))
           · refine .seq (.region ?_); refine .o ?_; refine .o (.nil (.xseq ?_)); refine .cs (fun h15 => ?_) (fun h15 => ?_)
             · refine .seq (.region ?_); (iterate 3 refine .o ?_); refine .o (.nil (.xseq (.ret (.rblk (.rseq (.done ?_)))))); refine .mk ?_
               (try simp only [Hb_iff, Bool.not_eq_true', Bool.not_eq_false'] at *)
               all_goals (first | (simp_all [itemOkP, itemPreP, itemArmP]; done) | (simp_all [itemOkP, itemPreP, itemArmP]; omega) | (refine scb ?_; simp_all [itemOkP, itemPreP, itemArmP] <;> omega))
             · refine .seq (.region ?_); refine .o ?_; refine .o (.nil (.xseq ?_)); refine .cs (fun h16 => ?_) (fun h16 => ?_)
               · refine .seq (.region ?_); (iterate 3 refine .o ?_); refine .o ?_; refine .sp 61 (fun s11 => ?_) (fun s11 => ?_)
                 · (iterate 4 refine .o ?_); refine .o ?_; refine .sp 66 (fun s12 => ?_) (fun s12 => ?_)
                   · (iterate 4 refine .o ?_); refine .o (.nil (.xseq (.ret (.rblk (.rseq (.done ?_)))))); refine .mk ?_; (try simp only [Hb_iff, Bool.not_eq_true', Bool.not_eq_false'] at *)
                     all_goals (first | (simp_all [itemOkP, itemPreP, itemArmP]; done) | (simp_all [itemOkP, itemPreP, itemArmP]; omega) | (refine scb ?_; simp_all [itemOkP, itemPreP, itemArmP] <;> omega))
                   · (iterate 4 refine .o ?_); refine .o (.nil (.xseq (.ret (.rblk (.rseq (.done ?_)))))); refine .mk ?_; (try simp only [Hb_iff, Bool.not_eq_true', Bool.not_eq_false'] at *)
                     all_goals (first | (simp_all [itemOkP, itemPreP, itemArmP]; done) | (simp_all [itemOkP, itemPreP, itemArmP]; omega) | (refine scb ?_; simp_all [itemOkP, itemPreP, itemArmP] <;> omega))
                 · (iterate 9 refine .o ?_); refine .o (.nil (.xseq (.ret (.rblk (.rseq (.done ?_)))))); refine .mk ?_; (try simp only [Hb_iff, Bool.not_eq_true', Bool.not_eq_false'] at *)
                   all_goals (first | (simp_all [itemOkP, itemPreP, itemArmP]; done) | (simp_all [itemOkP, itemPreP, itemArmP]; omega) | (refine scb ?_; simp_all [itemOkP, itemPreP, itemArmP] <;> omega))
               · refine .seq (.region ?_); refine .o ?_; refine .o (.nil (.xseq ?_)); refine .cs (fun h17 => ?_) (fun h17 => ?_)
                 · refine .seq (.region ?_); (iterate 3 refine .o ?_); refine .o ?_; refine .sp 76 (fun s13 => ?_) (fun s13 => ?_)
                   · (iterate 4 refine .o ?_); refine .o (.nil (.xseq (.ret (.rblk (.rseq (.done ?_)))))); refine .mk ?_; (try simp only [Hb_iff, Bool.not_eq_true', Bool.not_eq_false'] at *)
                     all_goals (first | (simp_all [itemOkP, itemPreP, itemArmP]; done) | (simp_all [itemOkP, itemPreP, itemArmP]; omega) | (refine scb ?_; simp_all [itemOkP, itemPreP, itemArmP] <;> omega))
                   · (iterate 4 refine .o ?_); refine .o (.nil (.xseq (.ret (.rblk (.rseq (.done ?_)))))); refine .mk ?_; (try simp only [Hb_iff, Bool.not_eq_true', Bool.not_eq_false'] at *)
                     all_goals (first | (simp_all [itemOkP, itemPreP, itemArmP]; done) | (simp_all [itemOkP, itemPreP, itemArmP]; omega) | (refine scb ?_; simp_all [itemOkP, itemPreP, itemArmP] <;> omega))
                 · refine .seq (.seq (.region ?_)); refine .o ?_; refine .o (.nil (.xseq ?_)); refine .cs (fun h18 => ?_) (fun h18 => ?_)
                   · refine .skip (.xseq ?_); refine .cT (.seq (.region ?_)); (iterate 3 refine .o ?_); refine .o (.nil (.xseq (.ret (.rblk (.rseq (.done ?_)))))); refine .mk ?_
                     (try simp only [Hb_iff, Bool.not_eq_true', Bool.not_eq_false'] at *)
                     all_goals (first | (simp_all [itemOkP, itemPreP, itemArmP]; done) | (simp_all [itemOkP, itemPreP, itemArmP]; omega) | (refine scb ?_; simp_all [itemOkP, itemPreP, itemArmP] <;> omega))
                   · refine .seq (.region ?_); refine .o ?_; refine .o (.nil (.xseq ?_)); refine .cs (fun h19 => ?_) (fun h19 => ?_)
                     · refine .skip (.xseq ?_); refine .cT (.seq (.region ?_)); (iterate 3 refine .o ?_); refine .o (.nil (.xseq (.ret (.rblk (.rseq (.done ?_)))))); refine .mk ?_
                       (try simp only [Hb_iff, Bool.not_eq_true', Bool.not_eq_false'] at *)
                       all_goals (first | (simp_all [itemOkP, itemPreP, itemArmP]; done) | (simp_all [itemOkP, itemPreP, itemArmP]; omega) | (refine scb ?_; simp_all [itemOkP, itemPreP, itemArmP] <;> omega))
                     · refine .region ?_; refine .o ?_; refine .o (.nil (.xseq ?_)); refine .cs (fun h20 => ?_) (fun h20 => ?_)
                       · refine .seq (.region ?_); (iterate 3 refine .o ?_); refine .o (.nil (.xseq (.ret (.rblk (.rseq (.done ?_)))))); refine .mk ?_
                         (try simp only [Hb_iff, Bool.not_eq_true', Bool.not_eq_false'] at *)
                         all_goals (first | (simp_all [itemOkP, itemPreP, itemArmP]; done) | (simp_all [itemOkP, itemPreP, itemArmP]; omega) | (refine scb ?_; simp_all [itemOkP, itemPreP, itemArmP] <;> omega))
                       · refine .skip (.xblk (.xseq (.seq (.region ?_)))); refine .o (.nil (.xseq (.ret (.done ?_)))); refine .mk ?_; (try simp only [Hb_iff, Bool.not_eq_true', Bool.not_eq_false'] at *)
                         all_goals (first | (simp_all [itemOkP, itemPreP, itemArmP]; done) | (simp_all [itemOkP, itemPreP, itemArmP]; omega) | (refine scb ?_; simp_all [itemOkP, itemPreP, itemArmP] <;> omega))

theorem c_impl_GorOk (p : Prog) (g : Gor) : FnC Tryz.prog TA false 175 [.agg (eProgI p), .agg (eGorI g)] [] (.sc (.bool (gorOkP p g))) [] := by
 refine .ini Tryz.ntmps175 Tryz.results175 ?_; refine .seq (.region ?_); (iterate 2 refine .o ?_); refine .o (.nil (.xseq (.seq (.seq ?_))))
 refine .drawnK 27 [(0, false), (1, false), (2, false), (3, false), (4, false), (5, false), (6, false), (7, false), (8, false), (9, false), (10, false), (11, false), (12, false), (13, false), (14, false), (15, false), (16, false), (17, false), (18, false), (19, false), (20, false), (21, false), (22, false), (23, false), (24, false), (25, false), (26, false)] mixed (by kernel_rfl) ?_
 refine .o ?_; refine .cl (c_impl_ProgOk _) ?_; refine .o ?_; refine .o ?_; refine .sp 11 (fun s0 => ?_) (fun s0 => ?_)
 · (iterate 22 refine .o ?_); refine .o (.nil ?_); refine .o ?_; refine .o (.nil (.xseq ?_)); refine .cT (.seq (.region ?_)); refine .o (.nil (.xseq (.ret (.rseq (.done ?_)))))
   refine .mk ?_; (try simp only [Hb_iff, Bool.not_eq_true', Bool.not_eq_false'] at *)
   all_goals ((first | (simp [gorOkP, gor1OkP, *]; done) | (simp at *; simp [gorOkP, gor1OkP, *]; done) | (simp at *; simp [gorOkP, gor1OkP, *]; omega) | (simp_all [gorOkP, gor1OkP]; done) | (refine scb ?_; simp [gorOkP, gor1OkP] at *; omega) | (refine scb ?_; simp_all [gorOkP, gor1OkP]; done) | (refine scb ?_; simp_all [gorOkP, gor1OkP] <;> omega) | (simp_all [gorOkP, gor1OkP]; omega)))
 · (iterate 4 refine .o ?_); refine .o ?_; refine .cl (c_impl_Instrs _ _) ?_; refine .cl (c_impl_within _ _ _) ?_; (iterate 2 refine .o ?_); refine .o ?_
   refine .sp 21 (fun s1 => ?_) (fun s1 => ?_)
   · (iterate 12 refine .o ?_); refine .o (.nil ?_); refine .o ?_; refine .o (.nil (.xseq ?_)); refine .cT (.seq (.region ?_)); refine .o (.nil (.xseq (.ret (.rseq (.done ?_)))))
     refine .mk ?_; (try simp only [Hb_iff, Bool.not_eq_true', Bool.not_eq_false'] at *)
     all_goals ((first | (simp [gorOkP, gor1OkP, *]; done) | (simp at *; simp [gorOkP, gor1OkP, *]; done) | (simp at *; simp [gorOkP, gor1OkP, *]; omega) | (simp_all [gorOkP, gor1OkP]; done) | (refine scb ?_; simp [gorOkP, gor1OkP] at *; omega) | (refine scb ?_; simp_all [gorOkP, gor1OkP]; done) | (refine scb ?_; simp_all [gorOkP, gor1OkP] <;> omega) | (simp_all [gorOkP, gor1OkP]; omega)))
   · (iterate 5 refine .o ?_); refine .o ?_; refine .sp 27 (fun s2 => ?_) (fun s2 => ?_)
     · (iterate 6 refine .o ?_); refine .o (.nil ?_); refine .o ?_; refine .o (.nil (.xseq ?_)); refine .cT (.seq (.region ?_)); refine .o (.nil (.xseq (.ret (.rseq (.done ?_)))))
       refine .mk ?_; (try simp only [Hb_iff, Bool.not_eq_true', Bool.not_eq_false'] at *)
       all_goals ((first | (simp [gorOkP, gor1OkP, *]; done) | (simp at *; simp [gorOkP, gor1OkP, *]; done) | (simp at *; simp [gorOkP, gor1OkP, *]; omega) | (simp_all [gorOkP, gor1OkP]; done) | (refine scb ?_; simp [gorOkP, gor1OkP] at *; omega) | (refine scb ?_; simp_all [gorOkP, gor1OkP]; done) | (refine scb ?_; simp_all [gorOkP, gor1OkP] <;> omega) | (simp_all [gorOkP, gor1OkP]; omega)))
     · (iterate 4 refine .o ?_); refine .o ?_; refine .sp 32 (fun s3 => ?_) (fun s3 => ?_)
       · refine .o ?_; refine .o (.nil ?_); refine .o ?_; refine .o (.nil (.xseq ?_)); refine .cT (.seq (.region ?_)); refine .o (.nil (.xseq (.ret (.rseq (.done ?_))))); refine .mk ?_
         (try simp only [Hb_iff, Bool.not_eq_true', Bool.not_eq_false'] at *)
         all_goals ((first | (simp [gorOkP, gor1OkP, *]; done) | (simp at *; simp [gorOkP, gor1OkP, *]; done) | (simp at *; simp [gorOkP, gor1OkP, *]; omega) | (simp_all [gorOkP, gor1OkP]; done) | (refine scb ?_; simp [gorOkP, gor1OkP] at *; omega) | (refine scb ?_; simp_all [gorOkP, gor1OkP]; done) | (refine scb ?_; simp_all [gorOkP, gor1OkP] <;> omega) | (simp_all [gorOkP, gor1OkP]; omega)))
       · refine .o ?_; refine .o (.nil ?_); refine .o ?_; refine .o (.nil (.xseq ?_)); refine .cs (fun h0 => ?_) (fun h0 => ?_)
         · refine .seq (.region ?_); refine .o (.nil (.xseq (.ret (.rseq (.done ?_))))); refine .mk ?_; (try simp only [Hb_iff, Bool.not_eq_true', Bool.not_eq_false'] at *)
           all_goals ((first | (simp [gorOkP, gor1OkP, *]; done) | (simp at *; simp [gorOkP, gor1OkP, *]; done) | (simp at *; simp [gorOkP, gor1OkP, *]; omega) | (simp_all [gorOkP, gor1OkP]; done) | (refine scb ?_; simp [gorOkP, gor1OkP] at *; omega) | (refine scb ?_; simp_all [gorOkP, gor1OkP]; done) | (refine scb ?_; simp_all [gorOkP, gor1OkP] <;> omega) | (simp_all [gorOkP, gor1OkP]; omega)))
         · have hpre : (progOkP p && withinP g.pc 0 (instrsP p g.proc) && decide (g.regs.length = 6) && decide (1 ≤ g.state) && decide (g.state ≤ 4)) = true := by (first | (simp [*]; done) | (simp at *; simp [*]; done) | (simp at *; simp [*]; omega) | (simp_all ; done) | (refine scb ?_; simp  at *; omega) | (refine scb ?_; simp_all ; done) | (refine scb ?_; simp_all  <;> omega) | (simp_all ; omega))
           refine .skip (.xseq (.seq (.seq (.region ?_)))); refine .o ?_; refine .o ?_; refine .cl (c_slices_ContainsFunc_int_int _ _ _ c_impl_GorOk_1) ?_; refine .nil (.xseq ?_)
           refine .cs (fun h1 => ?_) (fun h1 => ?_)
           · refine .seq (.region ?_); refine .o (.nil (.xseq (.ret (.rseq (.done ?_))))); refine .mk ?_; (try simp only [Hb_iff, Bool.not_eq_true', Bool.not_eq_false'] at *)
             have hF : g.regs.all isValP = false := by (first | (simp [any_val, *]; done) | (simp at *; simp [any_val, *]; done) | (simp at *; simp [any_val, *]; omega) | (simp_all [any_val]; done) | (refine scb ?_; simp [any_val] at *; omega) | (refine scb ?_; simp_all [any_val]; done) | (refine scb ?_; simp_all [any_val] <;> omega) | (simp_all [any_val]; omega))
             all_goals (simp only [gorOkP, gor1OkP, hF, Bool.and_false, Bool.false_and])
           · have hav : g.regs.all isValP = true := by (simp only [Hb_iff, any_val, Bool.not_eq_false'] at h1; exact h1)
             clear h1; refine .skip (.xseq (.seq (.region ?_))); refine .o (.nil (.xseq (.seq (.seq (.region ?_))))); (iterate 3 refine .o ?_); refine .o (.nil (.xseq (.block ?_)))
             have hln := lastKind_nil; refine .loop ?_; refine .bound 41 rfl fun hb0 => ?_; simp only [List.length_map, mxl] at hb0
             refine .rng [3, 5, 41, 42, 43] (fun i => [(43, .sc (.int .i64 (i : Nat))), (5, .sc (.int .i64 (lastKindP (g.trace.take i))))]) (fun i => []) (fun i => traceGoP g.trace = traceGoP (g.trace.drop i)) (g.trace.length) (by first | rfl | simp) (fun i hi0 hH0 ih0 => ?_)
             refine .seq (.region ?_); refine .o (.nil (.xseq (.seq ?_))); refine .cs (fun h2 => ?_) (fun h2 => ?_)
             · have hlt0 : i < g.trace.length := by simpa using h2
               obtain ⟨x, hx0, hd0⟩ := drop_cons hlt0; have hn0 : (0 : Int) ≤ (i : Int) := Int.natCast_nonneg i
               have hw0 : IntKind.i64.wrap ((i : Int) + 1) = ((i + 1 : Nat) : Int) := by rw [w64 (by omega) (by omega)]; rfl
               have hwl : IntKind.i64.wrap ((g.trace.length : Int) - 1) = (g.trace.length : Int) - 1 := w64 (by omega) (by omega); have hL := lastKind_at hx0
               refine .skip (.xseq (.seq (.block (.seq (.region ?_))))); (iterate 5 refine .o ?_); refine .o (.nil (.xseq (.seq (.seq (.region ?_))))); refine .o ?_; refine .cl (c_impl_ItemOk _) ?_
               refine .o ?_; refine .o ?_; refine .sp 51 (fun s4 => ?_) (fun s4 => ?_)
               · (iterate 16 refine .o ?_); refine .o (.nil (.xseq ?_)); refine .cT (.seq (.region ?_)); refine .o (.nil (.xseq (.ret (.rseq (.rblk (.rseq (.rlp (.rblk (.rseq (.done ?_))))))))))
                 refine .mk ?_; clear ih0; (try simp only [Hb_iff, Bool.not_eq_true', Bool.not_eq_false'] at *)
                 have hem : (g.trace.drop (i + 1)).isEmpty = decide (¬ (i : Int) < (g.trace.length : Int) - 1) := trace_end hlt0
                 have hF : traceGoP g.trace = false := by (rw [hH0, hd0]; clear hH0; (first | (simp [traceGoP, endP, hem, *]; done) | (simp at *; simp [traceGoP, endP, hem, *]; done) | (simp at *; simp [traceGoP, endP, hem, *]; omega) | (simp_all [traceGoP, endP, hem]; done) | (refine scb ?_; simp [traceGoP, endP, hem] at *; omega) | (refine scb ?_; simp_all [traceGoP, endP, hem]; done) | (refine scb ?_; simp_all [traceGoP, endP, hem] <;> omega) | (simp_all [traceGoP, endP, hem]; omega)))
                 all_goals (simp only [gorOkP, gor1OkP, traceOkP, hF, Bool.and_false, Bool.false_and])
               · (iterate 3 refine .o ?_); refine .o ?_; refine .sp 55 (fun s5 => ?_) (fun s5 => ?_)
                 · (iterate 12 refine .o ?_); refine .o (.nil (.xseq ?_)); refine .cs (fun h3 => ?_) (fun h3 => ?_)
                   · refine .seq (.region ?_); refine .o (.nil (.xseq (.ret (.rseq (.rblk (.rseq (.rlp (.rblk (.rseq (.done ?_)))))))))); refine .mk ?_; clear ih0
                     (try simp only [Hb_iff, Bool.not_eq_true', Bool.not_eq_false'] at *); have hem : (g.trace.drop (i + 1)).isEmpty = decide (¬ (i : Int) < (g.trace.length : Int) - 1) := trace_end hlt0
                     have hF : traceGoP g.trace = false := by (rw [hH0, hd0]; clear hH0; (first | (simp [traceGoP, endP, hem, *]; done) | (simp at *; simp [traceGoP, endP, hem, *]; done) | (simp at *; simp [traceGoP, endP, hem, *]; omega) | (simp_all [traceGoP, endP, hem]; done) | (refine scb ?_; simp [traceGoP, endP, hem] at *; omega) | (refine scb ?_; simp_all [traceGoP, endP, hem]; done) | (refine scb ?_; simp_all [traceGoP, endP, hem] <;> omega) | (simp_all [traceGoP, endP, hem]; omega)))
                     all_goals (simp only [gorOkP, gor1OkP, traceOkP, hF, Bool.and_false, Bool.false_and])
                   · refine .skip (.xseq (.region ?_)); (iterate 2 refine .o ?_); refine .o (.nil (.xblk (.xseq (.region ?_)))); refine .o ?_; refine .o (.nil ?_)
                     refine .xlp (.back [3, 5, 41, 42, 43] (ih0 (by assumption) ?_)); clear ih0; (try simp only [Hb_iff, Bool.not_eq_true', Bool.not_eq_false'] at *)
                     rw [hH0, hd0]; clear hH0; have hem : (g.trace.drop (i + 1)).isEmpty = decide (¬ (i : Int) < (g.trace.length : Int) - 1) := trace_end hlt0
                     (first | (simp [traceGoP, endP, hem, *]; done) | (simp at *; simp [traceGoP, endP, hem, *]; done) | (simp at *; simp [traceGoP, endP, hem, *]; omega) | (simp_all [traceGoP, endP, hem]; done) | (refine scb ?_; simp [traceGoP, endP, hem] at *; omega) | (refine scb ?_; simp_all [traceGoP, endP, hem]; done) | (refine scb ?_; simp_all [traceGoP, endP, hem] <;> omega) | (simp_all [traceGoP, endP, hem]; omega))
                 · (iterate 4 refine .o ?_); refine .o ?_; refine .sp 60 (fun s6 => ?_) (fun s6 => ?_)
                   · (iterate 7 refine .o ?_); refine .o (.nil (.xseq ?_)); refine .cs (fun h4 => ?_) (fun h4 => ?_)
                     · refine .seq (.region ?_); refine .o (.nil (.xseq (.ret (.rseq (.rblk (.rseq (.rlp (.rblk (.rseq (.done ?_)))))))))); refine .mk ?_; clear ih0
                       (try simp only [Hb_iff, Bool.not_eq_true', Bool.not_eq_false'] at *); have hem : (g.trace.drop (i + 1)).isEmpty = decide (¬ (i : Int) < (g.trace.length : Int) - 1) := trace_end hlt0
                       have hF : traceGoP g.trace = false := by (rw [hH0, hd0]; clear hH0; (first | (simp [traceGoP, endP, hem, *]; done) | (simp at *; simp [traceGoP, endP, hem, *]; done) | (simp at *; simp [traceGoP, endP, hem, *]; omega) | (simp_all [traceGoP, endP, hem]; done) | (refine scb ?_; simp [traceGoP, endP, hem] at *; omega) | (refine scb ?_; simp_all [traceGoP, endP, hem]; done) | (refine scb ?_; simp_all [traceGoP, endP, hem] <;> omega) | (simp_all [traceGoP, endP, hem]; omega)))
                       all_goals (simp only [gorOkP, gor1OkP, traceOkP, hF, Bool.and_false, Bool.false_and])
                     · refine .skip (.xseq (.region ?_)); (iterate 2 refine .o ?_); refine .o (.nil (.xblk (.xseq (.region ?_)))); refine .o ?_; refine .o (.nil ?_)
                       refine .xlp (.back [3, 5, 41, 42, 43] (ih0 (by assumption) ?_)); clear ih0; (try simp only [Hb_iff, Bool.not_eq_true', Bool.not_eq_false'] at *)
                       rw [hH0, hd0]; clear hH0; have hem : (g.trace.drop (i + 1)).isEmpty = decide (¬ (i : Int) < (g.trace.length : Int) - 1) := trace_end hlt0
                       (first | (simp [traceGoP, endP, hem, *]; done) | (simp at *; simp [traceGoP, endP, hem, *]; done) | (simp at *; simp [traceGoP, endP, hem, *]; omega) | (simp_all [traceGoP, endP, hem]; done) | (refine scb ?_; simp [traceGoP, endP, hem] at *; omega) | (refine scb ?_; simp_all [traceGoP, endP, hem]; done) | (refine scb ?_; simp_all [traceGoP, endP, hem] <;> omega) | (simp_all [traceGoP, endP, hem]; omega))
                   · (iterate 7 refine .o ?_); refine .o (.nil (.xseq ?_)); refine .cF (.skip (.xseq (.region ?_))); (iterate 2 refine .o ?_); refine .o (.nil (.xblk (.xseq (.region ?_)))); refine .o ?_
                     refine .o (.nil ?_); refine .xlp (.back [3, 5, 41, 42, 43] (ih0 (by assumption) ?_)); clear ih0; (try simp only [Hb_iff, Bool.not_eq_true', Bool.not_eq_false'] at *)
                     rw [hH0, hd0]; clear hH0; have hem : (g.trace.drop (i + 1)).isEmpty = decide (¬ (i : Int) < (g.trace.length : Int) - 1) := trace_end hlt0
                     (first | (simp [traceGoP, endP, hem, *]; done) | (simp at *; simp [traceGoP, endP, hem, *]; done) | (simp at *; simp [traceGoP, endP, hem, *]; omega) | (simp_all [traceGoP, endP, hem]; done) | (refine scb ?_; simp [traceGoP, endP, hem] at *; omega) | (refine scb ?_; simp_all [traceGoP, endP, hem]; done) | (refine scb ?_; simp_all [traceGoP, endP, hem] <;> omega) | (simp_all [traceGoP, endP, hem]; omega))
             · have hge0 : g.trace.length ≤ i := by simpa using h2
               clear ih0; have hA : traceGoP g.trace = true := by (rw [hH0, List.drop_of_length_le hge0]; rfl)
               clear hH0; have hL : g.trace.take i = g.trace := List.take_of_length_le hge0; refine .exit (.eseq (.elp (.eblk (.xseq (.seq (.region ?_)))))); (iterate 6 refine .o ?_); refine .o ?_
               refine .sp 78 (fun s7 => ?_) (fun s7 => ?_)
               · (iterate 7 refine .o ?_); refine .o (.nil (.xseq (.ret (.done ?_)))); refine .mk ?_; (try simp only [Hb_iff, Bool.not_eq_true', Bool.not_eq_false'] at *)
                 have e : ∀ a b : Int, decide (a = b) = (a == b) := fun a b => by (rw [Bool.eq_iff_iff]; simp)
                 have hE : gorOkP p g = ((progOkP p && withinP g.pc 0 (instrsP p g.proc) && decide (g.regs.length = 6) && decide (1 ≤ g.state) && decide (g.state ≤ 4)) && traceOkP g) := by simp only [gorOkP, gor1OkP, hav, Bool.and_true, Bool.and_assoc]
                 all_goals (rw [hE, hpre]; simp only [traceOkP, hA, Bool.true_and, e]; clear hA hE hpre hav)
                 all_goals (first | (simp only [*, Bool.true_and, Bool.false_and]; done) | (simp [*]; done) | (simp at *; simp [*]; done) | (simp_all; done))
               · (iterate 7 refine .o ?_); refine .o (.nil (.xseq (.ret (.done ?_)))); refine .mk ?_; (try simp only [Hb_iff, Bool.not_eq_true', Bool.not_eq_false'] at *)
                 have e : ∀ a b : Int, decide (a = b) = (a == b) := fun a b => by (rw [Bool.eq_iff_iff]; simp)
                 have hE : gorOkP p g = ((progOkP p && withinP g.pc 0 (instrsP p g.proc) && decide (g.regs.length = 6) && decide (1 ≤ g.state) && decide (g.state ≤ 4)) && traceOkP g) := by simp only [gorOkP, gor1OkP, hav, Bool.and_true, Bool.and_assoc]
                 all_goals (rw [hE, hpre]; simp only [traceOkP, hA, Bool.true_and, e]; clear hA hE hpre hav)
                 all_goals (first | (simp only [*, Bool.true_and, Bool.false_and]; done) | (simp [*]; done) | (simp at *; simp [*]; done) | (simp_all; done))

theorem c_impl_instr (p : Prog) (g : Gor) (ha : AtOk p g) : FnC Tryz.prog TA false 108 [.agg (eProgI p), .agg (eGorI g)] [] (.agg (eInstr (instrAtP p g))) [] := by
 refine .ini Tryz.ntmps108 Tryz.results108 ?_; obtain ⟨a1, a2, ⟨q, a3, a4⟩, _, _⟩ := ha; refine .seq (.region ?_); (iterate 2 refine .o ?_); refine .o (.nil (.xseq (.seq ?_)))
 refine .drawnK 9 [(0, false), (1, false), (2, false), (3, false), (4, false), (5, false), (6, false), (7, false), (8, false)] mixed (by kernel_rfl) ?_; (iterate 8 refine .o ?_)
 refine .o (.nil ?_); (iterate 2 refine .o ?_); refine .o (.nil (.xseq (.ret (.done ?_)))); refine .mk ?_; (try simp only [Hb_iff, Bool.not_eq_true', Bool.not_eq_false'] at *)
 all_goals (rfl)

theorem c_impl_places (p : Prog) (g : Gor) (n : Int) (ha : AtOk p g) (hrl : g.regs.length = 6) : FnC Tryz.prog TA false 212 [.agg (eProgI p), .agg (eGorI g), .sc (.int .i64 (n))] [] (.ls .o 158 ((placesP p g n).map ePlace)) [] := by
 refine .ini Tryz.ntmps212 Tryz.results212 ?_; have hsel := ha.sel; obtain ⟨nok, hok⟩ := ha.ok; refine .seq (.region ?_); (iterate 2 refine .o ?_)
 refine .o (.nil (.xseq (.seq (.region ?_)))); refine .o ?_; refine .o (.nil (.xseq (.seq (.region ?_)))); refine .o ?_; refine .o ?_; refine .cl (c_impl_instr p g ha) ?_
 refine .o ?_; refine .o (.nil (.xseq (.seq (.seq (.region ?_))))); refine .o ?_; refine .o (.nil (.xseq (.block (.seq (.region ?_))))); refine .o ?_; refine .o (.nil (.xseq ?_))
 refine .cs (fun h0 => ?_) (fun h0 => ?_)
 · have h8 : (instrAtP p g).op = 8 := by (simp at h0; exact h0)
   obtain ⟨hb1, hb2⟩ := ok_reg8 hok h8; have hri := regP_in hrl hb1 hb2; refine .seq (.region ?_); (iterate 2 refine .o ?_); refine .o (.nil (.xseq ?_))
   refine .cs (fun h1 => ?_) (fun h1 => ?_)
   · refine .drawnK 13 [(0, false), (1, false), (2, false), (3, false), (4, false), (5, false), (6, false), (7, false), (8, false), (9, false), (10, false), (11, false), (12, true)] mixed (by kernel_rfl) ?_
     (iterate 11 refine .o ?_); refine .o ?_; refine .bs ?_; refine .nil ?_; refine .o ?_; refine .o (.nil (.xblk (.xseq (.seq (.region ?_))))); refine .o ?_
     refine .o (.nil (.xseq (.ret (.done ?_)))); refine .mk ?_ (hn := noAss_map nPlace _); (try simp only [Hb_iff, Bool.not_eq_true', Bool.not_eq_false'] at *)
     all_goals (first | (exfalso; clear hsel; simp at *; omega) | (clear hsel hok; simp at *; simp [placesP, *]; done) | (clear hsel hok; simp at *; simp [placesP, List.take_of_length_le, *]; done) | (clear hsel hok; simp at *; simp [placesP, *]; rfl) | (clear hsel hok; simp_all [placesP]; done))
   · refine .skip (.xblk (.xseq (.seq (.region ?_)))); refine .o ?_; refine .o (.nil (.xseq (.ret (.done ?_)))); refine .mk ?_ (hn := noAss_map nPlace _)
     (try simp only [Hb_iff, Bool.not_eq_true', Bool.not_eq_false'] at *)
     all_goals (first | (exfalso; clear hsel; simp at *; omega) | (clear hsel hok; simp at *; simp [placesP, *]; done) | (clear hsel hok; simp at *; simp [placesP, List.take_of_length_le, *]; done) | (clear hsel hok; simp at *; simp [placesP, *]; rfl) | (clear hsel hok; simp_all [placesP]; done))
 · refine .seq (.region ?_); refine .o ?_; refine .o (.nil (.xseq ?_)); refine .cs (fun h2 => ?_) (fun h2 => ?_)
   · refine .seq (.region ?_); (iterate 2 refine .o ?_); refine .o (.nil (.xseq ?_)); refine .cs (fun h3 => ?_) (fun h3 => ?_)
     · refine .region ?_; (iterate 8 refine .o ?_); refine .o (.nil (.xblk (.xseq (.seq (.region ?_))))); refine .o ?_; refine .o (.nil (.xseq (.ret (.done ?_))))
       refine .mk ?_ (hn := noAss_map nPlace _); (try simp only [Hb_iff, Bool.not_eq_true', Bool.not_eq_false'] at *)
       all_goals (first | (exfalso; clear hsel; simp at *; omega) | (clear hsel hok; simp at *; simp [placesP, *]; done) | (clear hsel hok; simp at *; simp [placesP, List.take_of_length_le, *]; done) | (clear hsel hok; simp at *; simp [placesP, *]; rfl) | (clear hsel hok; simp_all [placesP]; done))
     · refine .skip (.xblk (.xseq (.seq (.region ?_)))); refine .o ?_; refine .o (.nil (.xseq (.ret (.done ?_)))); refine .mk ?_ (hn := noAss_map nPlace _)
       (try simp only [Hb_iff, Bool.not_eq_true', Bool.not_eq_false'] at *)
       all_goals (first | (exfalso; clear hsel; simp at *; omega) | (clear hsel hok; simp at *; simp [placesP, *]; done) | (clear hsel hok; simp at *; simp [placesP, List.take_of_length_le, *]; done) | (clear hsel hok; simp at *; simp [placesP, *]; rfl) | (clear hsel hok; simp_all [placesP]; done))
   · refine .seq (.region ?_); refine .o ?_; refine .o (.nil (.xseq ?_)); refine .cs (fun h4 => ?_) (fun h4 => ?_)
     · refine .seq ?_; obtain ⟨hs1, hs2, hs3⟩ := hsel (by simp at *; assumption); have hs4 : (selAtP p (instrAtP p g).a).cases.length ≤ 4 := by (simp [selTopOkP] at hs3; omega)
       refine .region ?_; (iterate 8 refine .o ?_); refine .o (.nil (.xseq (.block ?_))); have hq0 : casesPlaces g n 0 [] = [] := rfl; refine .loop ?_
       refine .rng [2, 4, 7, 58, 59, 60] (fun i => [(60, .sc (.int .i64 (i : Nat))), (7, .rf 2 0 (casesPlaces g n 0 ((selAtP p (instrAtP p g).a).cases.take i)).length)]) (fun i => [(2, ⟨158, false, (casesPlaces g n 0 ((selAtP p (instrAtP p g).a).cases.take i)).map ePlace⟩)]) (fun i => True) ((selAtP p (instrAtP p g).a).cases.length) (trivial) (fun i hi0 hH0 ih0 => ?_)
       refine .seq (.region ?_); refine .o (.nil (.xseq (.seq ?_))); refine .cs (fun h5 => ?_) (fun h5 => ?_)
       · have hlt0 : i < (selAtP p (instrAtP p g).a).cases.length := by simpa using h5
         obtain ⟨x, hx0, hd0⟩ := drop_cons hlt0; have hn0 : (0 : Int) ≤ (i : Int) := Int.natCast_nonneg i
         have hw0 : IntKind.i64.wrap ((i : Int) + 1) = ((i + 1 : Nat) : Int) := by rw [w64 (by omega) (by omega)]; rfl
         have hcl := casesPlaces_len g n 0 ((selAtP p (instrAtP p g).a).cases.take i); rw [List.length_take] at hcl
         have hcap1 : ((casesPlaces g n 0 ((selAtP p (instrAtP p g).a).cases.take i)).length + 1) * 48 ≤ 140737488355328 := by omega
         have hcap2 : (casesPlaces g n 0 ((selAtP p (instrAtP p g).a).cases.take i)).length + 1 ≤ maxLen := by (rw [mxl]; omega)
         have hL := casesPlaces_at g n hx0; obtain ⟨hr1, hr2⟩ := sel_case_reg hs3 hx0; have hri := regP_in hrl hr1 hr2; refine .skip (.xseq (.seq (.block (.seq (.region ?_)))))
         (iterate 5 refine .o ?_); refine .o (.nil (.xseq (.seq (.seq (.region ?_))))); (iterate 2 refine .o ?_); refine .o (.nil (.xseq ?_)); refine .cs (fun h6 => ?_) (fun h6 => ?_)
         · have hL2 : casePlace g n i x = [] := by (simp at h6; simp [casePlace, h6])
           refine .exit (.eseq (.eblk (.xseq (.region ?_)))); refine .o ?_; refine .o (.nil ?_); refine .xlp (.back [2, 4, 7, 58, 59, 60] (ih0 (by assumption) ?_)); clear ih0; trivial
         · refine .skip (.xseq (.seq (.region ?_))); (iterate 4 refine .o ?_); refine .o (.nil (.xseq (.seq (.seq (.region ?_))))); refine .o ?_; refine .o (.nil (.xseq ?_))
           refine .cs (fun h7 => ?_) (fun h7 => ?_)
           · have hL2 : casePlace g n i x = [⟨false, x.ch, x.send, ⟨n, (i : Nat), regP g x.reg⟩⟩] := by (clear hsel hok ih0; simp at *; simp [casePlace, *])
             refine .region ?_; (iterate 7 refine .o ?_); refine .o (.nil (.xseq (.region ?_))); (iterate 9 refine .o ?_); refine .o (.nil (.xblk (.xseq (.region ?_)))); refine .o ?_
             refine .o (.nil ?_); refine .xlp (.back [2, 4, 7, 58, 59, 60] (ih0 (by assumption) ?_)); clear ih0; trivial
           · have hL2 : casePlace g n i x = [⟨false, x.ch, x.send, ⟨n, (i : Nat), 0⟩⟩] := by (clear hsel hok ih0; simp at *; simp [casePlace, *])
             refine .skip (.xseq (.region ?_)); (iterate 9 refine .o ?_); refine .o (.nil (.xblk (.xseq (.region ?_)))); refine .o ?_; refine .o (.nil ?_)
             refine .xlp (.back [2, 4, 7, 58, 59, 60] (ih0 (by assumption) ?_)); clear ih0; trivial
       · have hge0 : (selAtP p (instrAtP p g).a).cases.length ≤ i := by simpa using h5
         clear ih0; have hL : (selAtP p (instrAtP p g).a).cases.take i = (selAtP p (instrAtP p g).a).cases := List.take_of_length_le hge0
         refine .exit (.eseq (.elp (.eblk (.xblk (.xseq (.seq (.region ?_))))))); refine .o ?_; refine .o (.nil (.xseq (.ret (.done ?_)))); refine .mk ?_ (hn := noAss_map nPlace _)
         (try simp only [Hb_iff, Bool.not_eq_true', Bool.not_eq_false'] at *)
         all_goals (first | (exfalso; clear hsel; simp at *; omega) | (clear hsel hok; simp at *; simp [placesP, *]; done) | (clear hsel hok; simp at *; simp [placesP, List.take_of_length_le, *]; done) | (clear hsel hok; simp at *; simp [placesP, *]; rfl) | (clear hsel hok; simp_all [placesP]; done))
     · refine .seq (.region ?_); refine .o ?_; refine .o (.nil (.xseq ?_)); refine .cs (fun h8 => ?_) (fun h8 => ?_)
       · refine .region ?_; (iterate 8 refine .o ?_); refine .o (.nil (.xblk (.xseq (.seq (.region ?_))))); refine .o ?_; refine .o (.nil (.xseq (.ret (.done ?_))))
         refine .mk ?_ (hn := noAss_map nPlace _); (try simp only [Hb_iff, Bool.not_eq_true', Bool.not_eq_false'] at *)
         all_goals (first | (exfalso; clear hsel; simp at *; omega) | (clear hsel hok; simp at *; simp [placesP, *]; done) | (clear hsel hok; simp at *; simp [placesP, List.take_of_length_le, *]; done) | (clear hsel hok; simp at *; simp [placesP, *]; rfl) | (clear hsel hok; simp_all [placesP]; done))
       · refine .skip (.xblk (.xseq (.seq (.region ?_)))); refine .o ?_; refine .o (.nil (.xseq (.ret (.done ?_)))); refine .mk ?_ (hn := noAss_map nPlace _)
         (try simp only [Hb_iff, Bool.not_eq_true', Bool.not_eq_false'] at *)
         all_goals (first | (exfalso; clear hsel; simp at *; omega) | (clear hsel hok; simp at *; simp [placesP, *]; done) | (clear hsel hok; simp at *; simp [placesP, List.take_of_length_le, *]; done) | (clear hsel hok; simp at *; simp [placesP, *]; rfl) | (clear hsel hok; simp_all [placesP]; done))

theorem c_impl_Places (p : Prog) (g : Gor) (n : Int) : FnC Tryz.prog TA false 125 [.agg (eProgI p), .agg (eGorI g), .sc (.int .i64 (n))] [] (.ls .o 158 ((placesQ p g n).map ePlace)) [] := by
 refine .ini Tryz.ntmps125 Tryz.results125 ?_; refine .seq (.region ?_); (iterate 2 refine .o ?_); refine .o (.nil (.xseq (.seq (.seq (.region ?_))))); refine .o ?_; refine .o ?_
 refine .cl (c_impl_GorOk _ _) ?_; refine .o ?_; refine .o ?_; refine .sp 11 (fun s0 => ?_) (fun s0 => ?_)
 · (iterate 7 refine .o ?_); refine .o (.nil (.xseq ?_)); refine .cT (.seq (.region ?_)); refine .o (.nil (.xseq (.ret (.rseq (.done ?_))))); refine .mkL ?_
   have hF : placesQ p g n = [] := by (unfold placesQ; rw [if_neg]; (first | (simp [*]; done) | (simp at *; simp [*]; done) | (simp at *; simp [*]; omega) | (simp_all ; done) | (refine scb ?_; simp  at *; omega) | (refine scb ?_; simp_all ; done) | (refine scb ?_; simp_all  <;> omega) | (simp_all ; omega)))
   rw [hF]; exact .nl _
 · (iterate 4 refine .o ?_); refine .o ?_; refine .sp 16 (fun s1 => ?_) (fun s1 => ?_)
   · (iterate 2 refine .o ?_); refine .o (.nil (.xseq ?_)); refine .cT (.seq (.region ?_)); refine .o (.nil (.xseq (.ret (.rseq (.done ?_))))); refine .mkL ?_
     have hF : placesQ p g n = [] := by (unfold placesQ; rw [if_neg]; (first | (simp [*]; done) | (simp at *; simp [*]; done) | (simp at *; simp [*]; omega) | (simp_all ; done) | (refine scb ?_; simp  at *; omega) | (refine scb ?_; simp_all ; done) | (refine scb ?_; simp_all  <;> omega) | (simp_all ; omega)))
     rw [hF]; exact .nl _
   · (iterate 2 refine .o ?_); refine .o (.nil (.xseq ?_)); refine .cs (fun h0 => ?_) (fun h0 => ?_)
     · refine .seq (.region ?_); refine .o (.nil (.xseq (.ret (.rseq (.done ?_))))); refine .mkL ?_
       have hF : placesQ p g n = [] := by (unfold placesQ; rw [if_neg]; (first | (simp [*]; done) | (simp at *; simp [*]; done) | (simp at *; simp [*]; omega) | (simp_all ; done) | (refine scb ?_; simp  at *; omega) | (refine scb ?_; simp_all ; done) | (refine scb ?_; simp_all  <;> omega) | (simp_all ; omega)))
       rw [hF]; exact .nl _
     · have hgk : gorOkP p g = true := by (simp at *; simp [*])
       have hat := atOk (gor_split hgk).1 (gor_split hgk).2; have hrl := gor_regs (gor_split hgk).2; refine .skip (.xseq (.seq (.region ?_))); (iterate 2 refine .o ?_); refine .o ?_
       refine .cl (c_impl_places _ _ _ hat hrl) ?_; refine .o (.nil (.xseq (.ret (.done ?_)))); refine .mk ?_ (hn := noAss_map nPlace _)
       (try simp only [Hb_iff, Bool.not_eq_true', Bool.not_eq_false'] at *)
       have hT : placesQ p g n = placesP p g n := by (unfold placesQ; rw [if_pos]; clear hat; (first | (simp [*]; done) | (simp at *; simp [*]; done) | (simp at *; simp [*]; omega) | (simp_all ; done) | (refine scb ?_; simp  at *; omega) | (refine scb ?_; simp_all ; done) | (refine scb ?_; simp_all  <;> omega) | (simp_all ; omega)))
       all_goals (rw [hT])

theorem c_impl_MayWait (p : Prog) (g : Gor) : FnC Tryz.prog TA false 176 [.agg (eProgI p), .agg (eGorI g)] [] (.sc (.bool (mayWaitP p g))) [] := by
 refine .ini Tryz.ntmps176 Tryz.results176 ?_; refine .seq (.region ?_); (iterate 2 refine .o ?_); refine .o (.nil (.xseq (.seq (.seq (.region ?_))))); refine .o ?_; refine .o ?_
 refine .cl (c_impl_GorOk _ _) ?_; refine .o (.nil (.xseq ?_)); refine .cs (fun h0 => ?_) (fun h0 => ?_)
 · refine .seq (.region ?_); refine .o (.nil (.xseq (.ret (.rseq (.done ?_))))); refine .mk ?_; (try simp only [Hb_iff, Bool.not_eq_true', Bool.not_eq_false'] at *)
   all_goals ((first | (simp [mayWaitP, *]; done) | (simp at *; simp [mayWaitP, *]; done) | (simp at *; simp [mayWaitP, *]; omega) | (simp_all [mayWaitP]; done) | (refine scb ?_; simp [mayWaitP] at *; omega) | (refine scb ?_; simp_all [mayWaitP]; done) | (refine scb ?_; simp_all [mayWaitP] <;> omega) | (simp_all [mayWaitP]; omega)))
 · have hgk : gorOkP p g = true := by (simp at *; simp [*])
   have hat := atOk (gor_split hgk).1 (gor_split hgk).2; have hs := hat.sel; refine .skip (.xseq (.seq (.region ?_))); refine .o ?_; refine .o ?_; refine .cl (c_impl_instr p g hat) ?_
   refine .o ?_; refine .o (.nil (.xseq (.seq (.region ?_)))); (iterate 3 refine .o ?_); refine .o ?_; refine .sp 16 (fun s0 => ?_) (fun s0 => ?_)
   · (iterate 24 refine .o ?_); refine .o (.nil (.xseq (.ret (.done ?_)))); refine .mk ?_; (try simp only [Hb_iff, Bool.not_eq_true', Bool.not_eq_false'] at *)
     all_goals (rw [mayWaitP, hgk, Bool.true_and]; unfold mayP; simp only []; clear hat hs hgk; (first | (simp [*]; done) | (simp at *; simp [*]; done) | (simp at *; simp [*]; omega) | (simp_all ; done) | (refine scb ?_; simp  at *; omega) | (refine scb ?_; simp_all ; done) | (refine scb ?_; simp_all  <;> omega) | (simp_all ; omega)))
   · (iterate 4 refine .o ?_); refine .o ?_; refine .sp 21 (fun s1 => ?_) (fun s1 => ?_)
     · (iterate 19 refine .o ?_); refine .o (.nil (.xseq (.ret (.done ?_)))); refine .mk ?_; (try simp only [Hb_iff, Bool.not_eq_true', Bool.not_eq_false'] at *)
       all_goals (rw [mayWaitP, hgk, Bool.true_and]; unfold mayP; simp only []; clear hat hs hgk; (first | (simp [*]; done) | (simp at *; simp [*]; done) | (simp at *; simp [*]; omega) | (simp_all ; done) | (refine scb ?_; simp  at *; omega) | (refine scb ?_; simp_all ; done) | (refine scb ?_; simp_all  <;> omega) | (simp_all ; omega)))
     · (iterate 4 refine .o ?_); refine .o ?_; refine .sp 26 (fun s2 => ?_) (fun s2 => ?_)
       · (iterate 14 refine .o ?_); refine .o (.nil (.xseq (.ret (.done ?_)))); refine .mk ?_; (try simp only [Hb_iff, Bool.not_eq_true', Bool.not_eq_false'] at *)
         all_goals (rw [mayWaitP, hgk, Bool.true_and]; unfold mayP; simp only []; clear hat hs hgk; (first | (simp [*]; done) | (simp at *; simp [*]; done) | (simp at *; simp [*]; omega) | (simp_all ; done) | (refine scb ?_; simp  at *; omega) | (refine scb ?_; simp_all ; done) | (refine scb ?_; simp_all  <;> omega) | (simp_all ; omega)))
       · (iterate 3 refine .o ?_); refine .o ?_; refine .sp 30 (fun s3 => ?_) (fun s3 => ?_)
         · obtain ⟨hs1, hs2, hs3⟩ := hs (by simp at *; assumption); have hels := selectOk_els (show selectOkP p 40 _ = true by simp [selTopOkP] at hs3; exact hs3.2)
           (iterate 10 refine .o ?_); refine .o (.nil (.xseq (.ret (.done ?_)))); refine .mk ?_; (try simp only [Hb_iff, Bool.not_eq_true', Bool.not_eq_false'] at *)
           all_goals (rw [mayWaitP, hgk, Bool.true_and]; unfold mayP; simp only []; clear hat hs hgk; (first | (simp [*]; done) | (simp at *; simp [*]; done) | (simp at *; simp [*]; omega) | (simp_all ; done) | (refine scb ?_; simp  at *; omega) | (refine scb ?_; simp_all ; done) | (refine scb ?_; simp_all  <;> omega) | (simp_all ; omega)))
         · (iterate 10 refine .o ?_); refine .o (.nil (.xseq (.ret (.done ?_)))); refine .mk ?_; (try simp only [Hb_iff, Bool.not_eq_true', Bool.not_eq_false'] at *)
           all_goals (rw [mayWaitP, hgk, Bool.true_and]; unfold mayP; simp only []; clear hat hs hgk; (first | (simp [*]; done) | (simp at *; simp [*]; done) | (simp at *; simp [*]; omega) | (simp_all ; done) | (refine scb ?_; simp  at *; omega) | (refine scb ?_; simp_all ; done) | (refine scb ?_; simp_all  <;> omega) | (simp_all ; omega)))

theorem c_impl_waiterOk (w : Waiter) : FnC Tryz.prog TA false 284 [.agg (eWaiter w)] [] (.sc (.bool (waiterOkP true w))) [] := by
 refine .ini Tryz.ntmps284 Tryz.results284 ?_; refine .seq (.region ?_); refine .o ?_; refine .o (.nil (.xseq (.seq (.region ?_)))); (iterate 3 refine .o ?_); refine .o ?_
 refine .sp 6 (fun s0 => ?_) (fun s0 => ?_)
 · (iterate 4 refine .o ?_); refine .o ?_; refine .sp 11 (fun s1 => ?_) (fun s1 => ?_)
   · refine .o ?_; refine .o ?_; refine .cl (c_impl_isVal _) ?_; refine .o ?_; refine .o (.nil (.xseq (.ret (.done ?_)))); refine .mk ?_
     (try simp only [Hb_iff, Bool.not_eq_true', Bool.not_eq_false'] at *)
     all_goals ((first | (simp [waiterOkP, *]; done) | (simp at *; simp [waiterOkP, *]; done) | (simp at *; simp [waiterOkP, *]; omega) | (simp_all [waiterOkP]; done) | (refine scb ?_; simp [waiterOkP] at *; omega) | (refine scb ?_; simp_all [waiterOkP]; done) | (refine scb ?_; simp_all [waiterOkP] <;> omega) | (simp_all [waiterOkP]; omega)))
   · (iterate 4 refine .o ?_); refine .o (.nil (.xseq (.ret (.done ?_)))); refine .mk ?_; (try simp only [Hb_iff, Bool.not_eq_true', Bool.not_eq_false'] at *)
     all_goals ((first | (simp [waiterOkP, *]; done) | (simp at *; simp [waiterOkP, *]; done) | (simp at *; simp [waiterOkP, *]; omega) | (simp_all [waiterOkP]; done) | (refine scb ?_; simp [waiterOkP] at *; omega) | (refine scb ?_; simp_all [waiterOkP]; done) | (refine scb ?_; simp_all [waiterOkP] <;> omega) | (simp_all [waiterOkP]; omega)))
 · (iterate 9 refine .o ?_); refine .o (.nil (.xseq (.ret (.done ?_)))); refine .mk ?_; (try simp only [Hb_iff, Bool.not_eq_true', Bool.not_eq_false'] at *)
   all_goals ((first | (simp [waiterOkP, *]; done) | (simp at *; simp [waiterOkP, *]; done) | (simp at *; simp [waiterOkP, *]; omega) | (simp_all [waiterOkP]; done) | (refine scb ?_; simp [waiterOkP] at *; omega) | (refine scb ?_; simp_all [waiterOkP]; done) | (refine scb ?_; simp_all [waiterOkP] <;> omega) | (simp_all [waiterOkP]; omega)))

theorem c_impl_ChanOk (c : Chan) : FnC Tryz.prog TA false 177 [.agg (eChanI c)] [] (.sc (.bool (chanOkP c))) [] := by
 refine .ini Tryz.ntmps177 Tryz.results177 ?_; refine .seq (.region ?_); refine .o ?_; refine .o (.nil (.xseq (.seq (.seq (.region ?_))))); (iterate 3 refine .o ?_); refine .o ?_
 refine .sp 10 (fun s0 => ?_) (fun s0 => ?_)
 · (iterate 16 refine .o ?_); refine .o (.nil (.xseq ?_)); refine .cT (.seq (.region ?_)); refine .o (.nil (.xseq (.ret (.rseq (.done ?_))))); refine .mk ?_
   (try simp only [Hb_iff, Bool.not_eq_true', Bool.not_eq_false'] at *)
   all_goals (first | (simp only [any_val, Bool.not_eq_true'] at h0; simp [chanOkP, h0]; done) | (first | (simp [chanOkP, *]; done) | (simp at *; simp [chanOkP, *]; done) | (simp at *; simp [chanOkP, *]; omega) | (simp_all [chanOkP]; done) | (refine scb ?_; simp [chanOkP] at *; omega) | (refine scb ?_; simp_all [chanOkP]; done) | (refine scb ?_; simp_all [chanOkP] <;> omega) | (simp_all [chanOkP]; omega)))
 · (iterate 4 refine .o ?_); refine .o ?_; refine .sp 15 (fun s1 => ?_) (fun s1 => ?_)
   · (iterate 11 refine .o ?_); refine .o (.nil (.xseq ?_)); refine .cT (.seq (.region ?_)); refine .o (.nil (.xseq (.ret (.rseq (.done ?_))))); refine .mk ?_
     (try simp only [Hb_iff, Bool.not_eq_true', Bool.not_eq_false'] at *)
     all_goals (first | (simp only [any_val, Bool.not_eq_true'] at h0; simp [chanOkP, h0]; done) | (first | (simp [chanOkP, *]; done) | (simp at *; simp [chanOkP, *]; done) | (simp at *; simp [chanOkP, *]; omega) | (simp_all [chanOkP]; done) | (refine scb ?_; simp [chanOkP] at *; omega) | (refine scb ?_; simp_all [chanOkP]; done) | (refine scb ?_; simp_all [chanOkP] <;> omega) | (simp_all [chanOkP]; omega)))
   · (iterate 7 refine .o ?_); refine .o ?_; refine .sp 23 (fun s2 => ?_) (fun s2 => ?_)
     · (iterate 3 refine .o ?_); refine .o (.nil (.xseq ?_)); refine .cT (.seq (.region ?_)); refine .o (.nil (.xseq (.ret (.rseq (.done ?_))))); refine .mk ?_
       (try simp only [Hb_iff, Bool.not_eq_true', Bool.not_eq_false'] at *)
       all_goals (first | (simp only [any_val, Bool.not_eq_true'] at h0; simp [chanOkP, h0]; done) | (first | (simp [chanOkP, *]; done) | (simp at *; simp [chanOkP, *]; done) | (simp at *; simp [chanOkP, *]; omega) | (simp_all [chanOkP]; done) | (refine scb ?_; simp [chanOkP] at *; omega) | (refine scb ?_; simp_all [chanOkP]; done) | (refine scb ?_; simp_all [chanOkP] <;> omega) | (simp_all [chanOkP]; omega)))
     · refine .o ?_; refine .o ?_; refine .cl (c_slices_ContainsFunc_int_int _ _ _ c_impl_ChanOk_1) ?_; refine .o (.nil (.xseq ?_)); refine .cs (fun h0 => ?_) (fun h0 => ?_)
       · refine .seq (.region ?_); refine .o (.nil (.xseq (.ret (.rseq (.done ?_))))); refine .mk ?_; (try simp only [Hb_iff, Bool.not_eq_true', Bool.not_eq_false'] at *)
         all_goals (first | (simp only [any_val, Bool.not_eq_true'] at h0; simp [chanOkP, h0]; done) | (first | (simp [chanOkP, *]; done) | (simp at *; simp [chanOkP, *]; done) | (simp at *; simp [chanOkP, *]; omega) | (simp_all [chanOkP]; done) | (refine scb ?_; simp [chanOkP] at *; omega) | (refine scb ?_; simp_all [chanOkP]; done) | (refine scb ?_; simp_all [chanOkP] <;> omega) | (simp_all [chanOkP]; omega)))
       · have hav : c.buf.all isValP = true := by (simp only [Hb_iff, any_val, Bool.not_eq_false'] at h0; exact h0)
         clear h0; refine .skip (.xseq (.seq (.seq (.region ?_)))); (iterate 3 refine .o ?_); refine .o (.nil (.xseq (.block (.loop ?_)))); refine .bound 29 rfl fun hb0 => ?_
         simp only [List.length_map, mxl] at hb0
         refine .rng [1, 29, 30, 31] (fun i => [(31, .sc (.int .i64 (i : Nat)))]) (fun i => []) (fun i => (c.sends.take i).all (waiterOkP true) = true) (c.sends.length) (by first | rfl | simp) (fun i hi0 hH0 ih0 => ?_)
         refine .seq (.region ?_); refine .o (.nil (.xseq (.seq ?_))); refine .cs (fun h1 => ?_) (fun h1 => ?_)
         · have hlt0 : i < c.sends.length := by simpa using h1
           obtain ⟨x, hx0, hd0⟩ := drop_cons hlt0; have hn0 : (0 : Int) ≤ (i : Int) := Int.natCast_nonneg i
           have hw0 : IntKind.i64.wrap ((i : Int) + 1) = ((i + 1 : Nat) : Int) := by rw [w64 (by omega) (by omega)]; rfl
           refine .skip (.xseq (.seq (.block (.seq (.region ?_))))); (iterate 3 refine .o ?_); refine .o (.nil (.xseq (.seq (.region ?_)))); refine .o ?_; refine .cl (c_impl_waiterOk _) ?_
           refine .o (.nil (.xseq ?_)); refine .cs (fun h2 => ?_) (fun h2 => ?_)
           · refine .seq (.region ?_); refine .o (.nil (.xseq (.ret (.rblk (.rseq (.rlp (.rblk (.rseq (.done ?_))))))))); refine .mk ?_; clear ih0
             (try simp only [Hb_iff, Bool.not_eq_true', Bool.not_eq_false'] at *)
             have hF := all_no (f := waiterOkP true) hx0 (by clear hH0; (first | (simp [*]; done) | (simp at *; simp [*]; done) | (simp at *; simp [*]; omega) | (simp_all ; done) | (refine scb ?_; simp  at *; omega) | (refine scb ?_; simp_all ; done) | (refine scb ?_; simp_all  <;> omega) | (simp_all ; omega)))
             all_goals (simp only [chanOkP, hF, Bool.and_false, Bool.false_and])
           · refine .skip (.xblk (.xseq (.region ?_))); refine .o ?_; refine .o (.nil ?_); refine .xlp (.back [1, 29, 30, 31] (ih0 (by assumption) ?_)); clear ih0
             (try simp only [Hb_iff, Bool.not_eq_true', Bool.not_eq_false'] at *)
             exact all_step hx0 hH0 (by clear hH0; (first | (simp [*]; done) | (simp at *; simp [*]; done) | (simp at *; simp [*]; omega) | (simp_all ; done) | (refine scb ?_; simp  at *; omega) | (refine scb ?_; simp_all ; done) | (refine scb ?_; simp_all  <;> omega) | (simp_all ; omega)))
         · have hge0 : c.sends.length ≤ i := by simpa using h1
           clear ih0; have k1 := all_yes hH0 hge0; clear hH0 hge0; refine .exit (.eseq (.elp (.eblk (.xseq (.seq (.seq (.region ?_))))))); (iterate 3 refine .o ?_)
           refine .o (.nil (.xseq (.block (.loop ?_)))); refine .bound 40 rfl fun hb1 => ?_; simp only [List.length_map, mxl] at hb1
           refine .rng [1, 40, 41, 42] (fun i => [(42, .sc (.int .i64 (i : Nat)))]) (fun i => []) (fun i => (c.recvs.take i).all (waiterOkP false) = true) (c.recvs.length) (by first | rfl | simp) (fun i hi1 hH1 ih1 => ?_)
           refine .seq (.region ?_); refine .o (.nil (.xseq (.seq ?_))); refine .cs (fun h3 => ?_) (fun h3 => ?_)
           · have hlt1 : i < c.recvs.length := by simpa using h3
             obtain ⟨x, hx1, hd1⟩ := drop_cons hlt1; have hn1 : (0 : Int) ≤ (i : Int) := Int.natCast_nonneg i
             have hw1 : IntKind.i64.wrap ((i : Int) + 1) = ((i + 1 : Nat) : Int) := by rw [w64 (by omega) (by omega)]; rfl
             refine .skip (.xseq (.seq (.block (.seq (.region ?_))))); (iterate 3 refine .o ?_); refine .o (.nil (.xseq (.seq (.region ?_)))); refine .o ?_; refine .cl (c_impl_waiterOk _) ?_
             refine .o ?_; refine .o ?_; refine .sp 49 (fun s3 => ?_) (fun s3 => ?_)
             · (iterate 3 refine .o ?_); refine .o (.nil (.xseq ?_)); refine .cT (.seq (.region ?_)); refine .o (.nil (.xseq (.ret (.rblk (.rseq (.rlp (.rblk (.rseq (.done ?_)))))))))
               refine .mk ?_; clear ih1; (try simp only [Hb_iff, Bool.not_eq_true', Bool.not_eq_false'] at *)
               have hF := all_no (f := waiterOkP false) hx1 (by clear hH1; (first | (simp [waiterOkP, *]; done) | (simp at *; simp [waiterOkP, *]; done) | (simp at *; simp [waiterOkP, *]; omega) | (simp_all [waiterOkP]; done) | (refine scb ?_; simp [waiterOkP] at *; omega) | (refine scb ?_; simp_all [waiterOkP]; done) | (refine scb ?_; simp_all [waiterOkP] <;> omega) | (simp_all [waiterOkP]; omega)))
               all_goals (simp only [chanOkP, hF, Bool.and_false, Bool.false_and])
             · (iterate 3 refine .o ?_); refine .o (.nil (.xseq ?_)); refine .cs (fun h4 => ?_) (fun h4 => ?_)
               · refine .seq (.region ?_); refine .o (.nil (.xseq (.ret (.rblk (.rseq (.rlp (.rblk (.rseq (.done ?_))))))))); refine .mk ?_; clear ih1
                 (try simp only [Hb_iff, Bool.not_eq_true', Bool.not_eq_false'] at *)
                 have hF := all_no (f := waiterOkP false) hx1 (by clear hH1; (first | (simp [waiterOkP, *]; done) | (simp at *; simp [waiterOkP, *]; done) | (simp at *; simp [waiterOkP, *]; omega) | (simp_all [waiterOkP]; done) | (refine scb ?_; simp [waiterOkP] at *; omega) | (refine scb ?_; simp_all [waiterOkP]; done) | (refine scb ?_; simp_all [waiterOkP] <;> omega) | (simp_all [waiterOkP]; omega)))
                 all_goals (simp only [chanOkP, hF, Bool.and_false, Bool.false_and])
               · refine .skip (.xblk (.xseq (.region ?_))); refine .o ?_; refine .o (.nil ?_); refine .xlp (.back [1, 40, 41, 42] (ih1 (by assumption) ?_)); clear ih1
                 (try simp only [Hb_iff, Bool.not_eq_true', Bool.not_eq_false'] at *)
                 exact all_step hx1 hH1 (by clear hH1; (first | (simp [waiterOkP, *]; done) | (simp at *; simp [waiterOkP, *]; done) | (simp at *; simp [waiterOkP, *]; omega) | (simp_all [waiterOkP]; done) | (refine scb ?_; simp [waiterOkP] at *; omega) | (refine scb ?_; simp_all [waiterOkP]; done) | (refine scb ?_; simp_all [waiterOkP] <;> omega) | (simp_all [waiterOkP]; omega)))
           · have hge1 : c.recvs.length ≤ i := by simpa using h3
             clear ih1; have k2 := all_yes hH1 hge1; clear hH1 hge1; refine .exit (.eseq (.elp (.eblk (.xseq (.seq (.seq (.region ?_))))))); (iterate 4 refine .o ?_); refine .o ?_
             refine .sp 59 (fun s4 => ?_) (fun s4 => ?_)
             · (iterate 6 refine .o ?_); refine .o ?_; refine .sp 66 (fun s5 => ?_) (fun s5 => ?_)
               · (iterate 9 refine .o ?_); refine .o (.nil (.xseq ?_)); refine .cT (.seq (.region ?_)); refine .o (.nil (.xseq (.ret (.rseq (.done ?_))))); refine .mk ?_
                 (try simp only [Hb_iff, Bool.not_eq_true', Bool.not_eq_false'] at *); all_goals (unfold chanOkP; rw [hav, k1, k2]; clear hav k1 k2)
                 all_goals (generalize c.closed = cl at *; cases cl <;> (first | (simp [*]; done) | (simp at *; simp [*]; done) | (simp at *; simp [*]; omega) | (simp_all ; done) | (refine scb ?_; simp  at *; omega) | (refine scb ?_; simp_all ; done) | (refine scb ?_; simp_all  <;> omega) | (simp_all ; omega)))
               · (iterate 5 refine .o ?_); refine .o ?_; refine .sp 72 (fun s6 => ?_) (fun s6 => ?_)
                 · (iterate 3 refine .o ?_); refine .o (.nil (.xseq ?_)); refine .cT (.seq (.region ?_)); refine .o (.nil (.xseq (.ret (.rseq (.done ?_))))); refine .mk ?_
                   (try simp only [Hb_iff, Bool.not_eq_true', Bool.not_eq_false'] at *); all_goals (unfold chanOkP; rw [hav, k1, k2]; clear hav k1 k2)
                   all_goals (generalize c.closed = cl at *; cases cl <;> (first | (simp [*]; done) | (simp at *; simp [*]; done) | (simp at *; simp [*]; omega) | (simp_all ; done) | (refine scb ?_; simp  at *; omega) | (refine scb ?_; simp_all ; done) | (refine scb ?_; simp_all  <;> omega) | (simp_all ; omega)))
                 · (iterate 3 refine .o ?_); refine .o (.nil (.xseq ?_)); refine .cs (fun h5 => ?_) (fun h5 => ?_)
                   · refine .seq (.region ?_); refine .o (.nil (.xseq (.ret (.rseq (.done ?_))))); refine .mk ?_; (try simp only [Hb_iff, Bool.not_eq_true', Bool.not_eq_false'] at *)
                     all_goals (unfold chanOkP; rw [hav, k1, k2]; clear hav k1 k2)
                     all_goals (generalize c.closed = cl at *; cases cl <;> (first | (simp [*]; done) | (simp at *; simp [*]; done) | (simp at *; simp [*]; omega) | (simp_all ; done) | (refine scb ?_; simp  at *; omega) | (refine scb ?_; simp_all ; done) | (refine scb ?_; simp_all  <;> omega) | (simp_all ; omega)))
                   · refine .skip (.xseq (.seq (.region ?_))); (iterate 4 refine .o ?_); refine .o ?_; refine .sp 81 (fun s7 => ?_) (fun s7 => ?_)
                     · (iterate 10 refine .o ?_); refine .o (.nil (.xseq (.ret (.done ?_)))); refine .mk ?_; (try simp only [Hb_iff, Bool.not_eq_true', Bool.not_eq_false'] at *)
                       all_goals (unfold chanOkP; rw [hav, k1, k2]; clear hav k1 k2)
                       all_goals (generalize c.closed = cl at *; cases cl <;> (first | (simp [*]; done) | (simp at *; simp [*]; done) | (simp at *; simp [*]; omega) | (simp_all ; done) | (refine scb ?_; simp  at *; omega) | (refine scb ?_; simp_all ; done) | (refine scb ?_; simp_all  <;> omega) | (simp_all ; omega)))
                     · (iterate 4 refine .o ?_); refine .o ?_; refine .sp 86 (fun s8 => ?_) (fun s8 => ?_)
                       · (iterate 5 refine .o ?_); refine .o (.nil (.xseq (.ret (.done ?_)))); refine .mk ?_; (try simp only [Hb_iff, Bool.not_eq_true', Bool.not_eq_false'] at *)
                         all_goals (unfold chanOkP; rw [hav, k1, k2]; clear hav k1 k2)
                         all_goals (generalize c.closed = cl at *; cases cl <;> (first | (simp [*]; done) | (simp at *; simp [*]; done) | (simp at *; simp [*]; omega) | (simp_all ; done) | (refine scb ?_; simp  at *; omega) | (refine scb ?_; simp_all ; done) | (refine scb ?_; simp_all  <;> omega) | (simp_all ; omega)))
                       · (iterate 5 refine .o ?_); refine .o (.nil (.xseq (.ret (.done ?_)))); refine .mk ?_; (try simp only [Hb_iff, Bool.not_eq_true', Bool.not_eq_false'] at *)
                         all_goals (unfold chanOkP; rw [hav, k1, k2]; clear hav k1 k2)
                         all_goals (generalize c.closed = cl at *; cases cl <;> (first | (simp [*]; done) | (simp at *; simp [*]; done) | (simp at *; simp [*]; omega) | (simp_all ; done) | (refine scb ?_; simp  at *; omega) | (refine scb ?_; simp_all ; done) | (refine scb ?_; simp_all  <;> omega) | (simp_all ; omega)))
             · (iterate 16 refine .o ?_); refine .o (.nil (.xseq ?_)); refine .cF (.skip (.xseq (.seq (.region ?_)))); (iterate 4 refine .o ?_); refine .o ?_
               refine .sp 81 (fun s9 => ?_) (fun s9 => ?_)
               · (iterate 10 refine .o ?_); refine .o (.nil (.xseq (.ret (.done ?_)))); refine .mk ?_; (try simp only [Hb_iff, Bool.not_eq_true', Bool.not_eq_false'] at *)
                 all_goals (unfold chanOkP; rw [hav, k1, k2]; clear hav k1 k2)
                 all_goals (generalize c.closed = cl at *; cases cl <;> (first | (simp [*]; done) | (simp at *; simp [*]; done) | (simp at *; simp [*]; omega) | (simp_all ; done) | (refine scb ?_; simp  at *; omega) | (refine scb ?_; simp_all ; done) | (refine scb ?_; simp_all  <;> omega) | (simp_all ; omega)))
               · (iterate 4 refine .o ?_); refine .o ?_; refine .sp 86 (fun s10 => ?_) (fun s10 => ?_)
                 · (iterate 5 refine .o ?_); refine .o (.nil (.xseq (.ret (.done ?_)))); refine .mk ?_; (try simp only [Hb_iff, Bool.not_eq_true', Bool.not_eq_false'] at *)
                   all_goals (unfold chanOkP; rw [hav, k1, k2]; clear hav k1 k2)
                   all_goals (generalize c.closed = cl at *; cases cl <;> (first | (simp [*]; done) | (simp at *; simp [*]; done) | (simp at *; simp [*]; omega) | (simp_all ; done) | (refine scb ?_; simp  at *; omega) | (refine scb ?_; simp_all ; done) | (refine scb ?_; simp_all  <;> omega) | (simp_all ; omega)))
                 · (iterate 5 refine .o ?_); refine .o (.nil (.xseq (.ret (.done ?_)))); refine .mk ?_; (try simp only [Hb_iff, Bool.not_eq_true', Bool.not_eq_false'] at *)
                   all_goals (unfold chanOkP; rw [hav, k1, k2]; clear hav k1 k2)
                   all_goals (generalize c.closed = cl at *; cases cl <;> (first | (simp [*]; done) | (simp at *; simp [*]; done) | (simp at *; simp [*]; omega) | (simp_all ; done) | (refine scb ?_; simp  at *; omega) | (refine scb ?_; simp_all ; done) | (refine scb ?_; simp_all  <;> omega) | (simp_all ; omega)))

theorem c_impl_MutexOk (m : Mutex) : FnC Tryz.prog TA false 178 [.agg (eMutexI m)] [] (.sc (.bool (mutexOkP m))) [] := by
 refine .ini Tryz.ntmps178 Tryz.results178 ?_; refine .seq (.region ?_); refine .o ?_; refine .o (.nil (.xseq (.seq (.seq (.region ?_))))); (iterate 3 refine .o ?_); refine .o ?_
 refine .sp 8 (fun s0 => ?_) (fun s0 => ?_)
 · (iterate 9 refine .o ?_); refine .o (.nil (.xseq ?_)); refine .cT (.seq (.region ?_)); refine .o (.nil (.xseq (.ret (.rseq (.done ?_))))); refine .mk ?_
   (try simp only [Hb_iff, Bool.not_eq_true', Bool.not_eq_false'] at *)
   all_goals ((first | (simp [mutexOkP, *]; done) | (simp at *; simp [mutexOkP, *]; done) | (simp at *; simp [mutexOkP, *]; omega) | (simp_all [mutexOkP]; done) | (refine scb ?_; simp [mutexOkP] at *; omega) | (refine scb ?_; simp_all [mutexOkP]; done) | (refine scb ?_; simp_all [mutexOkP] <;> omega) | (simp_all [mutexOkP]; omega)))
 · (iterate 3 refine .o ?_); refine .o ?_; refine .sp 12 (fun s1 => ?_) (fun s1 => ?_)
   · (iterate 5 refine .o ?_); refine .o (.nil (.xseq ?_)); refine .cs (fun h0 => ?_) (fun h0 => ?_)
     · refine .seq (.region ?_); refine .o (.nil (.xseq (.ret (.rseq (.done ?_))))); refine .mk ?_; (try simp only [Hb_iff, Bool.not_eq_true', Bool.not_eq_false'] at *)
       all_goals ((first | (simp [mutexOkP, *]; done) | (simp at *; simp [mutexOkP, *]; done) | (simp at *; simp [mutexOkP, *]; omega) | (simp_all [mutexOkP]; done) | (refine scb ?_; simp [mutexOkP] at *; omega) | (refine scb ?_; simp_all [mutexOkP]; done) | (refine scb ?_; simp_all [mutexOkP] <;> omega) | (simp_all [mutexOkP]; omega)))
     · refine .skip (.xseq (.seq (.seq (.region ?_)))); (iterate 3 refine .o ?_); refine .o (.nil (.xseq (.block (.loop ?_)))); refine .bound 20 rfl fun hb0 => ?_
       simp only [List.length_map, mxl] at hb0
       refine .rng [1, 20, 21, 22] (fun i => [(22, .sc (.int .i64 (i : Nat)))]) (fun i => []) (fun i => waitGoP m.owner [] m.wait = waitGoP m.owner (m.wait.take i) (m.wait.drop i)) (m.wait.length) (by first | rfl | simp) (fun i hi0 hH0 ih0 => ?_)
       refine .seq (.region ?_); refine .o (.nil (.xseq (.seq ?_))); refine .cs (fun h1 => ?_) (fun h1 => ?_)
       · have hlt0 : i < m.wait.length := by simpa using h1
         obtain ⟨x, hx0, hd0⟩ := drop_cons hlt0; have hn0 : (0 : Int) ≤ (i : Int) := Int.natCast_nonneg i
         have hw0 : IntKind.i64.wrap ((i : Int) + 1) = ((i + 1 : Nat) : Int) := by rw [w64 (by omega) (by omega)]; rfl
         refine .skip (.xseq (.seq (.block (.seq (.region ?_))))); (iterate 4 refine .o ?_); refine .o (.nil (.xseq (.seq (.region ?_)))); (iterate 2 refine .o ?_); refine .o ?_
         refine .sp 29 (fun s2 => ?_) (fun s2 => ?_)
         · (iterate 12 refine .o ?_); refine .o (.nil (.xseq ?_)); refine .cT (.seq (.region ?_)); refine .o (.nil (.xseq (.ret (.rblk (.rseq (.rlp (.rblk (.rseq (.done ?_)))))))))
           refine .mk ?_; clear ih0; (try simp only [Hb_iff, Bool.not_eq_true', Bool.not_eq_false'] at *)
           all_goals (unfold mutexOkP; rw [hH0, hd0]; clear hH0; (first | (simp [waitGoP, *]; done) | (simp at *; simp [waitGoP, *]; done) | (simp at *; simp [waitGoP, *]; omega) | (simp_all [waitGoP]; done) | (refine scb ?_; simp [waitGoP] at *; omega) | (refine scb ?_; simp_all [waitGoP]; done) | (refine scb ?_; simp_all [waitGoP] <;> omega) | (simp_all [waitGoP]; omega)))
         · (iterate 5 refine .o ?_); refine .o ?_; refine .sp 35 (fun s3 => ?_) (fun s3 => ?_)
           · (iterate 6 refine .o ?_); refine .o (.nil (.xseq ?_)); refine .cT (.seq (.region ?_)); refine .o (.nil (.xseq (.ret (.rblk (.rseq (.rlp (.rblk (.rseq (.done ?_)))))))))
             refine .mk ?_; clear ih0; (try simp only [Hb_iff, Bool.not_eq_true', Bool.not_eq_false'] at *)
             all_goals (unfold mutexOkP; rw [hH0, hd0]; clear hH0; (first | (simp [waitGoP, *]; done) | (simp at *; simp [waitGoP, *]; done) | (simp at *; simp [waitGoP, *]; omega) | (simp_all [waitGoP]; done) | (refine scb ?_; simp [waitGoP] at *; omega) | (refine scb ?_; simp_all [waitGoP]; done) | (refine scb ?_; simp_all [waitGoP] <;> omega) | (simp_all [waitGoP]; omega)))
           · (iterate 4 refine .o ?_); refine .o ?_; refine .cl (c_slices_Contains_int_int _ _) ?_; refine .o (.nil (.xseq ?_)); refine .cs (fun h2 => ?_) (fun h2 => ?_)
             · refine .seq (.region ?_); refine .o (.nil (.xseq (.ret (.rblk (.rseq (.rlp (.rblk (.rseq (.done ?_))))))))); refine .mk ?_; clear ih0
               (try simp only [Hb_iff, Bool.not_eq_true', Bool.not_eq_false'] at *)
               all_goals (unfold mutexOkP; rw [hH0, hd0]; clear hH0; (first | (simp [waitGoP, *]; done) | (simp at *; simp [waitGoP, *]; done) | (simp at *; simp [waitGoP, *]; omega) | (simp_all [waitGoP]; done) | (refine scb ?_; simp [waitGoP] at *; omega) | (refine scb ?_; simp_all [waitGoP]; done) | (refine scb ?_; simp_all [waitGoP] <;> omega) | (simp_all [waitGoP]; omega)))
             · refine .skip (.xblk (.xseq (.region ?_))); refine .o ?_; refine .o (.nil ?_); refine .xlp (.back [1, 20, 21, 22] (ih0 (by assumption) ?_)); clear ih0
               (try simp only [Hb_iff, Bool.not_eq_true', Bool.not_eq_false'] at *)
               rw [hH0, hd0, take_snoc hx0]; clear hH0; (first | (simp [waitGoP, *]; done) | (simp at *; simp [waitGoP, *]; done) | (simp at *; simp [waitGoP, *]; omega) | (simp_all [waitGoP]; done) | (refine scb ?_; simp [waitGoP] at *; omega) | (refine scb ?_; simp_all [waitGoP]; done) | (refine scb ?_; simp_all [waitGoP] <;> omega) | (simp_all [waitGoP]; omega))
       · have hge0 : m.wait.length ≤ i := by simpa using h1
         clear ih0; refine .exit (.eseq (.elp (.eblk (.xseq (.seq (.region ?_)))))); refine .o (.nil (.xseq (.ret (.done ?_)))); refine .mk ?_
         (try simp only [Hb_iff, Bool.not_eq_true', Bool.not_eq_false'] at *)
         all_goals (unfold mutexOkP; rw [hH0, List.drop_of_length_le hge0]; clear hH0; (first | (simp [waitGoP, *]; done) | (simp at *; simp [waitGoP, *]; done) | (simp at *; simp [waitGoP, *]; omega) | (simp_all [waitGoP]; done) | (refine scb ?_; simp [waitGoP] at *; omega) | (refine scb ?_; simp_all [waitGoP]; done) | (refine scb ?_; simp_all [waitGoP] <;> omega) | (simp_all [waitGoP]; omega)))
   · (iterate 5 refine .o ?_); refine .o (.nil (.xseq ?_)); refine .cF (.skip (.xseq (.seq (.seq (.region ?_))))); (iterate 3 refine .o ?_); refine .o (.nil (.xseq (.block (.loop ?_))))
     refine .bound 20 rfl fun hb0 => ?_; simp only [List.length_map, mxl] at hb0
     refine .rng [1, 20, 21, 22] (fun i => [(22, .sc (.int .i64 (i : Nat)))]) (fun i => []) (fun i => waitGoP m.owner [] m.wait = waitGoP m.owner (m.wait.take i) (m.wait.drop i)) (m.wait.length) (by first | rfl | simp) (fun i hi0 hH0 ih0 => ?_)
     refine .seq (.region ?_); refine .o (.nil (.xseq (.seq ?_))); refine .cs (fun h3 => ?_) (fun h3 => ?_)
     · have hlt0 : i < m.wait.length := by simpa using h3
       obtain ⟨x, hx0, hd0⟩ := drop_cons hlt0; have hn0 : (0 : Int) ≤ (i : Int) := Int.natCast_nonneg i
       have hw0 : IntKind.i64.wrap ((i : Int) + 1) = ((i + 1 : Nat) : Int) := by rw [w64 (by omega) (by omega)]; rfl
       refine .skip (.xseq (.seq (.block (.seq (.region ?_))))); (iterate 4 refine .o ?_); refine .o (.nil (.xseq (.seq (.region ?_)))); (iterate 2 refine .o ?_); refine .o ?_
       refine .sp 29 (fun s4 => ?_) (fun s4 => ?_)
       · (iterate 12 refine .o ?_); refine .o (.nil (.xseq ?_)); refine .cT (.seq (.region ?_)); refine .o (.nil (.xseq (.ret (.rblk (.rseq (.rlp (.rblk (.rseq (.done ?_)))))))))
         refine .mk ?_; clear ih0; (try simp only [Hb_iff, Bool.not_eq_true', Bool.not_eq_false'] at *)
         all_goals (unfold mutexOkP; rw [hH0, hd0]; clear hH0; (first | (simp [waitGoP, *]; done) | (simp at *; simp [waitGoP, *]; done) | (simp at *; simp [waitGoP, *]; omega) | (simp_all [waitGoP]; done) | (refine scb ?_; simp [waitGoP] at *; omega) | (refine scb ?_; simp_all [waitGoP]; done) | (refine scb ?_; simp_all [waitGoP] <;> omega) | (simp_all [waitGoP]; omega)))
       · (iterate 5 refine .o ?_); refine .o ?_; refine .sp 35 (fun s5 => ?_) (fun s5 => ?_)
         · (iterate 6 refine .o ?_); refine .o (.nil (.xseq ?_)); refine .cT (.seq (.region ?_)); refine .o (.nil (.xseq (.ret (.rblk (.rseq (.rlp (.rblk (.rseq (.done ?_)))))))))
           refine .mk ?_; clear ih0; (try simp only [Hb_iff, Bool.not_eq_true', Bool.not_eq_false'] at *)
           all_goals (unfold mutexOkP; rw [hH0, hd0]; clear hH0; (first | (simp [waitGoP, *]; done) | (simp at *; simp [waitGoP, *]; done) | (simp at *; simp [waitGoP, *]; omega) | (simp_all [waitGoP]; done) | (refine scb ?_; simp [waitGoP] at *; omega) | (refine scb ?_; simp_all [waitGoP]; done) | (refine scb ?_; simp_all [waitGoP] <;> omega) | (simp_all [waitGoP]; omega)))
         · (iterate 4 refine .o ?_); refine .o ?_; refine .cl (c_slices_Contains_int_int _ _) ?_; refine .o (.nil (.xseq ?_)); refine .cs (fun h4 => ?_) (fun h4 => ?_)
           · refine .seq (.region ?_); refine .o (.nil (.xseq (.ret (.rblk (.rseq (.rlp (.rblk (.rseq (.done ?_))))))))); refine .mk ?_; clear ih0
             (try simp only [Hb_iff, Bool.not_eq_true', Bool.not_eq_false'] at *)
             all_goals (unfold mutexOkP; rw [hH0, hd0]; clear hH0; (first | (simp [waitGoP, *]; done) | (simp at *; simp [waitGoP, *]; done) | (simp at *; simp [waitGoP, *]; omega) | (simp_all [waitGoP]; done) | (refine scb ?_; simp [waitGoP] at *; omega) | (refine scb ?_; simp_all [waitGoP]; done) | (refine scb ?_; simp_all [waitGoP] <;> omega) | (simp_all [waitGoP]; omega)))
           · refine .skip (.xblk (.xseq (.region ?_))); refine .o ?_; refine .o (.nil ?_); refine .xlp (.back [1, 20, 21, 22] (ih0 (by assumption) ?_)); clear ih0
             (try simp only [Hb_iff, Bool.not_eq_true', Bool.not_eq_false'] at *)
             rw [hH0, hd0, take_snoc hx0]; clear hH0; (first | (simp [waitGoP, *]; done) | (simp at *; simp [waitGoP, *]; done) | (simp at *; simp [waitGoP, *]; omega) | (simp_all [waitGoP]; done) | (refine scb ?_; simp [waitGoP] at *; omega) | (refine scb ?_; simp_all [waitGoP]; done) | (refine scb ?_; simp_all [waitGoP] <;> omega) | (simp_all [waitGoP]; omega))
     · have hge0 : m.wait.length ≤ i := by simpa using h3
       clear ih0; refine .exit (.eseq (.elp (.eblk (.xseq (.seq (.region ?_)))))); refine .o (.nil (.xseq (.ret (.done ?_)))); refine .mk ?_
       (try simp only [Hb_iff, Bool.not_eq_true', Bool.not_eq_false'] at *)
       all_goals (unfold mutexOkP; rw [hH0, List.drop_of_length_le hge0]; clear hH0; (first | (simp [waitGoP, *]; done) | (simp at *; simp [waitGoP, *]; done) | (simp at *; simp [waitGoP, *]; omega) | (simp_all [waitGoP]; done) | (refine scb ?_; simp [waitGoP] at *; omega) | (refine scb ?_; simp_all [waitGoP]; done) | (refine scb ?_; simp_all [waitGoP] <;> omega) | (simp_all [waitGoP]; omega)))

theorem c_impl_inState (e : Eng) (s : Int) (hf : e.gs.length ≤ 1048576) : FnC Tryz.prog TA false 179 [.agg (eEngI e), .sc (.int .i64 (s))] [] (.ls .o 3 ((stateGo s 0 e.gs).map eInt)) [] := by
 refine .ini Tryz.ntmps179 Tryz.results179 ?_; refine .seq (.region ?_); refine .o ?_; refine .o (.nil (.xseq (.seq (.region ?_)))); refine .o ?_
 refine .o (.nil (.xseq (.seq (.seq (.region ?_))))); (iterate 3 refine .o ?_); refine .o (.nil (.xseq (.block (.loop ?_)))); refine .bound 10 rfl fun hb0 => ?_
 simp only [List.length_map, mxl] at hb0
 refine .rng [1, 5, 10, 11, 12] (fun i => [(12, .sc (.int .i64 (i : Nat))), (5, .rf 1 0 (stateGo s 0 (e.gs.take i)).length)]) (fun i => [(1, ⟨3, false, (stateGo s 0 (e.gs.take i)).map eInt⟩)]) (fun i => True) (e.gs.length) (trivial) (fun i hi0 hH0 ih0 => ?_)
 refine .seq (.region ?_); refine .o (.nil (.xseq (.seq ?_))); refine .cs (fun h0 => ?_) (fun h0 => ?_)
 · have hlt0 : i < e.gs.length := by simpa using h0
   obtain ⟨x, hx0, hd0⟩ := drop_cons hlt0; have hn0 : (0 : Int) ≤ (i : Int) := Int.natCast_nonneg i
   have hw0 : IntKind.i64.wrap ((i : Int) + 1) = ((i + 1 : Nat) : Int) := by rw [w64 (by omega) (by omega)]; rfl
   have hcl := stateGo_len s 0 (e.gs.take i); rw [List.length_take] at hcl; have hcap1 : ((stateGo s 0 (e.gs.take i)).length + 1) * 8 ≤ 140737488355328 := by omega
   have hcap2 : (stateGo s 0 (e.gs.take i)).length + 1 ≤ maxLen := by (rw [mxl]; omega)
   have hL := stateGo_at s hx0; refine .skip (.xseq (.seq (.block (.seq (.region ?_))))); (iterate 5 refine .o ?_); refine .o (.nil (.xseq (.seq (.region ?_))))
   (iterate 3 refine .o ?_); refine .o (.nil (.xseq ?_)); refine .cs (fun h1 => ?_) (fun h1 => ?_)
   · have hL2 : x.state = s := by (simp at h1; exact h1)
     rw [if_pos hL2] at hL; clear hL2; refine .region ?_; (iterate 4 refine .o ?_); refine .o (.nil (.xblk (.xseq (.region ?_)))); refine .o ?_; refine .o (.nil ?_)
     refine .xlp (.back [1, 5, 10, 11, 12] (ih0 (by assumption) ?_)); clear ih0; trivial
   · have hL2 : ¬ x.state = s := by (simp at h1; exact h1)
     rw [if_neg hL2, List.append_nil] at hL; refine .skip (.xblk (.xseq (.region ?_))); refine .o ?_; refine .o (.nil ?_); refine .xlp (.back [1, 5, 10, 11, 12] (ih0 (by assumption) ?_))
     clear ih0; trivial
 · have hge0 : e.gs.length ≤ i := by simpa using h0
   clear ih0; have hL : e.gs.take i = e.gs := List.take_of_length_le hge0; refine .exit (.eseq (.elp (.eblk (.xseq (.seq (.region ?_)))))); refine .o ?_
   refine .o (.nil (.xseq (.ret (.done ?_)))); refine .mk ?_ (hn := noAss_map nInt _); (try simp only [Hb_iff, Bool.not_eq_true', Bool.not_eq_false'] at *); all_goals (simp only [hL])

theorem c_impl_Ready (e : Eng) (hf : e.gs.length ≤ 1048576) : FnC Tryz.prog TA false 96 [.agg (eEngI e)] [] (.ls .o 3 ((readyP e).map eInt)) [] := by
 refine .ini Tryz.ntmps96 Tryz.results96 ?_; refine .seq (.region ?_); refine .o ?_; refine .o (.nil (.xseq (.seq (.region ?_)))); refine .o ?_; refine .cl (c_impl_inState e 1 hf) ?_
 refine .o (.nil (.xseq (.ret (.done ?_)))); refine .mk ?_ (hn := noAss_map nInt _); (try simp only [Hb_iff, Bool.not_eq_true', Bool.not_eq_false'] at *); all_goals (rfl)

theorem c_impl_Asleep (e : Eng) (hf : e.gs.length ≤ 1048576) : FnC Tryz.prog TA false 97 [.agg (eEngI e)] [] (.ls .o 3 ((asleepP e).map eInt)) [] := by
 refine .ini Tryz.ntmps97 Tryz.results97 ?_; refine .seq (.region ?_); refine .o ?_; refine .o (.nil (.xseq (.seq (.region ?_)))); refine .o ?_; refine .cl (c_impl_inState e 2 hf) ?_
 refine .o (.nil (.xseq (.ret (.done ?_)))); refine .mk ?_ (hn := noAss_map nInt _); (try simp only [Hb_iff, Bool.not_eq_true', Bool.not_eq_false'] at *); all_goals (rfl)
end Go.Proofs.AM
