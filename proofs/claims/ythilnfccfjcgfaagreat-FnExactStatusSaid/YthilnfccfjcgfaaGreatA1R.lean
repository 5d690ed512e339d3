/- A part of the proof: the walk of functions of the program, or the rules of the walk. -/
import Derived.Test.YthilnfccfjcgfaaGreatA1Q
set_option linter.unusedSimpArgs false
set_option linter.unusedVariables false
namespace Go.Proofs.AM
open Go Go.Proofs
set_option maxHeartbeats 4000000
set_option maxRecDepth 100000

theorem c_spec_SelectOk (p : Prog) (n : Int) (s : Select) : FnC Tryz.prog TA false 224 [.agg (eProgI p), .sc (.int .i64 (n)), .agg (eSelI s)] [] (.sc (.bool (selectOkP p n s))) [] := by
 refine .ini Tryz.ntmps224 Tryz.results224 ?_; refine .seq (.region ?_); (iterate 2 refine .o ?_); refine .o (.nil (.xseq (.seq (.seq (.region ?_))))); (iterate 3 refine .o ?_)
 refine .o (.nil (.xseq (.block (.loop ?_)))); refine .bound 12 rfl fun hb0 => ?_; simp only [List.length_map, mxl] at hb0
 refine .rng [1, 3, 5, 12, 13, 14] (fun i => [(14, .sc (.int .i64 (i : Nat)))]) (fun i => []) (fun i => selGoP p n [] s.cases = selGoP p n (s.cases.take i) (s.cases.drop i)) (s.cases.length) (by first | rfl | simp) (fun i hi0 hH0 ih0 => ?_)
 refine .seq (.region ?_); refine .o (.nil (.xseq (.seq ?_))); refine .cs (fun h0 => ?_) (fun h0 => ?_)
 · have hlt0 : i < s.cases.length := by simpa using h0
   obtain ⟨x, hx0, hd0⟩ := drop_cons hlt0; have hn0 : (0 : Int) ≤ (i : Int) := Int.natCast_nonneg i
   have hw0 : IntKind.i64.wrap ((i : Int) + 1) = ((i + 1 : Nat) : Int) := by rw [w64 (by omega) (by omega)]; rfl
   refine .skip (.xseq (.seq (.block (.seq (.region ?_))))); (iterate 5 refine .o ?_); refine .o (.nil (.xseq (.seq (.seq (.region ?_))))); (iterate 2 refine .o ?_); refine .o ?_
   refine .cl (c_spec_l04Chan _ _) ?_; refine .o ?_; refine .o ?_; refine .sp 24 (fun s0 => ?_) (fun s0 => ?_)
   · (iterate 30 refine .o ?_); refine .o (.nil (.xseq ?_)); refine .cT (.seq (.region ?_)); refine .o (.nil (.xseq (.ret (.rseq (.rblk (.rseq (.rlp (.rblk (.rseq (.done ?_))))))))))
     refine .mk ?_; clear ih0; (try simp only [Hb_iff] at *)
     have hc : caseOkP p n x = false := by (first | (simp [caseOkP, withinP, *]; done) | (simp at *; simp [caseOkP, withinP, *]; done) | (simp at *; simp [caseOkP, withinP, *]; omega) | (simp_all [caseOkP, withinP]; done) | (refine scb ?_; simp [caseOkP, withinP] at *; omega) | (refine scb ?_; simp_all [caseOkP, withinP]; done) | (refine scb ?_; simp_all [caseOkP, withinP]; omega) | (simp_all [caseOkP, withinP]; omega))
     rw [selectOkP, hH0, hd0]; simp [selGoP, hc]
   · refine .o ?_; refine .o ?_; refine .cl (c_spec_l03Reg _) ?_; (iterate 2 refine .o ?_); refine .o ?_; refine .sp 30 (fun s1 => ?_) (fun s1 => ?_)
     · (iterate 24 refine .o ?_); refine .o (.nil (.xseq ?_)); refine .cT (.seq (.region ?_)); refine .o (.nil (.xseq (.ret (.rseq (.rblk (.rseq (.rlp (.rblk (.rseq (.done ?_))))))))))
       refine .mk ?_; clear ih0; (try simp only [Hb_iff] at *)
       have hc : caseOkP p n x = false := by (first | (simp [caseOkP, withinP, *]; done) | (simp at *; simp [caseOkP, withinP, *]; done) | (simp at *; simp [caseOkP, withinP, *]; omega) | (simp_all [caseOkP, withinP]; done) | (refine scb ?_; simp [caseOkP, withinP] at *; omega) | (refine scb ?_; simp_all [caseOkP, withinP]; done) | (refine scb ?_; simp_all [caseOkP, withinP]; omega) | (simp_all [caseOkP, withinP]; omega))
       rw [selectOkP, hH0, hd0]; simp [selGoP, hc]
     · refine .o ?_; refine .o ?_; refine .cl (c_spec_l03Reg _) ?_; (iterate 2 refine .o ?_); refine .o ?_; refine .sp 36 (fun s2 => ?_) (fun s2 => ?_)
       · (iterate 18 refine .o ?_); refine .o (.nil (.xseq ?_)); refine .cT (.seq (.region ?_)); refine .o (.nil (.xseq (.ret (.rseq (.rblk (.rseq (.rlp (.rblk (.rseq (.done ?_))))))))))
         refine .mk ?_; clear ih0; (try simp only [Hb_iff] at *)
         have hc : caseOkP p n x = false := by (first | (simp [caseOkP, withinP, *]; done) | (simp at *; simp [caseOkP, withinP, *]; done) | (simp at *; simp [caseOkP, withinP, *]; omega) | (simp_all [caseOkP, withinP]; done) | (refine scb ?_; simp [caseOkP, withinP] at *; omega) | (refine scb ?_; simp_all [caseOkP, withinP]; done) | (refine scb ?_; simp_all [caseOkP, withinP]; omega) | (simp_all [caseOkP, withinP]; omega))
         rw [selectOkP, hH0, hd0]; simp [selGoP, hc]
       · (iterate 2 refine .o ?_); refine .o ?_; refine .sp 39 (fun s3 => ?_) (fun s3 => ?_)
         · (iterate 5 refine .o ?_); refine .o ?_; refine .sp 45 (fun s4 => ?_) (fun s4 => ?_)
           · (iterate 9 refine .o ?_); refine .o (.nil (.xseq ?_)); refine .cT (.seq (.region ?_)); refine .o (.nil (.xseq (.ret (.rseq (.rblk (.rseq (.rlp (.rblk (.rseq (.done ?_))))))))))
             refine .mk ?_; clear ih0; (try simp only [Hb_iff] at *)
             have hc : caseOkP p n x = false := by (first | (simp [caseOkP, withinP, *]; done) | (simp at *; simp [caseOkP, withinP, *]; done) | (simp at *; simp [caseOkP, withinP, *]; omega) | (simp_all [caseOkP, withinP]; done) | (refine scb ?_; simp [caseOkP, withinP] at *; omega) | (refine scb ?_; simp_all [caseOkP, withinP]; done) | (refine scb ?_; simp_all [caseOkP, withinP]; omega) | (simp_all [caseOkP, withinP]; omega))
             rw [selectOkP, hH0, hd0]; simp [selGoP, hc]
           · (iterate 4 refine .o ?_); refine .o ?_; refine .sp 50 (fun s5 => ?_) (fun s5 => ?_)
             · (iterate 4 refine .o ?_); refine .o (.nil (.xseq ?_)); refine .cT (.seq (.region ?_)); refine .o (.nil (.xseq (.ret (.rseq (.rblk (.rseq (.rlp (.rblk (.rseq (.done ?_))))))))))
               refine .mk ?_; clear ih0; (try simp only [Hb_iff] at *)
               have hc : caseOkP p n x = false := by (first | (simp [caseOkP, withinP, *]; done) | (simp at *; simp [caseOkP, withinP, *]; done) | (simp at *; simp [caseOkP, withinP, *]; omega) | (simp_all [caseOkP, withinP]; done) | (refine scb ?_; simp [caseOkP, withinP] at *; omega) | (refine scb ?_; simp_all [caseOkP, withinP]; done) | (refine scb ?_; simp_all [caseOkP, withinP]; omega) | (simp_all [caseOkP, withinP]; omega))
               rw [selectOkP, hH0, hd0]; simp [selGoP, hc]
             · (iterate 4 refine .o ?_); refine .o (.nil (.xseq ?_)); refine .cs (fun h1 => ?_) (fun h1 => ?_)
               · refine .seq (.region ?_); refine .o (.nil (.xseq (.ret (.rseq (.rblk (.rseq (.rlp (.rblk (.rseq (.done ?_)))))))))); refine .mk ?_; clear ih0; (try simp only [Hb_iff] at *)
                 have hc : caseOkP p n x = false := by (first | (simp [caseOkP, withinP, *]; done) | (simp at *; simp [caseOkP, withinP, *]; done) | (simp at *; simp [caseOkP, withinP, *]; omega) | (simp_all [caseOkP, withinP]; done) | (refine scb ?_; simp [caseOkP, withinP] at *; omega) | (refine scb ?_; simp_all [caseOkP, withinP]; done) | (refine scb ?_; simp_all [caseOkP, withinP]; omega) | (simp_all [caseOkP, withinP]; omega))
                 rw [selectOkP, hH0, hd0]; simp [selGoP, hc]
               · refine .skip (.xseq (.seq (.region ?_))); (iterate 5 refine .o ?_); refine .o (.nil (.xseq (.block (.loop ?_)))); refine .bound 59 rfl fun hb1 => ?_
                 simp only [List.length_map, mxl] at hb1
                 refine .rng [1, 3, 5, 8, 12, 13, 14, 59, 60, 61] (fun j => [(61, .sc (.int .i64 (j : Nat)))]) (fun j => []) (fun j => ((s.cases.take i).take j).all (nmP x.ch) = true) ((s.cases.take i).length) (by first | rfl | simp) (fun j hi1 hH1 ih1 => ?_)
                 refine .seq (.region ?_); refine .o (.nil (.xseq (.seq ?_))); refine .cs (fun h2 => ?_) (fun h2 => ?_)
                 · have hlt1 : j < (s.cases.take i).length := by simpa using h2
                   obtain ⟨y, hx1, hd1⟩ := drop_cons hlt1; have hn1 : (0 : Int) ≤ (j : Int) := Int.natCast_nonneg j
                   have hw1 : IntKind.i64.wrap ((j : Int) + 1) = ((j + 1 : Nat) : Int) := by rw [w64 (by omega) (by omega)]; rfl
                   refine .skip (.xseq (.seq (.block (.seq (.region ?_))))); (iterate 3 refine .o ?_); refine .o (.nil (.xseq (.seq (.region ?_)))); (iterate 3 refine .o ?_); refine .o ?_
                   refine .sp 68 (fun s6 => ?_) (fun s6 => ?_)
                   · (iterate 5 refine .o ?_); refine .o (.nil (.xseq ?_)); refine .cs (fun h3 => ?_) (fun h3 => ?_)
                     · refine .seq (.region ?_); refine .o (.nil (.xseq (.ret (.rblk (.rseq (.rlp (.rblk (.rblk (.rseq (.rlp (.rblk (.rseq (.done ?_))))))))))))); refine .mk ?_; clear ih1 ih0
                       (try simp only [Hb_iff] at *)
                       have hm : metP (s.cases.take i) x.ch = true := by rw [metP, all_no hx1 (by (first | (simp [nmP, *]; done) | (simp at *; simp [nmP, *]; done) | (simp at *; simp [nmP, *]; omega) | (simp_all [nmP]; done) | (refine scb ?_; simp [nmP] at *; omega) | (refine scb ?_; simp_all [nmP]; done) | (refine scb ?_; simp_all [nmP]; omega) | (simp_all [nmP]; omega)))]; rfl
                       rw [selectOkP, hH0, hd0]; simp [selGoP, hm]
                     · refine .skip (.xblk (.xseq (.region ?_))); refine .o ?_; refine .o (.nil ?_); refine .xlp (.back [1, 3, 5, 8, 12, 13, 14, 59, 60, 61] (ih1 (by assumption) ?_)); clear ih1 ih0
                       (try simp only [Hb_iff] at *)
                       exact all_step hx1 hH1 (by (first | (simp [nmP, *]; done) | (simp at *; simp [nmP, *]; done) | (simp at *; simp [nmP, *]; omega) | (simp_all [nmP]; done) | (refine scb ?_; simp [nmP] at *; omega) | (refine scb ?_; simp_all [nmP]; done) | (refine scb ?_; simp_all [nmP]; omega) | (simp_all [nmP]; omega)))
                   · (iterate 5 refine .o ?_); refine .o (.nil (.xseq ?_)); refine .cF (.skip (.xblk (.xseq (.region ?_)))); refine .o ?_; refine .o (.nil ?_)
                     refine .xlp (.back [1, 3, 5, 8, 12, 13, 14, 59, 60, 61] (ih1 (by assumption) ?_)); clear ih1 ih0; (try simp only [Hb_iff] at *)
                     exact all_step hx1 hH1 (by (first | (simp [nmP, *]; done) | (simp at *; simp [nmP, *]; done) | (simp at *; simp [nmP, *]; omega) | (simp_all [nmP]; done) | (refine scb ?_; simp [nmP] at *; omega) | (refine scb ?_; simp_all [nmP]; done) | (refine scb ?_; simp_all [nmP]; omega) | (simp_all [nmP]; omega)))
                 · have hge1 : (s.cases.take i).length ≤ j := by simpa using h2
                   refine .exit (.eseq (.elp (.eblk (.xblk (.xseq (.region ?_)))))); refine .o ?_; refine .o (.nil ?_); refine .xlp (.back [1, 3, 5, 12, 13, 14] (ih0 (by assumption) ?_)); clear ih0
                   (try simp only [Hb_iff] at *)
                   have hm : metP (s.cases.take i) x.ch = false := by rw [metP, all_yes hH1 hge1]; rfl
                   have hc : caseOkP p n x = true := by (first | (simp [caseOkP, withinP, *]; done) | (simp at *; simp [caseOkP, withinP, *]; done) | (simp at *; simp [caseOkP, withinP, *]; omega) | (simp_all [caseOkP, withinP]; done) | (refine scb ?_; simp [caseOkP, withinP] at *; omega) | (refine scb ?_; simp_all [caseOkP, withinP]; done) | (refine scb ?_; simp_all [caseOkP, withinP]; omega) | (simp_all [caseOkP, withinP]; omega))
                   rw [hH0, hd0, take_snoc hx0]; simp [selGoP, hm, hc]
         · (iterate 10 refine .o ?_); refine .o ?_; refine .sp 50 (fun s7 => ?_) (fun s7 => ?_)
           · (iterate 4 refine .o ?_); refine .o (.nil (.xseq ?_)); refine .cT (.seq (.region ?_)); refine .o (.nil (.xseq (.ret (.rseq (.rblk (.rseq (.rlp (.rblk (.rseq (.done ?_))))))))))
             refine .mk ?_; clear ih0; (try simp only [Hb_iff] at *)
             have hc : caseOkP p n x = false := by (first | (simp [caseOkP, withinP, *]; done) | (simp at *; simp [caseOkP, withinP, *]; done) | (simp at *; simp [caseOkP, withinP, *]; omega) | (simp_all [caseOkP, withinP]; done) | (refine scb ?_; simp [caseOkP, withinP] at *; omega) | (refine scb ?_; simp_all [caseOkP, withinP]; done) | (refine scb ?_; simp_all [caseOkP, withinP]; omega) | (simp_all [caseOkP, withinP]; omega))
             rw [selectOkP, hH0, hd0]; simp [selGoP, hc]
           · (iterate 4 refine .o ?_); refine .o (.nil (.xseq ?_)); refine .cs (fun h4 => ?_) (fun h4 => ?_)
             · refine .seq (.region ?_); refine .o (.nil (.xseq (.ret (.rseq (.rblk (.rseq (.rlp (.rblk (.rseq (.done ?_)))))))))); refine .mk ?_; clear ih0; (try simp only [Hb_iff] at *)
               have hc : caseOkP p n x = false := by (first | (simp [caseOkP, withinP, *]; done) | (simp at *; simp [caseOkP, withinP, *]; done) | (simp at *; simp [caseOkP, withinP, *]; omega) | (simp_all [caseOkP, withinP]; done) | (refine scb ?_; simp [caseOkP, withinP] at *; omega) | (refine scb ?_; simp_all [caseOkP, withinP]; done) | (refine scb ?_; simp_all [caseOkP, withinP]; omega) | (simp_all [caseOkP, withinP]; omega))
               rw [selectOkP, hH0, hd0]; simp [selGoP, hc]
             · refine .skip (.xseq (.seq (.region ?_))); (iterate 5 refine .o ?_); refine .o (.nil (.xseq (.block (.loop ?_)))); refine .bound 59 rfl fun hb1 => ?_
               simp only [List.length_map, mxl] at hb1
               refine .rng [1, 3, 5, 8, 12, 13, 14, 59, 60, 61] (fun j => [(61, .sc (.int .i64 (j : Nat)))]) (fun j => []) (fun j => ((s.cases.take i).take j).all (nmP x.ch) = true) ((s.cases.take i).length) (by first | rfl | simp) (fun j hi1 hH1 ih1 => ?_)
               refine .seq (.region ?_); refine .o (.nil (.xseq (.seq ?_))); refine .cs (fun h5 => ?_) (fun h5 => ?_)
               · have hlt1 : j < (s.cases.take i).length := by simpa using h5
                 obtain ⟨y, hx1, hd1⟩ := drop_cons hlt1; have hn1 : (0 : Int) ≤ (j : Int) := Int.natCast_nonneg j
                 have hw1 : IntKind.i64.wrap ((j : Int) + 1) = ((j + 1 : Nat) : Int) := by rw [w64 (by omega) (by omega)]; rfl
                 refine .skip (.xseq (.seq (.block (.seq (.region ?_))))); (iterate 3 refine .o ?_); refine .o (.nil (.xseq (.seq (.region ?_)))); (iterate 3 refine .o ?_); refine .o ?_
                 refine .sp 68 (fun s8 => ?_) (fun s8 => ?_)
                 · (iterate 5 refine .o ?_); refine .o (.nil (.xseq ?_)); refine .cs (fun h6 => ?_) (fun h6 => ?_)
                   · refine .seq (.region ?_); refine .o (.nil (.xseq (.ret (.rblk (.rseq (.rlp (.rblk (.rblk (.rseq (.rlp (.rblk (.rseq (.done ?_))))))))))))); refine .mk ?_; clear ih1 ih0
                     (try simp only [Hb_iff] at *)
                     have hm : metP (s.cases.take i) x.ch = true := by rw [metP, all_no hx1 (by (first | (simp [nmP, *]; done) | (simp at *; simp [nmP, *]; done) | (simp at *; simp [nmP, *]; omega) | (simp_all [nmP]; done) | (refine scb ?_; simp [nmP] at *; omega) | (refine scb ?_; simp_all [nmP]; done) | (refine scb ?_; simp_all [nmP]; omega) | (simp_all [nmP]; omega)))]; rfl
                     rw [selectOkP, hH0, hd0]; simp [selGoP, hm]
                   · refine .skip (.xblk (.xseq (.region ?_))); refine .o ?_; refine .o (.nil ?_); refine .xlp (.back [1, 3, 5, 8, 12, 13, 14, 59, 60, 61] (ih1 (by assumption) ?_)); clear ih1 ih0
                     (try simp only [Hb_iff] at *)
                     exact all_step hx1 hH1 (by (first | (simp [nmP, *]; done) | (simp at *; simp [nmP, *]; done) | (simp at *; simp [nmP, *]; omega) | (simp_all [nmP]; done) | (refine scb ?_; simp [nmP] at *; omega) | (refine scb ?_; simp_all [nmP]; done) | (refine scb ?_; simp_all [nmP]; omega) | (simp_all [nmP]; omega)))
                 · (iterate 5 refine .o ?_); refine .o (.nil (.xseq ?_)); refine .cF (.skip (.xblk (.xseq (.region ?_)))); refine .o ?_; refine .o (.nil ?_)
                   refine .xlp (.back [1, 3, 5, 8, 12, 13, 14, 59, 60, 61] (ih1 (by assumption) ?_)); clear ih1 ih0; (try simp only [Hb_iff] at *)
                   exact all_step hx1 hH1 (by (first | (simp [nmP, *]; done) | (simp at *; simp [nmP, *]; done) | (simp at *; simp [nmP, *]; omega) | (simp_all [nmP]; done) | (refine scb ?_; simp [nmP] at *; omega) | (refine scb ?_; simp_all [nmP]; done) | (refine scb ?_; simp_all [nmP]; omega) | (simp_all [nmP]; omega)))
               · have hge1 : (s.cases.take i).length ≤ j := by simpa using h5
                 refine .exit (.eseq (.elp (.eblk (.xblk (.xseq (.region ?_)))))); refine .o ?_; refine .o (.nil ?_); refine .xlp (.back [1, 3, 5, 12, 13, 14] (ih0 (by assumption) ?_)); clear ih0
                 (try simp only [Hb_iff] at *)
                 have hm : metP (s.cases.take i) x.ch = false := by rw [metP, all_yes hH1 hge1]; rfl
                 have hc : caseOkP p n x = true := by (first | (simp [caseOkP, withinP, *]; done) | (simp at *; simp [caseOkP, withinP, *]; done) | (simp at *; simp [caseOkP, withinP, *]; omega) | (simp_all [caseOkP, withinP]; done) | (refine scb ?_; simp [caseOkP, withinP] at *; omega) | (refine scb ?_; simp_all [caseOkP, withinP]; done) | (refine scb ?_; simp_all [caseOkP, withinP]; omega) | (simp_all [caseOkP, withinP]; omega))
                 rw [hH0, hd0, take_snoc hx0]; simp [selGoP, hm, hc]
 · have hge0 : s.cases.length ≤ i := by simpa using h0
   refine .exit (.eseq (.elp (.eblk (.xseq (.seq (.region ?_)))))); (iterate 3 refine .o ?_); refine .o ?_; refine .sp 80 (fun s9 => ?_) (fun s9 => ?_)
   · (iterate 5 refine .o ?_); refine .o (.nil (.xseq (.ret (.done ?_)))); refine .mk ?_; (try simp only [Hb_iff] at *); have e := List.drop_of_length_le hge0
     have e2 := List.take_of_length_le hge0
     rw [selectOkP, hH0, e, e2]; (first | (simp [selGoP, withinP, *]; done) | (simp at *; simp [selGoP, withinP, *]; done) | (simp at *; simp [selGoP, withinP, *]; omega) | (simp_all [selGoP, withinP]; done) | (refine scb ?_; simp [selGoP, withinP] at *; omega) | (refine scb ?_; simp_all [selGoP, withinP]; done) | (refine scb ?_; simp_all [selGoP, withinP]; omega) | (simp_all [selGoP, withinP]; omega))
   · (iterate 5 refine .o ?_); refine .o (.nil (.xseq (.ret (.done ?_)))); refine .mk ?_; (try simp only [Hb_iff] at *); have e := List.drop_of_length_le hge0
     have e2 := List.take_of_length_le hge0
     rw [selectOkP, hH0, e, e2]; (first | (simp [selGoP, withinP, *]; done) | (simp at *; simp [selGoP, withinP, *]; done) | (simp at *; simp [selGoP, withinP, *]; omega) | (simp_all [selGoP, withinP]; done) | (refine scb ?_; simp [selGoP, withinP] at *; omega) | (refine scb ?_; simp_all [selGoP, withinP]; done) | (refine scb ?_; simp_all [selGoP, withinP]; omega) | (simp_all [selGoP, withinP]; omega))

theorem c_impl_SelectOk (p : Prog) (n : Int) (s : Select) (hs : s.cases.length ≤ 1000) : FnC Tryz.prog TA false 226 [.agg (eProgI p), .sc (.int .i64 (n)), .agg (eSelI s)] [] (.sc (.bool (selectOkP p n s))) [] := by
 refine .ini Tryz.ntmps226 Tryz.results226 ?_; refine .seq (.region ?_); (iterate 2 refine .o ?_); refine .o (.nil (.xseq (.seq (.region ?_)))); refine .o ?_
 refine .o (.nil (.xseq (.seq (.seq (.region ?_))))); (iterate 3 refine .o ?_); refine .o (.nil (.xseq (.block (.loop ?_)))); refine .bound 12 rfl fun hb0 => ?_
 simp only [List.length_map, mxl] at hb0
 refine .rng [1, 3, 5, 7, 12, 13, 14] (fun i => [(14, .sc (.int .i64 (i : Nat))), (7, .rf 2 0 (metL (s.cases.take i)).length)]) (fun i => [(2, ⟨3, false, (metL (s.cases.take i)).map eInt⟩)]) (fun i => selGoP p n [] s.cases = selGoP p n (s.cases.take i) (s.cases.drop i)) (s.cases.length) (by first | rfl | simp) (fun i hi0 hH0 ih0 => ?_)
 refine .seq (.region ?_); refine .o (.nil (.xseq (.seq ?_))); refine .cs (fun h0 => ?_) (fun h0 => ?_)
 · have hlt0 : i < s.cases.length := by simpa using h0
   obtain ⟨x, hx0, hd0⟩ := drop_cons hlt0; have hn0 : (0 : Int) ≤ (i : Int) := Int.natCast_nonneg i
   have hw0 : IntKind.i64.wrap ((i : Int) + 1) = ((i + 1 : Nat) : Int) := by rw [w64 (by omega) (by omega)]; rfl
   have hml := metL_len (s.cases.take i); rw [List.length_take] at hml; have hcap1 : ((metL (s.cases.take i)).length + 1) * 8 ≤ 140737488355328 := by omega
   have hcap2 : (metL (s.cases.take i)).length + 1 ≤ maxLen := by rw [mxl]; omega
   refine .skip (.xseq (.seq (.block (.seq (.region ?_))))); (iterate 3 refine .o ?_); refine .o (.nil (.xseq (.seq (.seq (.region ?_))))); (iterate 2 refine .o ?_); refine .o ?_
   refine .cl (c_impl_isChan _ _) ?_; refine .o ?_; refine .o ?_; refine .sp 23 (fun s0 => ?_) (fun s0 => ?_)
   · (iterate 32 refine .o ?_); refine .o (.nil (.xseq ?_)); refine .cT (.seq (.region ?_)); refine .o (.nil (.xseq (.ret (.rseq (.rblk (.rseq (.rlp (.rblk (.rseq (.done ?_))))))))))
     refine .mk ?_; clear ih0; (try simp only [Hb_iff] at *); by_cases hc : caseOkP p n x = true
     · have hch : -1 ≤ x.ch := by (simp [caseOkP, isChanP] at hc; omega)
       have hm : metP (s.cases.take i) x.ch = true := by (rw [← metL_has _ hch]; simp [caseOkP] at hc; simp_all)
       rw [selectOkP, hH0, hd0]; simp [selGoP, hm]
     · rw [selectOkP, hH0, hd0]; simp [selGoP, hc]
   · refine .o ?_; refine .o ?_; refine .cl (c_impl_isReg _) ?_; (iterate 2 refine .o ?_); refine .o ?_; refine .sp 29 (fun s1 => ?_) (fun s1 => ?_)
     · (iterate 26 refine .o ?_); refine .o (.nil (.xseq ?_)); refine .cT (.seq (.region ?_)); refine .o (.nil (.xseq (.ret (.rseq (.rblk (.rseq (.rlp (.rblk (.rseq (.done ?_))))))))))
       refine .mk ?_; clear ih0; (try simp only [Hb_iff] at *); by_cases hc : caseOkP p n x = true
       · have hch : -1 ≤ x.ch := by (simp [caseOkP, isChanP] at hc; omega)
         have hm : metP (s.cases.take i) x.ch = true := by (rw [← metL_has _ hch]; simp [caseOkP] at hc; simp_all)
         rw [selectOkP, hH0, hd0]; simp [selGoP, hm]
       · rw [selectOkP, hH0, hd0]; simp [selGoP, hc]
     · refine .o ?_; refine .o ?_; refine .cl (c_impl_isReg _) ?_; (iterate 2 refine .o ?_); refine .o ?_; refine .sp 35 (fun s2 => ?_) (fun s2 => ?_)
       · (iterate 20 refine .o ?_); refine .o (.nil (.xseq ?_)); refine .cT (.seq (.region ?_)); refine .o (.nil (.xseq (.ret (.rseq (.rblk (.rseq (.rlp (.rblk (.rseq (.done ?_))))))))))
         refine .mk ?_; clear ih0; (try simp only [Hb_iff] at *); by_cases hc : caseOkP p n x = true
         · have hch : -1 ≤ x.ch := by (simp [caseOkP, isChanP] at hc; omega)
           have hm : metP (s.cases.take i) x.ch = true := by (rw [← metL_has _ hch]; simp [caseOkP] at hc; simp_all)
           rw [selectOkP, hH0, hd0]; simp [selGoP, hm]
         · rw [selectOkP, hH0, hd0]; simp [selGoP, hc]
       · (iterate 2 refine .o ?_); refine .o ?_; refine .sp 38 (fun s3 => ?_) (fun s3 => ?_)
         · (iterate 5 refine .o ?_); refine .o ?_; refine .sp 44 (fun s4 => ?_) (fun s4 => ?_)
           · (iterate 11 refine .o ?_); refine .o (.nil (.xseq ?_)); refine .cT (.seq (.region ?_)); refine .o (.nil (.xseq (.ret (.rseq (.rblk (.rseq (.rlp (.rblk (.rseq (.done ?_))))))))))
             refine .mk ?_; clear ih0; (try simp only [Hb_iff] at *); by_cases hc : caseOkP p n x = true
             · have hch : -1 ≤ x.ch := by (simp [caseOkP, isChanP] at hc; omega)
               have hm : metP (s.cases.take i) x.ch = true := by (rw [← metL_has _ hch]; simp [caseOkP] at hc; simp_all)
               rw [selectOkP, hH0, hd0]; simp [selGoP, hm]
             · rw [selectOkP, hH0, hd0]; simp [selGoP, hc]
           · (iterate 2 refine .o ?_); refine .o ?_; refine .cl (c_impl_within _ _ _) ?_; (iterate 2 refine .o ?_); refine .o ?_; refine .sp 51 (fun s5 => ?_) (fun s5 => ?_)
             · (iterate 4 refine .o ?_); refine .o (.nil (.xseq ?_)); refine .cT (.seq (.region ?_)); refine .o (.nil (.xseq (.ret (.rseq (.rblk (.rseq (.rlp (.rblk (.rseq (.done ?_))))))))))
               refine .mk ?_; clear ih0; (try simp only [Hb_iff] at *); by_cases hc : caseOkP p n x = true
               · have hch : -1 ≤ x.ch := by (simp [caseOkP, isChanP] at hc; omega)
                 have hm : metP (s.cases.take i) x.ch = true := by (rw [← metL_has _ hch]; simp [caseOkP] at hc; simp_all)
                 rw [selectOkP, hH0, hd0]; simp [selGoP, hm]
               · rw [selectOkP, hH0, hd0]; simp [selGoP, hc]
             · (iterate 2 refine .o ?_); refine .o ?_; refine .cl (c_slices_Contains_int_int _ _) ?_; refine .o (.nil (.xseq ?_)); refine .cs (fun h1 => ?_) (fun h1 => ?_)
               · refine .seq (.region ?_); refine .o (.nil (.xseq (.ret (.rseq (.rblk (.rseq (.rlp (.rblk (.rseq (.done ?_)))))))))); refine .mk ?_; clear ih0; (try simp only [Hb_iff] at *)
                 by_cases hc : caseOkP p n x = true
                 · have hch : -1 ≤ x.ch := by (simp [caseOkP, isChanP] at hc; omega)
                   have hm : metP (s.cases.take i) x.ch = true := by (rw [← metL_has _ hch]; simp [caseOkP] at hc; simp_all)
                   rw [selectOkP, hH0, hd0]; simp [selGoP, hm]
                 · rw [selectOkP, hH0, hd0]; simp [selGoP, hc]
               · have hnm := h1; refine .skip (.xseq (.seq (.region ?_))); (iterate 2 refine .o ?_); refine .o (.nil (.xseq ?_)); refine .cs (fun h2 => ?_) (fun h2 => ?_)
                 · have hL : metL (s.cases.take (i + 1)) = metL (s.cases.take i) ++ [x.ch] := by (rw [take_snoc hx0, metL_snoc]; simp at h2; simp [h2])
                   have hch : -1 ≤ x.ch := by (simp [isChanP] at *; omega)
                   refine .region ?_; (iterate 5 refine .o ?_); refine .o (.nil (.xblk (.xseq (.region ?_)))); refine .o ?_; refine .o (.nil ?_)
                   refine .xlp (.back [1, 3, 5, 7, 12, 13, 14] (ih0 (by assumption) ?_)); clear ih0; (try simp only [Hb_iff] at *)
                   have hm : metP (s.cases.take i) x.ch = false := by rw [← metL_has _ hch]; exact hnm
                   have hc : caseOkP p n x = true := by (first | (simp [caseOkP, withinP, *]; done) | (simp at *; simp [caseOkP, withinP, *]; done) | (simp at *; simp [caseOkP, withinP, *]; omega) | (simp_all [caseOkP, withinP]; done) | (refine scb ?_; simp [caseOkP, withinP] at *; omega) | (refine scb ?_; simp_all [caseOkP, withinP]; done) | (refine scb ?_; simp_all [caseOkP, withinP]; omega) | (simp_all [caseOkP, withinP]; omega))
                   rw [hH0, hd0, take_snoc hx0]; simp [selGoP, hm, hc]
                 · have hL : metL (s.cases.take (i + 1)) = metL (s.cases.take i) := by (rw [take_snoc hx0, metL_snoc]; simp at h2; simp [h2])
                   have hch : -1 ≤ x.ch := by (simp [isChanP] at *; omega)
                   refine .skip (.xblk (.xseq (.region ?_))); refine .o ?_; refine .o (.nil ?_); refine .xlp (.back [1, 3, 5, 7, 12, 13, 14] (ih0 (by assumption) ?_)); clear ih0
                   (try simp only [Hb_iff] at *)
                   have hm : metP (s.cases.take i) x.ch = false := by rw [← metL_has _ hch]; exact hnm
                   have hc : caseOkP p n x = true := by (first | (simp [caseOkP, withinP, *]; done) | (simp at *; simp [caseOkP, withinP, *]; done) | (simp at *; simp [caseOkP, withinP, *]; omega) | (simp_all [caseOkP, withinP]; done) | (refine scb ?_; simp [caseOkP, withinP] at *; omega) | (refine scb ?_; simp_all [caseOkP, withinP]; done) | (refine scb ?_; simp_all [caseOkP, withinP]; omega) | (simp_all [caseOkP, withinP]; omega))
                   rw [hH0, hd0, take_snoc hx0]; simp [selGoP, hm, hc]
         · (iterate 8 refine .o ?_); refine .o ?_; refine .cl (c_impl_within _ _ _) ?_; (iterate 2 refine .o ?_); refine .o ?_; refine .sp 51 (fun s6 => ?_) (fun s6 => ?_)
           · (iterate 4 refine .o ?_); refine .o (.nil (.xseq ?_)); refine .cT (.seq (.region ?_)); refine .o (.nil (.xseq (.ret (.rseq (.rblk (.rseq (.rlp (.rblk (.rseq (.done ?_))))))))))
             refine .mk ?_; clear ih0; (try simp only [Hb_iff] at *); by_cases hc : caseOkP p n x = true
             · have hch : -1 ≤ x.ch := by (simp [caseOkP, isChanP] at hc; omega)
               have hm : metP (s.cases.take i) x.ch = true := by (rw [← metL_has _ hch]; simp [caseOkP] at hc; simp_all)
               rw [selectOkP, hH0, hd0]; simp [selGoP, hm]
             · rw [selectOkP, hH0, hd0]; simp [selGoP, hc]
           · (iterate 2 refine .o ?_); refine .o ?_; refine .cl (c_slices_Contains_int_int _ _) ?_; refine .o (.nil (.xseq ?_)); refine .cs (fun h3 => ?_) (fun h3 => ?_)
             · refine .seq (.region ?_); refine .o (.nil (.xseq (.ret (.rseq (.rblk (.rseq (.rlp (.rblk (.rseq (.done ?_)))))))))); refine .mk ?_; clear ih0; (try simp only [Hb_iff] at *)
               by_cases hc : caseOkP p n x = true
               · have hch : -1 ≤ x.ch := by (simp [caseOkP, isChanP] at hc; omega)
                 have hm : metP (s.cases.take i) x.ch = true := by (rw [← metL_has _ hch]; simp [caseOkP] at hc; simp_all)
                 rw [selectOkP, hH0, hd0]; simp [selGoP, hm]
               · rw [selectOkP, hH0, hd0]; simp [selGoP, hc]
             · have hnm := h3; refine .skip (.xseq (.seq (.region ?_))); (iterate 2 refine .o ?_); refine .o (.nil (.xseq ?_)); refine .cs (fun h4 => ?_) (fun h4 => ?_)
               · have hL : metL (s.cases.take (i + 1)) = metL (s.cases.take i) ++ [x.ch] := by (rw [take_snoc hx0, metL_snoc]; simp at h4; simp [h4])
                 have hch : -1 ≤ x.ch := by (simp [isChanP] at *; omega)
                 refine .region ?_; (iterate 5 refine .o ?_); refine .o (.nil (.xblk (.xseq (.region ?_)))); refine .o ?_; refine .o (.nil ?_)
                 refine .xlp (.back [1, 3, 5, 7, 12, 13, 14] (ih0 (by assumption) ?_)); clear ih0; (try simp only [Hb_iff] at *)
                 have hm : metP (s.cases.take i) x.ch = false := by rw [← metL_has _ hch]; exact hnm
                 have hc : caseOkP p n x = true := by (first | (simp [caseOkP, withinP, *]; done) | (simp at *; simp [caseOkP, withinP, *]; done) | (simp at *; simp [caseOkP, withinP, *]; omega) | (simp_all [caseOkP, withinP]; done) | (refine scb ?_; simp [caseOkP, withinP] at *; omega) | (refine scb ?_; simp_all [caseOkP, withinP]; done) | (refine scb ?_; simp_all [caseOkP, withinP]; omega) | (simp_all [caseOkP, withinP]; omega))
                 rw [hH0, hd0, take_snoc hx0]; simp [selGoP, hm, hc]
               · have hL : metL (s.cases.take (i + 1)) = metL (s.cases.take i) := by (rw [take_snoc hx0, metL_snoc]; simp at h4; simp [h4])
                 have hch : -1 ≤ x.ch := by (simp [isChanP] at *; omega)
                 refine .skip (.xblk (.xseq (.region ?_))); refine .o ?_; refine .o (.nil ?_); refine .xlp (.back [1, 3, 5, 7, 12, 13, 14] (ih0 (by assumption) ?_)); clear ih0
                 (try simp only [Hb_iff] at *)
                 have hm : metP (s.cases.take i) x.ch = false := by rw [← metL_has _ hch]; exact hnm
                 have hc : caseOkP p n x = true := by (first | (simp [caseOkP, withinP, *]; done) | (simp at *; simp [caseOkP, withinP, *]; done) | (simp at *; simp [caseOkP, withinP, *]; omega) | (simp_all [caseOkP, withinP]; done) | (refine scb ?_; simp [caseOkP, withinP] at *; omega) | (refine scb ?_; simp_all [caseOkP, withinP]; done) | (refine scb ?_; simp_all [caseOkP, withinP]; omega) | (simp_all [caseOkP, withinP]; omega))
                 rw [hH0, hd0, take_snoc hx0]; simp [selGoP, hm, hc]
 · have hge0 : s.cases.length ≤ i := by simpa using h0
   refine .exit (.eseq (.elp (.eblk (.xseq (.seq (.region ?_)))))); (iterate 2 refine .o ?_); refine .o ?_; refine .cl (c_impl_within _ _ _) ?_
   refine .o (.nil (.xseq (.ret (.done ?_)))); refine .mk ?_; (try simp only [Hb_iff] at *); have e := List.drop_of_length_le hge0; have e2 := List.take_of_length_le hge0
   rw [selectOkP, hH0, e, e2]; (first | (simp [selGoP, withinP, *]; done) | (simp at *; simp [selGoP, withinP, *]; done) | (simp at *; simp [selGoP, withinP, *]; omega) | (simp_all [selGoP, withinP]; done) | (refine scb ?_; simp [selGoP, withinP] at *; omega) | (refine scb ?_; simp_all [selGoP, withinP]; done) | (refine scb ?_; simp_all [selGoP, withinP]; omega) | (simp_all [selGoP, withinP]; omega))

theorem c_spec_l04Proc (p : Prog) (c : List Instr) : FnC Tryz.prog TA false 225 [.agg (eProgI p), .ls .o 132 (c.map eInstr)] [] (.sc (.bool (procOkP p c))) [] := by
 refine .ini Tryz.ntmps225 Tryz.results225 ?_; refine .seq (.region ?_); refine .o ?_; refine .o (.nil (.xseq (.seq (.region ?_)))); (iterate 2 refine .o ?_)
 refine .o (.nil (.xseq (.seq (.seq (.region ?_))))); (iterate 2 refine .o ?_); refine .o ?_; refine .sp 12 (fun s0 => ?_) (fun s0 => ?_)
 · (iterate 2 refine .o ?_); refine .o (.nil (.xseq ?_)); refine .cT (.seq (.region ?_)); refine .o (.nil (.xseq (.ret (.rseq (.done ?_))))); refine .mk ?_
   (try simp only [Hb_iff] at *)
   (first | (simp [procOkP, *]; done) | (simp at *; simp [procOkP, *]; done) | (simp at *; simp [procOkP, *]; omega) | (simp_all [procOkP]; done) | (refine scb ?_; simp [procOkP] at *; omega) | (refine scb ?_; simp_all [procOkP]; done) | (refine scb ?_; simp_all [procOkP]; omega) | (simp_all [procOkP]; omega))
 · (iterate 2 refine .o ?_); refine .o (.nil (.xseq ?_)); refine .cs (fun h0 => ?_) (fun h0 => ?_)
   · refine .seq (.region ?_); refine .o (.nil (.xseq (.ret (.rseq (.done ?_))))); refine .mk ?_; (try simp only [Hb_iff] at *)
     (first | (simp [procOkP, *]; done) | (simp at *; simp [procOkP, *]; done) | (simp at *; simp [procOkP, *]; omega) | (simp_all [procOkP]; done) | (refine scb ?_; simp [procOkP] at *; omega) | (refine scb ?_; simp_all [procOkP]; done) | (refine scb ?_; simp_all [procOkP]; omega) | (simp_all [procOkP]; omega))
   · refine .skip (.xseq (.seq (.seq (.region ?_)))); (iterate 2 refine .o ?_); refine .o (.nil (.xseq (.block (.loop ?_)))); refine .bound 16 rfl fun hb0 => ?_
     simp only [List.length_map, mxl] at hb0
     refine .rng [1, 2, 5, 16, 17, 18] (fun i => [(18, .sc (.int .i64 (i : Nat)))]) (fun i => []) (fun i => (c.take i).all (instrSelOkP p c.length) = true) (c.length) (by first | rfl | simp) (fun i hi0 hH0 ih0 => ?_)
     refine .seq (.region ?_); refine .o (.nil (.xseq (.seq ?_))); refine .cs (fun h1 => ?_) (fun h1 => ?_)
     · have hlt0 : i < c.length := by simpa using h1
       obtain ⟨x, hx0, hd0⟩ := drop_cons hlt0; have hn0 : (0 : Int) ≤ (i : Int) := Int.natCast_nonneg i
       have hw0 : IntKind.i64.wrap ((i : Int) + 1) = ((i + 1 : Nat) : Int) := by rw [w64 (by omega) (by omega)]; rfl
       refine .skip (.xseq (.seq (.block (.seq (.region ?_))))); (iterate 3 refine .o ?_); refine .o (.nil (.xseq (.seq (.seq (.region ?_))))); (iterate 2 refine .o ?_); refine .o ?_
       refine .cl (c_spec_InstrOk _ _ _) ?_; refine .o (.nil (.xseq ?_)); refine .cs (fun h2 => ?_) (fun h2 => ?_)
       · refine .seq (.region ?_); refine .o (.nil (.xseq (.ret (.rseq (.rblk (.rseq (.rlp (.rblk (.rseq (.done ?_)))))))))); refine .mk ?_; clear ih0; (try simp only [Hb_iff] at *)
         have hF := all_no (f := instrSelOkP p c.length) hx0 (by (first | (simp [instrSelOkP, *]; done) | (simp at *; simp [instrSelOkP, *]; done) | (simp at *; simp [instrSelOkP, *]; omega) | (simp_all [instrSelOkP]; done) | (refine scb ?_; simp [instrSelOkP] at *; omega) | (refine scb ?_; simp_all [instrSelOkP]; done) | (refine scb ?_; simp_all [instrSelOkP]; omega) | (simp_all [instrSelOkP]; omega)))
         simp [procOkP, hF]
       · have hok : instrOkP p c.length x = true := by simpa using h2
         refine .skip (.xseq (.seq ?_))
         refine .drawnK 15 [(0, false), (1, false), (2, false), (3, false), (4, false), (5, false), (6, false), (7, false), (8, false), (9, false), (10, false), (11, false), (12, false), (13, false), (14, false)] mixed (by kernel_rfl) ?_
         (iterate 3 refine .o ?_); refine .o ?_; refine .sp 30 (fun s1 => ?_) (fun s1 => ?_)
         · obtain ⟨hs1, hs2⟩ := instr_sel hok (by simp at *; assumption); (iterate 7 refine .o ?_); refine .o ?_; refine .cl (c_spec_SelectOk _ _ _) ?_; refine .o ?_
           refine .o (.nil (.nil (.xseq ?_))); refine .cs (fun h3 => ?_) (fun h3 => ?_)
           · refine .seq (.region ?_); refine .o (.nil (.xseq (.ret (.rblk (.rseq (.rlp (.rblk (.rseq (.done ?_))))))))); refine .mk ?_; clear ih0; (try simp only [Hb_iff] at *)
             have hF := all_no (f := instrSelOkP p c.length) hx0 (by (first | (simp [instrSelOkP, *]; done) | (simp at *; simp [instrSelOkP, *]; done) | (simp at *; simp [instrSelOkP, *]; omega) | (simp_all [instrSelOkP]; done) | (refine scb ?_; simp [instrSelOkP] at *; omega) | (refine scb ?_; simp_all [instrSelOkP]; done) | (refine scb ?_; simp_all [instrSelOkP]; omega) | (simp_all [instrSelOkP]; omega)))
             simp [procOkP, hF]
           · refine .skip (.xblk (.xseq (.region ?_))); refine .o ?_; refine .o (.nil ?_); refine .xlp (.back [1, 2, 5, 16, 17, 18] (ih0 (by assumption) ?_)); clear ih0
             (try simp only [Hb_iff] at *)
             exact all_step hx0 hH0 (by (first | (simp [instrSelOkP, *]; done) | (simp at *; simp [instrSelOkP, *]; done) | (simp at *; simp [instrSelOkP, *]; omega) | (simp_all [instrSelOkP]; done) | (refine scb ?_; simp [instrSelOkP] at *; omega) | (refine scb ?_; simp_all [instrSelOkP]; done) | (refine scb ?_; simp_all [instrSelOkP]; omega) | (simp_all [instrSelOkP]; omega)))
         · (iterate 10 refine .o ?_); refine .o (.nil (.nil (.xseq ?_))); refine .cF (.skip (.xblk (.xseq (.region ?_)))); refine .o ?_; refine .o (.nil ?_)
           refine .xlp (.back [1, 2, 5, 16, 17, 18] (ih0 (by assumption) ?_)); clear ih0; (try simp only [Hb_iff] at *)
           exact all_step hx0 hH0 (by (first | (simp [instrSelOkP, *]; done) | (simp at *; simp [instrSelOkP, *]; done) | (simp at *; simp [instrSelOkP, *]; omega) | (simp_all [instrSelOkP]; done) | (refine scb ?_; simp [instrSelOkP] at *; omega) | (refine scb ?_; simp_all [instrSelOkP]; done) | (refine scb ?_; simp_all [instrSelOkP]; omega) | (simp_all [instrSelOkP]; omega)))
     · have hge0 : c.length ≤ i := by simpa using h1
       have hA := all_yes hH0 hge0; refine .exit (.eseq (.elp (.eblk (.xseq (.seq ?_))))); have hlen : 1 ≤ c.length := by (simp at *; omega)
       have hlen2 : c.length ≤ 40 := by (simp at *; omega)
       have hlast := last_get hlen; have hwl : IntKind.i64.wrap ((c.length : Int) - 1) = (c.length : Int) - 1 := w64 (by omega) (by omega)
       have hl0 : (0 : Int) ≤ (c.length : Int) - 1 := by omega
       refine .region ?_; (iterate 7 refine .o ?_); refine .o ?_; refine .sp 50 (fun s2 => ?_) (fun s2 => ?_)
       · (iterate 8 refine .o ?_); refine .o (.nil (.xseq (.ret (.done ?_)))); refine .mk ?_; (try simp only [Hb_iff] at *); clear hH0 hge0 hb0
         have hR : procOkP p c = (decide (lastOpP c = 1) || decide (lastOpP c = 6)) := by simp [procOkP, hA, hlen, hlen2]
         rw [hR]; unfold lastOpP; (first | (simp [*]; done) | (simp at *; simp [*]; done) | (simp at *; simp [*]; omega) | (simp_all ; done) | (refine scb ?_; simp  at *; omega) | (refine scb ?_; simp_all ; done) | (refine scb ?_; simp_all ; omega) | (simp_all ; omega))
       · (iterate 8 refine .o ?_); refine .o (.nil (.xseq (.ret (.done ?_)))); refine .mk ?_; (try simp only [Hb_iff] at *); clear hH0 hge0 hb0
         have hR : procOkP p c = (decide (lastOpP c = 1) || decide (lastOpP c = 6)) := by simp [procOkP, hA, hlen, hlen2]
         rw [hR]; unfold lastOpP; (first | (simp [*]; done) | (simp at *; simp [*]; done) | (simp at *; simp [*]; omega) | (simp_all ; done) | (refine scb ?_; simp  at *; omega) | (refine scb ?_; simp_all ; done) | (refine scb ?_; simp_all ; omega) | (simp_all ; omega))

theorem c_spec_ProgOk (p : Prog) : FnC Tryz.prog TA false 131 [.agg (eProgI p)] [] (.sc (.bool (progOkP p))) [] := by
 refine .ini Tryz.ntmps131 Tryz.results131 ?_; refine .seq (.region ?_); refine .o ?_; refine .o (.nil (.xseq (.seq (.seq (.region ?_))))); (iterate 4 refine .o ?_); refine .o ?_
 refine .sp 13 (fun s0 => ?_) (fun s0 => ?_)
 · (iterate 26 refine .o ?_); refine .o (.nil (.xseq ?_)); refine .cT (.seq (.region ?_)); refine .o (.nil (.xseq (.ret (.rseq (.done ?_))))); refine .mk ?_
   (try simp only [Hb_iff] at *)
   (first | (simp [progOkP, *]; done) | (simp at *; simp [progOkP, *]; done) | (simp at *; simp [progOkP, *]; omega) | (simp_all [progOkP]; done) | (refine scb ?_; simp [progOkP] at *; omega) | (refine scb ?_; simp_all [progOkP]; done) | (refine scb ?_; simp_all [progOkP]; omega) | (simp_all [progOkP]; omega))
 · (iterate 4 refine .o ?_); refine .o ?_; refine .sp 18 (fun s1 => ?_) (fun s1 => ?_)
   · (iterate 21 refine .o ?_); refine .o (.nil (.xseq ?_)); refine .cT (.seq (.region ?_)); refine .o (.nil (.xseq (.ret (.rseq (.done ?_))))); refine .mk ?_
     (try simp only [Hb_iff] at *)
     (first | (simp [progOkP, *]; done) | (simp at *; simp [progOkP, *]; done) | (simp at *; simp [progOkP, *]; omega) | (simp_all [progOkP]; done) | (refine scb ?_; simp [progOkP] at *; omega) | (refine scb ?_; simp_all [progOkP]; done) | (refine scb ?_; simp_all [progOkP]; omega) | (simp_all [progOkP]; omega))
   · (iterate 4 refine .o ?_); refine .o ?_; refine .sp 23 (fun s2 => ?_) (fun s2 => ?_)
     · (iterate 16 refine .o ?_); refine .o (.nil (.xseq ?_)); refine .cT (.seq (.region ?_)); refine .o (.nil (.xseq (.ret (.rseq (.done ?_))))); refine .mk ?_
       (try simp only [Hb_iff] at *)
       (first | (simp [progOkP, *]; done) | (simp at *; simp [progOkP, *]; done) | (simp at *; simp [progOkP, *]; omega) | (simp_all [progOkP]; done) | (refine scb ?_; simp [progOkP] at *; omega) | (refine scb ?_; simp_all [progOkP]; done) | (refine scb ?_; simp_all [progOkP]; omega) | (simp_all [progOkP]; omega))
     · (iterate 5 refine .o ?_); refine .o ?_; refine .sp 29 (fun s3 => ?_) (fun s3 => ?_)
       · (iterate 10 refine .o ?_); refine .o (.nil (.xseq ?_)); refine .cT (.seq (.region ?_)); refine .o (.nil (.xseq (.ret (.rseq (.done ?_))))); refine .mk ?_
         (try simp only [Hb_iff] at *)
         (first | (simp [progOkP, *]; done) | (simp at *; simp [progOkP, *]; done) | (simp at *; simp [progOkP, *]; omega) | (simp_all [progOkP]; done) | (refine scb ?_; simp [progOkP] at *; omega) | (refine scb ?_; simp_all [progOkP]; done) | (refine scb ?_; simp_all [progOkP]; omega) | (simp_all [progOkP]; omega))
       · (iterate 5 refine .o ?_); refine .o ?_; refine .sp 35 (fun s4 => ?_) (fun s4 => ?_)
         · (iterate 4 refine .o ?_); refine .o (.nil (.xseq ?_)); refine .cT (.seq (.region ?_)); refine .o (.nil (.xseq (.ret (.rseq (.done ?_))))); refine .mk ?_
           (try simp only [Hb_iff] at *)
           (first | (simp [progOkP, *]; done) | (simp at *; simp [progOkP, *]; done) | (simp at *; simp [progOkP, *]; omega) | (simp_all [progOkP]; done) | (refine scb ?_; simp [progOkP] at *; omega) | (refine scb ?_; simp_all [progOkP]; done) | (refine scb ?_; simp_all [progOkP]; omega) | (simp_all [progOkP]; omega))
         · (iterate 4 refine .o ?_); refine .o (.nil (.xseq ?_)); refine .cs (fun h0 => ?_) (fun h0 => ?_)
           · refine .seq (.region ?_); refine .o (.nil (.xseq (.ret (.rseq (.done ?_))))); refine .mk ?_; (try simp only [Hb_iff] at *)
             (first | (simp [progOkP, *]; done) | (simp at *; simp [progOkP, *]; done) | (simp at *; simp [progOkP, *]; omega) | (simp_all [progOkP]; done) | (refine scb ?_; simp [progOkP] at *; omega) | (refine scb ?_; simp_all [progOkP]; done) | (refine scb ?_; simp_all [progOkP]; omega) | (simp_all [progOkP]; omega))
           · refine .skip (.xseq (.seq (.seq (.region ?_)))); (iterate 3 refine .o ?_); refine .o (.nil (.xseq (.block (.loop ?_)))); refine .bound 42 rfl fun hb0 => ?_
             simp only [List.length_map, mxl] at hb0
             refine .rng [1, 42, 43, 44] (fun i => [(44, .sc (.int .i64 (i : Nat)))]) (fun i => []) (fun i => (p.caps.take i).all capOkP = true) (p.caps.length) (by first | rfl | simp) (fun i hi0 hH0 ih0 => ?_)
             refine .seq (.region ?_); refine .o (.nil (.xseq (.seq ?_))); refine .cs (fun h1 => ?_) (fun h1 => ?_)
             · have hlt0 : i < p.caps.length := by simpa using h1
               obtain ⟨x, hx0, hd0⟩ := drop_cons hlt0; have hn0 : (0 : Int) ≤ (i : Int) := Int.natCast_nonneg i
               have hw0 : IntKind.i64.wrap ((i : Int) + 1) = ((i + 1 : Nat) : Int) := by rw [w64 (by omega) (by omega)]; rfl
               refine .skip (.xseq (.seq (.block (.seq (.region ?_))))); (iterate 2 refine .o ?_); refine .o (.nil (.xseq (.seq (.region ?_)))); (iterate 2 refine .o ?_); refine .o ?_
               refine .sp 50 (fun s5 => ?_) (fun s5 => ?_)
               · (iterate 2 refine .o ?_); refine .o (.nil (.xseq ?_)); refine .cT (.seq (.region ?_)); refine .o (.nil (.xseq (.ret (.rblk (.rseq (.rlp (.rblk (.rseq (.done ?_)))))))))
                 refine .mk ?_; clear ih0; (try simp only [Hb_iff] at *)
                 have hF := all_no (f := capOkP) hx0 (by (first | (simp [capOkP, *]; done) | (simp at *; simp [capOkP, *]; done) | (simp at *; simp [capOkP, *]; omega) | (simp_all [capOkP]; done) | (refine scb ?_; simp [capOkP] at *; omega) | (refine scb ?_; simp_all [capOkP]; done) | (refine scb ?_; simp_all [capOkP]; omega) | (simp_all [capOkP]; omega)))
                 simp [progOkP, hF]
               · (iterate 2 refine .o ?_); refine .o (.nil (.xseq ?_)); refine .cs (fun h2 => ?_) (fun h2 => ?_)
                 · refine .seq (.region ?_); refine .o (.nil (.xseq (.ret (.rblk (.rseq (.rlp (.rblk (.rseq (.done ?_))))))))); refine .mk ?_; clear ih0; (try simp only [Hb_iff] at *)
                   have hF := all_no (f := capOkP) hx0 (by (first | (simp [capOkP, *]; done) | (simp at *; simp [capOkP, *]; done) | (simp at *; simp [capOkP, *]; omega) | (simp_all [capOkP]; done) | (refine scb ?_; simp [capOkP] at *; omega) | (refine scb ?_; simp_all [capOkP]; done) | (refine scb ?_; simp_all [capOkP]; omega) | (simp_all [capOkP]; omega)))
                   simp [progOkP, hF]
                 · refine .skip (.xblk (.xseq (.region ?_))); refine .o ?_; refine .o (.nil ?_); refine .xlp (.back [1, 42, 43, 44] (ih0 (by assumption) ?_)); clear ih0; (try simp only [Hb_iff] at *)
                   exact all_step hx0 hH0 (by (first | (simp [capOkP, *]; done) | (simp at *; simp [capOkP, *]; done) | (simp at *; simp [capOkP, *]; omega) | (simp_all [capOkP]; done) | (refine scb ?_; simp [capOkP] at *; omega) | (refine scb ?_; simp_all [capOkP]; done) | (refine scb ?_; simp_all [capOkP]; omega) | (simp_all [capOkP]; omega)))
             · have hge0 : p.caps.length ≤ i := by simpa using h1
               have hA0 := all_yes hH0 hge0; clear hH0 hge0; refine .exit (.eseq (.elp (.eblk (.xseq (.seq (.seq (.region ?_))))))); (iterate 3 refine .o ?_)
               refine .o (.nil (.xseq (.block (.loop ?_)))); refine .bound 56 rfl fun hb1 => ?_; simp only [List.length_map, mxl] at hb1
               refine .rng [1, 56, 57, 58] (fun i => [(58, .sc (.int .i64 (i : Nat)))]) (fun i => []) (fun i => (p.sels.take i).all (selTopOkP p) = true) (p.sels.length) (by first | rfl | simp) (fun i hi1 hH1 ih1 => ?_)
               refine .seq (.region ?_); refine .o (.nil (.xseq (.seq ?_))); refine .cs (fun h3 => ?_) (fun h3 => ?_)
               · have hlt1 : i < p.sels.length := by simpa using h3
                 obtain ⟨x, hx1, hd1⟩ := drop_cons hlt1; have hn1 : (0 : Int) ≤ (i : Int) := Int.natCast_nonneg i
                 have hw1 : IntKind.i64.wrap ((i : Int) + 1) = ((i + 1 : Nat) : Int) := by rw [w64 (by omega) (by omega)]; rfl
                 refine .skip (.xseq (.seq (.block (.seq (.region ?_))))); (iterate 3 refine .o ?_); refine .o (.nil (.xseq (.seq (.region ?_)))); (iterate 4 refine .o ?_); refine .o ?_
                 refine .sp 66 (fun s6 => ?_) (fun s6 => ?_)
                 · (iterate 15 refine .o ?_); refine .o (.nil (.xseq ?_)); refine .cT (.seq (.region ?_)); refine .o (.nil (.xseq (.ret (.rblk (.rseq (.rlp (.rblk (.rseq (.done ?_)))))))))
                   refine .mk ?_; clear ih1; (try simp only [Hb_iff] at *)
                   have hF := all_no (f := selTopOkP p) hx1 (by (first | (simp [selTopOkP, *]; done) | (simp at *; simp [selTopOkP, *]; done) | (simp at *; simp [selTopOkP, *]; omega) | (simp_all [selTopOkP]; done) | (refine scb ?_; simp [selTopOkP] at *; omega) | (refine scb ?_; simp_all [selTopOkP]; done) | (refine scb ?_; simp_all [selTopOkP]; omega) | (simp_all [selTopOkP]; omega)))
                   simp [progOkP, hF]
                 · (iterate 4 refine .o ?_); refine .o ?_; refine .sp 71 (fun s7 => ?_) (fun s7 => ?_)
                   · (iterate 5 refine .o ?_); refine .o ?_; refine .sp 77 (fun s8 => ?_) (fun s8 => ?_)
                     · (iterate 4 refine .o ?_); refine .o (.nil (.xseq ?_)); refine .cT (.seq (.region ?_)); refine .o (.nil (.xseq (.ret (.rblk (.rseq (.rlp (.rblk (.rseq (.done ?_)))))))))
                       refine .mk ?_; clear ih1; (try simp only [Hb_iff] at *)
                       have hF := all_no (f := selTopOkP p) hx1 (by (first | (simp [selTopOkP, *]; done) | (simp at *; simp [selTopOkP, *]; done) | (simp at *; simp [selTopOkP, *]; omega) | (simp_all [selTopOkP]; done) | (refine scb ?_; simp [selTopOkP] at *; omega) | (refine scb ?_; simp_all [selTopOkP]; done) | (refine scb ?_; simp_all [selTopOkP]; omega) | (simp_all [selTopOkP]; omega)))
                       simp [progOkP, hF]
                     · refine .o ?_; refine .o ?_; refine .cl (c_spec_SelectOk _ _ _) ?_; refine .o ?_; refine .o (.nil (.xseq ?_)); refine .cs (fun h4 => ?_) (fun h4 => ?_)
                       · refine .seq (.region ?_); refine .o (.nil (.xseq (.ret (.rblk (.rseq (.rlp (.rblk (.rseq (.done ?_))))))))); refine .mk ?_; clear ih1; (try simp only [Hb_iff] at *)
                         have hF := all_no (f := selTopOkP p) hx1 (by (first | (simp [selTopOkP, *]; done) | (simp at *; simp [selTopOkP, *]; done) | (simp at *; simp [selTopOkP, *]; omega) | (simp_all [selTopOkP]; done) | (refine scb ?_; simp [selTopOkP] at *; omega) | (refine scb ?_; simp_all [selTopOkP]; done) | (refine scb ?_; simp_all [selTopOkP]; omega) | (simp_all [selTopOkP]; omega)))
                         simp [progOkP, hF]
                       · refine .skip (.xblk (.xseq (.region ?_))); refine .o ?_; refine .o (.nil ?_); refine .xlp (.back [1, 56, 57, 58] (ih1 (by assumption) ?_)); clear ih1; (try simp only [Hb_iff] at *)
                         exact all_step hx1 hH1 (by (first | (simp [selTopOkP, *]; done) | (simp at *; simp [selTopOkP, *]; done) | (simp at *; simp [selTopOkP, *]; omega) | (simp_all [selTopOkP]; done) | (refine scb ?_; simp [selTopOkP] at *; omega) | (refine scb ?_; simp_all [selTopOkP]; done) | (refine scb ?_; simp_all [selTopOkP]; omega) | (simp_all [selTopOkP]; omega)))
                   · (iterate 7 refine .o ?_); refine .o ?_; refine .cl (c_spec_SelectOk _ _ _) ?_; refine .o ?_; refine .o (.nil (.xseq ?_)); refine .cs (fun h5 => ?_) (fun h5 => ?_)
                     · refine .seq (.region ?_); refine .o (.nil (.xseq (.ret (.rblk (.rseq (.rlp (.rblk (.rseq (.done ?_))))))))); refine .mk ?_; clear ih1; (try simp only [Hb_iff] at *)
                       have hF := all_no (f := selTopOkP p) hx1 (by (first | (simp [selTopOkP, *]; done) | (simp at *; simp [selTopOkP, *]; done) | (simp at *; simp [selTopOkP, *]; omega) | (simp_all [selTopOkP]; done) | (refine scb ?_; simp [selTopOkP] at *; omega) | (refine scb ?_; simp_all [selTopOkP]; done) | (refine scb ?_; simp_all [selTopOkP]; omega) | (simp_all [selTopOkP]; omega)))
                       simp [progOkP, hF]
                     · refine .skip (.xblk (.xseq (.region ?_))); refine .o ?_; refine .o (.nil ?_); refine .xlp (.back [1, 56, 57, 58] (ih1 (by assumption) ?_)); clear ih1; (try simp only [Hb_iff] at *)
                       exact all_step hx1 hH1 (by (first | (simp [selTopOkP, *]; done) | (simp at *; simp [selTopOkP, *]; done) | (simp at *; simp [selTopOkP, *]; omega) | (simp_all [selTopOkP]; done) | (refine scb ?_; simp [selTopOkP] at *; omega) | (refine scb ?_; simp_all [selTopOkP]; done) | (refine scb ?_; simp_all [selTopOkP]; omega) | (simp_all [selTopOkP]; omega)))
               · have hge1 : p.sels.length ≤ i := by simpa using h3
                 have hA1 := all_yes hH1 hge1; clear hH1 hge1; refine .exit (.eseq (.elp (.eblk (.xseq (.seq (.seq (.region ?_))))))); (iterate 3 refine .o ?_)
                 refine .o (.nil (.xseq (.block (.loop ?_)))); refine .bound 85 rfl fun hb2 => ?_; simp only [List.length_map, mxl] at hb2
                 refine .rng [1, 85, 86, 87] (fun i => [(87, .sc (.int .i64 (i : Nat)))]) (fun i => []) (fun i => (p.procs.take i).all (fun x => procOkP p x.code) = true) (p.procs.length) (by first | rfl | simp) (fun i hi2 hH2 ih2 => ?_)
                 refine .seq (.region ?_); refine .o (.nil (.xseq (.seq ?_))); refine .cs (fun h6 => ?_) (fun h6 => ?_)
                 · have hlt2 : i < p.procs.length := by simpa using h6
                   obtain ⟨x, hx2, hd2⟩ := drop_cons hlt2; have hn2 : (0 : Int) ≤ (i : Int) := Int.natCast_nonneg i
                   have hw2 : IntKind.i64.wrap ((i : Int) + 1) = ((i + 1 : Nat) : Int) := by rw [w64 (by omega) (by omega)]; rfl
                   refine .skip (.xseq (.seq (.block (.seq (.region ?_))))); (iterate 3 refine .o ?_); refine .o (.nil (.xseq (.seq (.region ?_)))); (iterate 2 refine .o ?_); refine .o ?_
                   refine .cl (c_spec_l04Proc _ _) ?_; refine .o (.nil (.xseq ?_)); refine .cs (fun h7 => ?_) (fun h7 => ?_)
                   · refine .seq (.region ?_); refine .o (.nil (.xseq (.ret (.rblk (.rseq (.rlp (.rblk (.rseq (.done ?_))))))))); refine .mk ?_; clear ih2; (try simp only [Hb_iff] at *)
                     have hF := all_no (f := fun x : Proc => procOkP p x.code) hx2 (by clear hH2; (first | (simp [*]; done) | (simp at *; simp [*]; done) | (simp at *; simp [*]; omega) | (simp_all ; done) | (refine scb ?_; simp  at *; omega) | (refine scb ?_; simp_all ; done) | (refine scb ?_; simp_all ; omega) | (simp_all ; omega)))
                     simp [progOkP, hF]
                   · refine .skip (.xblk (.xseq (.region ?_))); refine .o ?_; refine .o (.nil ?_); refine .xlp (.back [1, 85, 86, 87] (ih2 (by assumption) ?_)); clear ih2; (try simp only [Hb_iff] at *)
                     exact all_step hx2 hH2 (by clear hH2; (first | (simp [*]; done) | (simp at *; simp [*]; done) | (simp at *; simp [*]; omega) | (simp_all ; done) | (refine scb ?_; simp  at *; omega) | (refine scb ?_; simp_all ; done) | (refine scb ?_; simp_all ; omega) | (simp_all ; omega)))
                 · have hge2 : p.procs.length ≤ i := by simpa using h6
                   have hA2 := all_yes hH2 hge2; clear hH2 hge2; refine .exit (.eseq (.elp (.eblk (.xseq (.seq (.region ?_)))))); refine .o (.nil (.xseq (.ret (.done ?_)))); refine .mk ?_
                   (try simp only [Hb_iff] at *); have e : progOkP p = true := by (unfold progOkP; rw [hA0, hA1, hA2]; clear hA0 hA1 hA2; simp at *; omega)
                   rw [e]

theorem c_impl_ProgOk (p : Prog) : FnC Tryz.prog TA false 132 [.agg (eProgI p)] [] (.sc (.bool (progOkP p))) [] := by
 refine .ini Tryz.ntmps132 Tryz.results132 ?_; refine .seq (.region ?_); refine .o ?_; refine .o (.nil (.xseq (.seq (.seq (.region ?_))))); (iterate 4 refine .o ?_); refine .o ?_
 refine .sp 17 (fun s0 => ?_) (fun s0 => ?_)
 · (iterate 26 refine .o ?_); refine .o (.nil (.xseq ?_)); refine .cT (.seq (.region ?_)); refine .o (.nil (.xseq (.ret (.rseq (.done ?_))))); refine .mk ?_
   (try simp only [Hb_iff] at *)
   (first | (simp [progOkP, *]; done) | (simp at *; simp [progOkP, *]; done) | (simp at *; simp [progOkP, *]; omega) | (simp_all [progOkP]; done) | (refine scb ?_; simp [progOkP] at *; omega) | (refine scb ?_; simp_all [progOkP]; done) | (refine scb ?_; simp_all [progOkP]; omega) | (simp_all [progOkP]; omega))
 · (iterate 4 refine .o ?_); refine .o ?_; refine .sp 22 (fun s1 => ?_) (fun s1 => ?_)
   · (iterate 21 refine .o ?_); refine .o (.nil (.xseq ?_)); refine .cT (.seq (.region ?_)); refine .o (.nil (.xseq (.ret (.rseq (.done ?_))))); refine .mk ?_
     (try simp only [Hb_iff] at *)
     (first | (simp [progOkP, *]; done) | (simp at *; simp [progOkP, *]; done) | (simp at *; simp [progOkP, *]; omega) | (simp_all [progOkP]; done) | (refine scb ?_; simp [progOkP] at *; omega) | (refine scb ?_; simp_all [progOkP]; done) | (refine scb ?_; simp_all [progOkP]; omega) | (simp_all [progOkP]; omega))
   · (iterate 4 refine .o ?_); refine .o ?_; refine .sp 27 (fun s2 => ?_) (fun s2 => ?_)
     · (iterate 16 refine .o ?_); refine .o (.nil (.xseq ?_)); refine .cT (.seq (.region ?_)); refine .o (.nil (.xseq (.ret (.rseq (.done ?_))))); refine .mk ?_
       (try simp only [Hb_iff] at *)
       (first | (simp [progOkP, *]; done) | (simp at *; simp [progOkP, *]; done) | (simp at *; simp [progOkP, *]; omega) | (simp_all [progOkP]; done) | (refine scb ?_; simp [progOkP] at *; omega) | (refine scb ?_; simp_all [progOkP]; done) | (refine scb ?_; simp_all [progOkP]; omega) | (simp_all [progOkP]; omega))
     · (iterate 5 refine .o ?_); refine .o ?_; refine .sp 33 (fun s3 => ?_) (fun s3 => ?_)
       · (iterate 10 refine .o ?_); refine .o (.nil (.xseq ?_)); refine .cT (.seq (.region ?_)); refine .o (.nil (.xseq (.ret (.rseq (.done ?_))))); refine .mk ?_
         (try simp only [Hb_iff] at *)
         (first | (simp [progOkP, *]; done) | (simp at *; simp [progOkP, *]; done) | (simp at *; simp [progOkP, *]; omega) | (simp_all [progOkP]; done) | (refine scb ?_; simp [progOkP] at *; omega) | (refine scb ?_; simp_all [progOkP]; done) | (refine scb ?_; simp_all [progOkP]; omega) | (simp_all [progOkP]; omega))
       · (iterate 5 refine .o ?_); refine .o ?_; refine .sp 39 (fun s4 => ?_) (fun s4 => ?_)
         · (iterate 4 refine .o ?_); refine .o (.nil (.xseq ?_)); refine .cT (.seq (.region ?_)); refine .o (.nil (.xseq (.ret (.rseq (.done ?_))))); refine .mk ?_
           (try simp only [Hb_iff] at *)
           (first | (simp [progOkP, *]; done) | (simp at *; simp [progOkP, *]; done) | (simp at *; simp [progOkP, *]; omega) | (simp_all [progOkP]; done) | (refine scb ?_; simp [progOkP] at *; omega) | (refine scb ?_; simp_all [progOkP]; done) | (refine scb ?_; simp_all [progOkP]; omega) | (simp_all [progOkP]; omega))
         · (iterate 4 refine .o ?_); refine .o (.nil (.xseq ?_)); refine .cs (fun h0 => ?_) (fun h0 => ?_)
           · refine .seq (.region ?_); refine .o (.nil (.xseq (.ret (.rseq (.done ?_))))); refine .mk ?_; (try simp only [Hb_iff] at *)
             (first | (simp [progOkP, *]; done) | (simp at *; simp [progOkP, *]; done) | (simp at *; simp [progOkP, *]; omega) | (simp_all [progOkP]; done) | (refine scb ?_; simp [progOkP] at *; omega) | (refine scb ?_; simp_all [progOkP]; done) | (refine scb ?_; simp_all [progOkP]; omega) | (simp_all [progOkP]; omega))
           · refine .skip (.xseq (.seq (.seq (.region ?_)))); (iterate 3 refine .o ?_); refine .o (.nil (.xseq (.block (.loop ?_)))); refine .bound 46 rfl fun hb0 => ?_
             simp only [List.length_map, mxl] at hb0
             refine .rng [1, 46, 47, 48] (fun i => [(48, .sc (.int .i64 (i : Nat)))]) (fun i => []) (fun i => (p.caps.take i).all capOkP = true) (p.caps.length) (by first | rfl | simp) (fun i hi0 hH0 ih0 => ?_)
             refine .seq (.region ?_); refine .o (.nil (.xseq (.seq ?_))); refine .cs (fun h1 => ?_) (fun h1 => ?_)
             · have hlt0 : i < p.caps.length := by simpa using h1
               obtain ⟨x, hx0, hd0⟩ := drop_cons hlt0; have hn0 : (0 : Int) ≤ (i : Int) := Int.natCast_nonneg i
               have hw0 : IntKind.i64.wrap ((i : Int) + 1) = ((i + 1 : Nat) : Int) := by rw [w64 (by omega) (by omega)]; rfl
               refine .skip (.xseq (.seq (.block (.seq (.region ?_))))); (iterate 2 refine .o ?_); refine .o (.nil (.xseq (.seq (.region ?_)))); (iterate 2 refine .o ?_); refine .o ?_
               refine .sp 54 (fun s5 => ?_) (fun s5 => ?_)
               · (iterate 2 refine .o ?_); refine .o (.nil (.xseq ?_)); refine .cT (.seq (.region ?_)); refine .o (.nil (.xseq (.ret (.rblk (.rseq (.rlp (.rblk (.rseq (.done ?_)))))))))
                 refine .mk ?_; clear ih0; (try simp only [Hb_iff] at *)
                 have hF := all_no (f := capOkP) hx0 (by (first | (simp [capOkP, *]; done) | (simp at *; simp [capOkP, *]; done) | (simp at *; simp [capOkP, *]; omega) | (simp_all [capOkP]; done) | (refine scb ?_; simp [capOkP] at *; omega) | (refine scb ?_; simp_all [capOkP]; done) | (refine scb ?_; simp_all [capOkP]; omega) | (simp_all [capOkP]; omega)))
                 simp [progOkP, hF]
               · (iterate 2 refine .o ?_); refine .o (.nil (.xseq ?_)); refine .cs (fun h2 => ?_) (fun h2 => ?_)
                 · refine .seq (.region ?_); refine .o (.nil (.xseq (.ret (.rblk (.rseq (.rlp (.rblk (.rseq (.done ?_))))))))); refine .mk ?_; clear ih0; (try simp only [Hb_iff] at *)
                   have hF := all_no (f := capOkP) hx0 (by (first | (simp [capOkP, *]; done) | (simp at *; simp [capOkP, *]; done) | (simp at *; simp [capOkP, *]; omega) | (simp_all [capOkP]; done) | (refine scb ?_; simp [capOkP] at *; omega) | (refine scb ?_; simp_all [capOkP]; done) | (refine scb ?_; simp_all [capOkP]; omega) | (simp_all [capOkP]; omega)))
                   simp [progOkP, hF]
                 · refine .skip (.xblk (.xseq (.region ?_))); refine .o ?_; refine .o (.nil ?_); refine .xlp (.back [1, 46, 47, 48] (ih0 (by assumption) ?_)); clear ih0; (try simp only [Hb_iff] at *)
                   exact all_step hx0 hH0 (by (first | (simp [capOkP, *]; done) | (simp at *; simp [capOkP, *]; done) | (simp at *; simp [capOkP, *]; omega) | (simp_all [capOkP]; done) | (refine scb ?_; simp [capOkP] at *; omega) | (refine scb ?_; simp_all [capOkP]; done) | (refine scb ?_; simp_all [capOkP]; omega) | (simp_all [capOkP]; omega)))
             · have hge0 : p.caps.length ≤ i := by simpa using h1
               have hA0 := all_yes hH0 hge0; clear hH0 hge0; refine .exit (.eseq (.elp (.eblk (.xseq (.seq (.seq (.region ?_))))))); (iterate 3 refine .o ?_)
               refine .o (.nil (.xseq (.block (.loop ?_)))); refine .bound 60 rfl fun hb1 => ?_; simp only [List.length_map, mxl] at hb1
               refine .rng [1, 60, 61, 62] (fun i => [(62, .sc (.int .i64 (i : Nat)))]) (fun i => []) (fun i => (p.sels.take i).all (selTopOkP p) = true) (p.sels.length) (by first | rfl | simp) (fun i hi1 hH1 ih1 => ?_)
               refine .seq (.region ?_); refine .o (.nil (.xseq (.seq ?_))); refine .cs (fun h3 => ?_) (fun h3 => ?_)
               · have hlt1 : i < p.sels.length := by simpa using h3
                 obtain ⟨x, hx1, hd1⟩ := drop_cons hlt1; have hn1 : (0 : Int) ≤ (i : Int) := Int.natCast_nonneg i
                 have hw1 : IntKind.i64.wrap ((i : Int) + 1) = ((i + 1 : Nat) : Int) := by rw [w64 (by omega) (by omega)]; rfl
                 refine .skip (.xseq (.seq (.block (.seq (.region ?_))))); (iterate 3 refine .o ?_); refine .o (.nil (.xseq (.seq (.region ?_)))); (iterate 4 refine .o ?_); refine .o ?_
                 refine .sp 70 (fun s6 => ?_) (fun s6 => ?_)
                 · (iterate 15 refine .o ?_); refine .o (.nil (.xseq ?_)); refine .cT (.seq (.region ?_)); refine .o (.nil (.xseq (.ret (.rblk (.rseq (.rlp (.rblk (.rseq (.done ?_)))))))))
                   refine .mk ?_; clear ih1; (try simp only [Hb_iff] at *)
                   have hF := all_no (f := selTopOkP p) hx1 (by clear hH1; (first | (simp [selTopOkP, *]; done) | (simp at *; simp [selTopOkP, *]; done) | (simp at *; simp [selTopOkP, *]; omega) | (simp_all [selTopOkP]; done) | (refine scb ?_; simp [selTopOkP] at *; omega) | (refine scb ?_; simp_all [selTopOkP]; done) | (refine scb ?_; simp_all [selTopOkP]; omega) | (simp_all [selTopOkP]; omega)))
                   simp [progOkP, hF]
                 · (iterate 4 refine .o ?_); refine .o ?_; refine .sp 75 (fun s7 => ?_) (fun s7 => ?_)
                   · (iterate 5 refine .o ?_); refine .o ?_; refine .sp 81 (fun s8 => ?_) (fun s8 => ?_)
                     · (iterate 4 refine .o ?_); refine .o (.nil (.xseq ?_)); refine .cT (.seq (.region ?_)); refine .o (.nil (.xseq (.ret (.rblk (.rseq (.rlp (.rblk (.rseq (.done ?_)))))))))
                       refine .mk ?_; clear ih1; (try simp only [Hb_iff] at *)
                       have hF := all_no (f := selTopOkP p) hx1 (by clear hH1; (first | (simp [selTopOkP, *]; done) | (simp at *; simp [selTopOkP, *]; done) | (simp at *; simp [selTopOkP, *]; omega) | (simp_all [selTopOkP]; done) | (refine scb ?_; simp [selTopOkP] at *; omega) | (refine scb ?_; simp_all [selTopOkP]; done) | (refine scb ?_; simp_all [selTopOkP]; omega) | (simp_all [selTopOkP]; omega)))
                       simp [progOkP, hF]
                     · refine .o ?_; refine .o ?_; have hsc : x.cases.length ≤ 1000 := by (simp at *; omega)
                       refine .cl (c_impl_SelectOk _ _ _ hsc) ?_; refine .o ?_; refine .o (.nil (.xseq ?_)); refine .cs (fun h4 => ?_) (fun h4 => ?_)
                       · refine .seq (.region ?_); refine .o (.nil (.xseq (.ret (.rblk (.rseq (.rlp (.rblk (.rseq (.done ?_))))))))); refine .mk ?_; clear ih1; (try simp only [Hb_iff] at *)
                         have hF := all_no (f := selTopOkP p) hx1 (by clear hH1; (first | (simp [selTopOkP, *]; done) | (simp at *; simp [selTopOkP, *]; done) | (simp at *; simp [selTopOkP, *]; omega) | (simp_all [selTopOkP]; done) | (refine scb ?_; simp [selTopOkP] at *; omega) | (refine scb ?_; simp_all [selTopOkP]; done) | (refine scb ?_; simp_all [selTopOkP]; omega) | (simp_all [selTopOkP]; omega)))
                         simp [progOkP, hF]
                       · refine .skip (.xblk (.xseq (.region ?_))); refine .o ?_; refine .o (.nil ?_); refine .xlp (.back [1, 60, 61, 62] (ih1 (by assumption) ?_)); clear ih1; (try simp only [Hb_iff] at *)
                         have hq := @selectOk_els p 40 x
                         exact all_step hx1 hH1 (by clear hH1; (first | (simp [selTopOkP, *]; done) | (simp at *; simp [selTopOkP, *]; done) | (simp at *; simp [selTopOkP, *]; omega) | (simp_all [selTopOkP]; done) | (refine scb ?_; simp [selTopOkP] at *; omega) | (refine scb ?_; simp_all [selTopOkP]; done) | (refine scb ?_; simp_all [selTopOkP]; omega) | (simp_all [selTopOkP]; omega)))
                   · (iterate 7 refine .o ?_); refine .o ?_; have hsc : x.cases.length ≤ 1000 := by (simp at *; omega)
                     refine .cl (c_impl_SelectOk _ _ _ hsc) ?_; refine .o ?_; refine .o (.nil (.xseq ?_)); refine .cs (fun h5 => ?_) (fun h5 => ?_)
                     · refine .seq (.region ?_); refine .o (.nil (.xseq (.ret (.rblk (.rseq (.rlp (.rblk (.rseq (.done ?_))))))))); refine .mk ?_; clear ih1; (try simp only [Hb_iff] at *)
                       have hF := all_no (f := selTopOkP p) hx1 (by clear hH1; (first | (simp [selTopOkP, *]; done) | (simp at *; simp [selTopOkP, *]; done) | (simp at *; simp [selTopOkP, *]; omega) | (simp_all [selTopOkP]; done) | (refine scb ?_; simp [selTopOkP] at *; omega) | (refine scb ?_; simp_all [selTopOkP]; done) | (refine scb ?_; simp_all [selTopOkP]; omega) | (simp_all [selTopOkP]; omega)))
                       simp [progOkP, hF]
                     · refine .skip (.xblk (.xseq (.region ?_))); refine .o ?_; refine .o (.nil ?_); refine .xlp (.back [1, 60, 61, 62] (ih1 (by assumption) ?_)); clear ih1; (try simp only [Hb_iff] at *)
                       have hq := @selectOk_els p 40 x
                       exact all_step hx1 hH1 (by clear hH1; (first | (simp [selTopOkP, *]; done) | (simp at *; simp [selTopOkP, *]; done) | (simp at *; simp [selTopOkP, *]; omega) | (simp_all [selTopOkP]; done) | (refine scb ?_; simp [selTopOkP] at *; omega) | (refine scb ?_; simp_all [selTopOkP]; done) | (refine scb ?_; simp_all [selTopOkP]; omega) | (simp_all [selTopOkP]; omega)))
               · have hge1 : p.sels.length ≤ i := by simpa using h3
                 have hA1 := all_yes hH1 hge1; clear hH1 hge1; refine .exit (.eseq (.elp (.eblk (.xseq (.seq (.seq (.region ?_))))))); (iterate 3 refine .o ?_)
                 refine .o (.nil (.xseq (.block (.loop ?_)))); refine .bound 89 rfl fun hb2 => ?_; simp only [List.length_map, mxl] at hb2
                 refine .rng [1, 89, 90, 91] (fun i => [(91, .sc (.int .i64 (i : Nat)))]) (fun i => []) (fun i => (p.procs.take i).all (fun x => procOkP p x.code) = true) (p.procs.length) (by first | rfl | simp) (fun i hi2 hH2 ih2 => ?_)
                 refine .seq (.region ?_); refine .o (.nil (.xseq (.seq ?_))); refine .cs (fun h6 => ?_) (fun h6 => ?_)
                 · have hlt2 : i < p.procs.length := by simpa using h6
                   obtain ⟨x, hx2, hd2⟩ := drop_cons hlt2; have hn2 : (0 : Int) ≤ (i : Int) := Int.natCast_nonneg i
                   have hw2 : IntKind.i64.wrap ((i : Int) + 1) = ((i + 1 : Nat) : Int) := by rw [w64 (by omega) (by omega)]; rfl
                   refine .skip (.xseq (.seq (.block (.seq (.region ?_))))); (iterate 3 refine .o ?_); refine .o (.nil (.xseq (.seq (.region ?_)))); (iterate 3 refine .o ?_)
                   refine .o (.nil (.xseq (.seq (.seq (.region ?_))))); (iterate 2 refine .o ?_); refine .o ?_; refine .sp 100 (fun s9 => ?_) (fun s9 => ?_)
                   · (iterate 2 refine .o ?_); refine .o (.nil (.xseq ?_)); refine .cT (.seq (.region ?_)); refine .o (.nil (.xseq (.ret (.rseq (.rblk (.rseq (.rlp (.rblk (.rseq (.done ?_))))))))))
                     refine .mk ?_; clear ih2; (try simp only [Hb_iff] at *)
                     have hF := all_no (f := fun x : Proc => procOkP p x.code) hx2 (by clear hH2; (first | (simp [procOkP, *]; done) | (simp at *; simp [procOkP, *]; done) | (simp at *; simp [procOkP, *]; omega) | (simp_all [procOkP]; done) | (refine scb ?_; simp [procOkP] at *; omega) | (refine scb ?_; simp_all [procOkP]; done) | (refine scb ?_; simp_all [procOkP]; omega) | (simp_all [procOkP]; omega)))
                     simp [progOkP, hF]
                   · (iterate 2 refine .o ?_); refine .o (.nil (.xseq ?_)); refine .cs (fun h7 => ?_) (fun h7 => ?_)
                     · refine .seq (.region ?_); refine .o (.nil (.xseq (.ret (.rseq (.rblk (.rseq (.rlp (.rblk (.rseq (.done ?_)))))))))); refine .mk ?_; clear ih2; (try simp only [Hb_iff] at *)
                       have hF := all_no (f := fun x : Proc => procOkP p x.code) hx2 (by clear hH2; (first | (simp [procOkP, *]; done) | (simp at *; simp [procOkP, *]; done) | (simp at *; simp [procOkP, *]; omega) | (simp_all [procOkP]; done) | (refine scb ?_; simp [procOkP] at *; omega) | (refine scb ?_; simp_all [procOkP]; done) | (refine scb ?_; simp_all [procOkP]; omega) | (simp_all [procOkP]; omega)))
                       simp [progOkP, hF]
                     · refine .skip (.xseq (.seq (.seq (.region ?_)))); (iterate 3 refine .o ?_); refine .o (.nil (.xseq (.block (.loop ?_)))); refine .bound 105 rfl fun hb3 => ?_
                       simp only [List.length_map, mxl] at hb3
                       refine .rng [1, 8, 9, 89, 90, 91, 105, 106, 107] (fun j => [(107, .sc (.int .i64 (j : Nat)))]) (fun j => []) (fun j => (x.code.take j).all (instrSelOkP p x.code.length) = true) (x.code.length) (by first | rfl | simp) (fun j hi3 hH3 ih3 => ?_)
                       refine .seq (.region ?_); refine .o (.nil (.xseq (.seq ?_))); refine .cs (fun h8 => ?_) (fun h8 => ?_)
                       · have hlt3 : j < x.code.length := by simpa using h8
                         obtain ⟨y, hx3, hd3⟩ := drop_cons hlt3; have hn3 : (0 : Int) ≤ (j : Int) := Int.natCast_nonneg j
                         have hw3 : IntKind.i64.wrap ((j : Int) + 1) = ((j + 1 : Nat) : Int) := by rw [w64 (by omega) (by omega)]; rfl
                         refine .skip (.xseq (.seq (.block (.seq (.region ?_))))); (iterate 3 refine .o ?_); refine .o (.nil (.xseq (.seq ?_)))
                         refine .drawnK 22 [(0, false), (1, false), (2, false), (3, false), (4, false), (5, false), (6, false), (7, false), (8, false), (9, false), (10, false), (11, false), (12, false), (13, false), (14, false), (15, false), (16, false), (17, false), (18, false), (19, false), (20, false), (21, false)] mixed (by kernel_rfl) ?_
                         (iterate 2 refine .o ?_); refine .o ?_; refine .cl (c_impl_InstrOk _ _ _) ?_; refine .o ?_; refine .o ?_; refine .sp 116 (fun s10 => ?_) (fun s10 => ?_)
                         · (iterate 15 refine .o ?_); refine .o (.nil (.nil (.xseq ?_))); refine .cT (.seq (.region ?_))
                           refine .o (.nil (.xseq (.ret (.rblk (.rseq (.rlp (.rblk (.rseq (.rblk (.rseq (.rlp (.rblk (.rseq (.done ?_)))))))))))))); refine .mk ?_; clear ih3 ih2; (try simp only [Hb_iff] at *)
                           have hF3 := all_no (f := instrSelOkP p x.code.length) hx3 (by clear hH2 hH3; (first | (simp [instrSelOkP, *]; done) | (simp at *; simp [instrSelOkP, *]; done) | (simp at *; simp [instrSelOkP, *]; omega) | (simp_all [instrSelOkP]; done) | (refine scb ?_; simp [instrSelOkP] at *; omega) | (refine scb ?_; simp_all [instrSelOkP]; done) | (refine scb ?_; simp_all [instrSelOkP]; omega) | (simp_all [instrSelOkP]; omega)))
                           have hF := all_no (f := fun x : Proc => procOkP p x.code) hx2 (by simp [procOkP, hF3]); simp [progOkP, hF]
                         · (iterate 3 refine .o ?_); refine .o ?_; refine .sp 120 (fun s11 => ?_) (fun s11 => ?_)
                           · have hok : instrOkP p (x.code.length : Int) y = true := by (simp at *; assumption)
                             have h11 : y.op = 11 := by (simp at *; assumption)
                             obtain ⟨hs1, hs2⟩ := instr_sel hok h11; have hsc := sel_cases hA1 hs2; (iterate 7 refine .o ?_); refine .o ?_; refine .cl (c_impl_SelectOk _ _ _ hsc) ?_; (iterate 2 refine .o ?_)
                             refine .o (.nil (.nil (.xseq ?_))); refine .cs (fun h9 => ?_) (fun h9 => ?_)
                             · refine .seq (.region ?_); refine .o (.nil (.xseq (.ret (.rblk (.rseq (.rlp (.rblk (.rseq (.rblk (.rseq (.rlp (.rblk (.rseq (.done ?_)))))))))))))); refine .mk ?_; clear ih3 ih2
                               (try simp only [Hb_iff] at *)
                               have hF3 := all_no (f := instrSelOkP p x.code.length) hx3 (by clear hH2 hH3; (first | (simp [instrSelOkP, *]; done) | (simp at *; simp [instrSelOkP, *]; done) | (simp at *; simp [instrSelOkP, *]; omega) | (simp_all [instrSelOkP]; done) | (refine scb ?_; simp [instrSelOkP] at *; omega) | (refine scb ?_; simp_all [instrSelOkP]; done) | (refine scb ?_; simp_all [instrSelOkP]; omega) | (simp_all [instrSelOkP]; omega)))
                               have hF := all_no (f := fun x : Proc => procOkP p x.code) hx2 (by simp [procOkP, hF3]); simp [progOkP, hF]
                             · refine .skip (.xblk (.xseq (.region ?_))); refine .o ?_; refine .o (.nil ?_); refine .xlp (.back [1, 8, 9, 89, 90, 91, 105, 106, 107] (ih3 (by assumption) ?_)); clear ih3 ih2
                               (try simp only [Hb_iff] at *)
                               exact all_step hx3 hH3 (by clear hH3 hH2; (first | (simp [instrSelOkP, *]; done) | (simp at *; simp [instrSelOkP, *]; done) | (simp at *; simp [instrSelOkP, *]; omega) | (simp_all [instrSelOkP]; done) | (refine scb ?_; simp [instrSelOkP] at *; omega) | (refine scb ?_; simp_all [instrSelOkP]; done) | (refine scb ?_; simp_all [instrSelOkP]; omega) | (simp_all [instrSelOkP]; omega)))
                           · (iterate 11 refine .o ?_); refine .o (.nil (.nil (.xseq ?_))); refine .cF (.skip (.xblk (.xseq (.region ?_)))); refine .o ?_; refine .o (.nil ?_)
                             refine .xlp (.back [1, 8, 9, 89, 90, 91, 105, 106, 107] (ih3 (by assumption) ?_)); clear ih3 ih2; (try simp only [Hb_iff] at *)
                             exact all_step hx3 hH3 (by clear hH3 hH2; (first | (simp [instrSelOkP, *]; done) | (simp at *; simp [instrSelOkP, *]; done) | (simp at *; simp [instrSelOkP, *]; omega) | (simp_all [instrSelOkP]; done) | (refine scb ?_; simp [instrSelOkP] at *; omega) | (refine scb ?_; simp_all [instrSelOkP]; done) | (refine scb ?_; simp_all [instrSelOkP]; omega) | (simp_all [instrSelOkP]; omega)))
                       · have hge3 : x.code.length ≤ j := by simpa using h8
                         have hA3 := all_yes hH3 hge3; clear hH3 hge3; refine .exit (.eseq (.elp (.eblk (.xseq (.seq ?_))))); have hlen : 1 ≤ x.code.length := by (simp at *; omega)
                         have hlen2 : x.code.length ≤ 40 := by (simp at *; omega)
                         have hlast := last_get hlen; have hwl : IntKind.i64.wrap ((x.code.length : Int) - 1) = (x.code.length : Int) - 1 := w64 (by omega) (by omega)
                         have hl0 : (0 : Int) ≤ (x.code.length : Int) - 1 := by omega
                         refine .region ?_; (iterate 7 refine .o ?_); refine .o (.nil (.xseq (.seq (.region ?_)))); (iterate 2 refine .o ?_); refine .o ?_; refine .sp 143 (fun s12 => ?_) (fun s12 => ?_)
                         · (iterate 2 refine .o ?_); refine .o (.nil (.xseq ?_)); refine .cs (fun h10 => ?_) (fun h10 => ?_)
                           · refine .seq (.region ?_); refine .o (.nil (.xseq (.ret (.rblk (.rseq (.rlp (.rblk (.rseq (.done ?_))))))))); refine .mk ?_; clear ih2; (try simp only [Hb_iff] at *)
                             have hF := all_no (f := fun x : Proc => procOkP p x.code) hx2 (by clear hH2; (first | (simp [procOkP, lastOpP, *]; done) | (simp at *; simp [procOkP, lastOpP, *]; done) | (simp at *; simp [procOkP, lastOpP, *]; omega) | (simp_all [procOkP, lastOpP]; done) | (refine scb ?_; simp [procOkP, lastOpP] at *; omega) | (refine scb ?_; simp_all [procOkP, lastOpP]; done) | (refine scb ?_; simp_all [procOkP, lastOpP]; omega) | (simp_all [procOkP, lastOpP]; omega)))
                             simp [progOkP, hF]
                           · refine .skip (.xblk (.xseq (.region ?_))); refine .o ?_; refine .o (.nil ?_); refine .xlp (.back [1, 89, 90, 91] (ih2 (by assumption) ?_)); clear ih2; (try simp only [Hb_iff] at *)
                             exact all_step hx2 hH2 (by clear hH2; (first | (simp [procOkP, lastOpP, *]; done) | (simp at *; simp [procOkP, lastOpP, *]; done) | (simp at *; simp [procOkP, lastOpP, *]; omega) | (simp_all [procOkP, lastOpP]; done) | (refine scb ?_; simp [procOkP, lastOpP] at *; omega) | (refine scb ?_; simp_all [procOkP, lastOpP]; done) | (refine scb ?_; simp_all [procOkP, lastOpP]; omega) | (simp_all [procOkP, lastOpP]; omega)))
                         · (iterate 2 refine .o ?_); refine .o (.nil (.xseq ?_)); refine .cF (.skip (.xblk (.xseq (.region ?_)))); refine .o ?_; refine .o (.nil ?_)
                           refine .xlp (.back [1, 89, 90, 91] (ih2 (by assumption) ?_)); clear ih2; (try simp only [Hb_iff] at *)
                           exact all_step hx2 hH2 (by clear hH2; (first | (simp [procOkP, lastOpP, *]; done) | (simp at *; simp [procOkP, lastOpP, *]; done) | (simp at *; simp [procOkP, lastOpP, *]; omega) | (simp_all [procOkP, lastOpP]; done) | (refine scb ?_; simp [procOkP, lastOpP] at *; omega) | (refine scb ?_; simp_all [procOkP, lastOpP]; done) | (refine scb ?_; simp_all [procOkP, lastOpP]; omega) | (simp_all [procOkP, lastOpP]; omega)))
                 · have hge2 : p.procs.length ≤ i := by simpa using h6
                   have hA2 := all_yes hH2 hge2; clear hH2 hge2; refine .exit (.eseq (.elp (.eblk (.xseq (.seq (.region ?_)))))); refine .o (.nil (.xseq (.ret (.done ?_)))); refine .mk ?_
                   (try simp only [Hb_iff] at *); have e : progOkP p = true := by (unfold progOkP; rw [hA0, hA1, hA2]; clear hA0 hA1 hA2; simp at *; omega)
                   rw [e]
end Go.Proofs.AM
