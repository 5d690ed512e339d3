/- A part of the proof: the walk of functions of the program, or the rules of the walk. -/
import Derived.Test.YthilnfccfjcgfaaGreatA1X
import Derived.Test.YthilnfccfjcgfaaGreatA1W
import Derived.Test.YthilnfccfjcgfaaGreatAmPure4
set_option linter.unusedSimpArgs false
set_option linter.unusedVariables false
namespace Go.Proofs.AM
open Go Go.Proofs
set_option maxHeartbeats 4000000
set_option maxRecDepth 100000

theorem c_impl_EngOk (p : Prog) (e : Eng) (hf : FitG e) : FnC Tryz.prog TA false 95 [.agg (eProgI p), .agg (eEngI e)] [] (.sc (.bool (engOkP p e))) [] := by
 refine .ini Tryz.ntmps95 Tryz.results95 ?_; refine .seq (.region ?_); (iterate 2 refine .o ?_); refine .o (.nil (.xseq (.seq (.seq (.region ?_))))); refine .o ?_
 refine .cl (c_impl_ProgOk _) ?_; refine .o ?_; refine .o ?_; refine .sp 25 (fun s0 => ?_) (fun s0 => ?_)
 · (iterate 27 refine .o ?_); refine .o (.nil (.xseq ?_)); refine .cT (.seq (.region ?_)); refine .o (.nil (.xseq (.ret (.rseq (.done ?_))))); refine .mk ?_
   (try simp only [Hb_iff, Bool.not_eq_true', Bool.not_eq_false'] at *)
   all_goals ((first | (simp [engOkP, objectsP, *]; done) | (simp at *; simp [engOkP, objectsP, *]; done) | (simp at *; simp [engOkP, objectsP, *]; omega) | (simp_all [engOkP, objectsP]; done) | (refine scb ?_; simp [engOkP, objectsP] at *; omega) | (refine scb ?_; simp_all [engOkP, objectsP]; done) | (refine scb ?_; simp_all [engOkP, objectsP] <;> omega) | (simp_all [engOkP, objectsP]; omega)))
 · (iterate 5 refine .o ?_); refine .o ?_; refine .sp 31 (fun s1 => ?_) (fun s1 => ?_)
   · (iterate 21 refine .o ?_); refine .o (.nil (.xseq ?_)); refine .cT (.seq (.region ?_)); refine .o (.nil (.xseq (.ret (.rseq (.done ?_))))); refine .mk ?_
     (try simp only [Hb_iff, Bool.not_eq_true', Bool.not_eq_false'] at *)
     all_goals ((first | (simp [engOkP, objectsP, *]; done) | (simp at *; simp [engOkP, objectsP, *]; done) | (simp at *; simp [engOkP, objectsP, *]; omega) | (simp_all [engOkP, objectsP]; done) | (refine scb ?_; simp [engOkP, objectsP] at *; omega) | (refine scb ?_; simp_all [engOkP, objectsP]; done) | (refine scb ?_; simp_all [engOkP, objectsP] <;> omega) | (simp_all [engOkP, objectsP]; omega)))
   · (iterate 5 refine .o ?_); refine .o ?_; refine .sp 37 (fun s2 => ?_) (fun s2 => ?_)
     · (iterate 15 refine .o ?_); refine .o (.nil (.xseq ?_)); refine .cT (.seq (.region ?_)); refine .o (.nil (.xseq (.ret (.rseq (.done ?_))))); refine .mk ?_
       (try simp only [Hb_iff, Bool.not_eq_true', Bool.not_eq_false'] at *)
       all_goals ((first | (simp [engOkP, objectsP, *]; done) | (simp at *; simp [engOkP, objectsP, *]; done) | (simp at *; simp [engOkP, objectsP, *]; omega) | (simp_all [engOkP, objectsP]; done) | (refine scb ?_; simp [engOkP, objectsP] at *; omega) | (refine scb ?_; simp_all [engOkP, objectsP]; done) | (refine scb ?_; simp_all [engOkP, objectsP] <;> omega) | (simp_all [engOkP, objectsP]; omega)))
     · (iterate 8 refine .o ?_); refine .o ?_; refine .sp 46 (fun s3 => ?_) (fun s3 => ?_)
       · (iterate 6 refine .o ?_); refine .o (.nil (.xseq ?_)); refine .cT (.seq (.region ?_)); refine .o (.nil (.xseq (.ret (.rseq (.done ?_))))); refine .mk ?_
         (try simp only [Hb_iff, Bool.not_eq_true', Bool.not_eq_false'] at *)
         all_goals ((first | (simp [engOkP, objectsP, *]; done) | (simp at *; simp [engOkP, objectsP, *]; done) | (simp at *; simp [engOkP, objectsP, *]; omega) | (simp_all [engOkP, objectsP]; done) | (refine scb ?_; simp [engOkP, objectsP] at *; omega) | (refine scb ?_; simp_all [engOkP, objectsP]; done) | (refine scb ?_; simp_all [engOkP, objectsP] <;> omega) | (simp_all [engOkP, objectsP]; omega)))
       · (iterate 6 refine .o ?_); refine .o (.nil (.xseq ?_)); refine .cs (fun h0 => ?_) (fun h0 => ?_)
         · refine .seq (.region ?_); refine .o (.nil (.xseq (.ret (.rseq (.done ?_))))); refine .mk ?_; (try simp only [Hb_iff, Bool.not_eq_true', Bool.not_eq_false'] at *)
           all_goals ((first | (simp [engOkP, objectsP, *]; done) | (simp at *; simp [engOkP, objectsP, *]; done) | (simp at *; simp [engOkP, objectsP, *]; omega) | (simp_all [engOkP, objectsP]; done) | (refine scb ?_; simp [engOkP, objectsP] at *; omega) | (refine scb ?_; simp_all [engOkP, objectsP]; done) | (refine scb ?_; simp_all [engOkP, objectsP] <;> omega) | (simp_all [engOkP, objectsP]; omega)))
         · have hpo : progOkP p = true := by (simp at *; simp [*])
           have hg1 : 1 ≤ e.gs.length := by (simp at *; omega)
           have hg2 : e.gs.length ≤ 10 := by (simp at *; omega)
           have hl : p.caps.length = e.chans.length := by (simp at *; omega)
           have hl2 : Hb (p.mus = (e.mus.length : Int)) := by (simp at *; omega)
           refine .skip (.xseq (.seq (.region ?_))); refine .mkm fun r => ?_; refine .o (.nil (.xseq (.seq (.seq (.region ?_))))); (iterate 3 refine .o ?_)
           refine .o (.nil (.xseq (.block (.loop ?_)))); refine .bound 56 rfl fun hb0 => ?_; simp only [List.length_map, mxl] at hb0
           refine .rngO [2, 3, 5, 56, 57, 58] (fun i => [(58, .sc (.int .i64 (i : Nat)))]) (fun i => []) (fun i => [(r, mO (upK 1 [] (gorsWant p 0 (e.gs.take i))))]) (fun i => (e.gs.take i).all (gorInP p) = true) (e.gs.length) (by first | rfl | simp) (fun i hi0 hH0 ih0 => ?_)
           refine .seq (.region ?_); refine .o (.nil (.xseq (.seq ?_))); refine .cs (fun h1 => ?_) (fun h1 => ?_)
           · have hlt0 : i < e.gs.length := by simpa using h1
             obtain ⟨x, hx0, hd0⟩ := drop_cons hlt0; have hn0 : (0 : Int) ≤ (i : Int) := Int.natCast_nonneg i
             have hw0 : IntKind.i64.wrap ((i : Int) + 1) = ((i + 1 : Nat) : Int) := by rw [w64 (by omega) (by omega)]; rfl
             refine .skip (.xseq (.seq (.block (.seq (.region ?_))))); (iterate 5 refine .o ?_); refine .o (.nil (.xseq (.seq (.seq (.region ?_))))); refine .o ?_; refine .o ?_
             refine .cl (c_impl_GorOk _ _) ?_; refine .o ?_; refine .o ?_; refine .sp 67 (fun s4 => ?_) (fun s4 => ?_)
             · (iterate 9 refine .o ?_); refine .o (.nil (.xseq ?_)); refine .cT (.seq (.region ?_)); refine .o (.nil (.xseq (.ret (.rseq (.rblk (.rseq (.rlp (.rblk (.rseq (.done ?_))))))))))
               refine .mk ?_; clear ih0; (try simp only [Hb_iff, Bool.not_eq_true', Bool.not_eq_false'] at *)
               have hF := all_no (f := gorInP p) hx0 (by clear hH0; (first | (simp [gorInP, gorOkP, mayWaitP, *]; done) | (simp at *; simp [gorInP, gorOkP, mayWaitP, *]; done) | (simp at *; simp [gorInP, gorOkP, mayWaitP, *]; omega) | (simp_all [gorInP, gorOkP, mayWaitP]; done) | (refine scb ?_; simp [gorInP, gorOkP, mayWaitP] at *; omega) | (refine scb ?_; simp_all [gorInP, gorOkP, mayWaitP]; done) | (refine scb ?_; simp_all [gorInP, gorOkP, mayWaitP] <;> omega) | (simp_all [gorInP, gorOkP, mayWaitP]; omega)))
               all_goals (simp only [engOkP, hF, Bool.and_false, Bool.false_and])
             · (iterate 3 refine .o ?_); refine .o ?_; refine .sp 71 (fun s5 => ?_) (fun s5 => ?_)
               · refine .o ?_; refine .o ?_; refine .cl (c_impl_MayWait _ _) ?_; (iterate 2 refine .o ?_); refine .o (.nil (.xseq ?_)); refine .cs (fun h2 => ?_) (fun h2 => ?_)
                 · refine .seq (.region ?_); refine .o (.nil (.xseq (.ret (.rseq (.rblk (.rseq (.rlp (.rblk (.rseq (.done ?_)))))))))); refine .mk ?_; clear ih0
                   (try simp only [Hb_iff, Bool.not_eq_true', Bool.not_eq_false'] at *)
                   have hF := all_no (f := gorInP p) hx0 (by clear hH0; (first | (simp [gorInP, gorOkP, mayWaitP, *]; done) | (simp at *; simp [gorInP, gorOkP, mayWaitP, *]; done) | (simp at *; simp [gorInP, gorOkP, mayWaitP, *]; omega) | (simp_all [gorInP, gorOkP, mayWaitP]; done) | (refine scb ?_; simp [gorInP, gorOkP, mayWaitP] at *; omega) | (refine scb ?_; simp_all [gorInP, gorOkP, mayWaitP]; done) | (refine scb ?_; simp_all [gorInP, gorOkP, mayWaitP] <;> omega) | (simp_all [gorInP, gorOkP, mayWaitP]; omega)))
                   all_goals (simp only [engOkP, hF, Bool.and_false, Bool.false_and])
                 · refine .skip (.xseq (.seq ?_)); have hgk : gorOkP p x = true := by (clear ih0; simp at *; simp [*])
                   have hL := gorsWant_at p hx0; have hL2 := placesQ_want hgk i; refine .region ?_; (iterate 2 refine .o ?_); refine .o ?_; refine .cl (c_impl_Places _ _ _) ?_; refine .o ?_
                   refine .o (.nil (.xseq (.block ?_))); have hwl := gorWant_len4 hgk i; refine .loop ?_
                   refine .rngO [2, 3, 5, 56, 57, 58, 81, 82, 83] (fun j => [(83, .sc (.int .i64 (j : Nat)))]) (fun j => []) (fun j => [(r, mO (upK 1 (upK 1 [] (gorsWant p 0 (e.gs.take i))) ((gorWant p i x).take j)))]) (fun j => True) ((gorWant p i x).length) (trivial) (fun j hi1 hH1 ih1 => ?_)
                   refine .seq (.region ?_); refine .o (.nil (.xseq (.seq ?_))); refine .cs (fun h3 => ?_) (fun h3 => ?_)
                   · have hlt1 : j < (gorWant p i x).length := by simpa using h3
                     obtain ⟨y, hx1, hd1⟩ := drop_cons hlt1; have hn1 : (0 : Int) ≤ (j : Int) := Int.natCast_nonneg j
                     have hw1 : IntKind.i64.wrap ((j : Int) + 1) = ((j + 1 : Nat) : Int) := by rw [w64 (by omega) (by omega)]; rfl
                     have hli : (j : Int) < ((gorWant p i x).length : Int) := by omega
                     have hM := upK_at 1 (M := upK 1 [] (gorsWant p 0 (e.gs.take i))) hx1; refine .skip (.xseq (.seq (.block (.seq (.region ?_))))); (iterate 3 refine .o ?_); refine .o (.nil (.xseq ?_))
                     refine .drawnK 6 [(0, false), (1, false), (2, false), (3, false), (4, true), (5, false)] mixed (by kernel_rfl) ?_; refine .o ?_; refine .o ?_
                     refine .lkp (upK 1 (upK 1 [] (gorsWant p 0 (e.gs.take i))) ((gorWant p i x).take j)) (y) mapT ?_; refine .o ?_
                     refine .me (upK 1 (upK 1 [] (gorsWant p 0 (e.gs.take i))) ((gorWant p i x).take j)) (y) mapT ?_; refine .o (.nil ?_)
                     refine .es (upK 1 (upK 1 [] (gorsWant p 0 (e.gs.take i))) ((gorWant p i x).take j)) (y) (IntKind.i64.wrap (lk (upK 1 (upK 1 [] (gorsWant p 0 (e.gs.take i))) ((gorWant p i x).take j)) (y) + 1)) ?_
                     refine .nil (.xblk (.xseq (.region ?_))); refine .o ?_; refine .o (.nil ?_); refine .xlp (.back [2, 3, 5, 56, 57, 58, 81, 82, 83] (ih1 (by assumption) ?_)); clear ih1 ih0; trivial
                   · have hge1 : (gorWant p i x).length ≤ j := by simpa using h3
                     clear ih1
                     have hM : upK 1 (upK 1 [] (gorsWant p 0 (e.gs.take i))) ((gorWant p i x).take j) = upK 1 [] (gorsWant p 0 (e.gs.take (i + 1))) := by rw [List.take_of_length_le hge1, hL, upK_app]
                     refine .exit (.eseq (.elp (.eblk (.xblk (.xseq (.region ?_)))))); refine .o ?_; refine .o (.nil ?_); refine .xlp (.back [2, 3, 5, 56, 57, 58] (ih0 (by assumption) ?_)); clear ih0
                     (try simp only [Hb_iff, Bool.not_eq_true', Bool.not_eq_false'] at *)
                     exact all_step hx0 hH0 (by clear hH0 hL hL2 hM hwl; have hg1x := (gor_split hgk).2; simp only [mayWaitP, hgk, Bool.true_and] at *; clear hgk; (first | (simp [gorInP, *]; done) | (simp at *; simp [gorInP, *]; done) | (simp at *; simp [gorInP, *]; omega) | (simp_all [gorInP]; done) | (refine scb ?_; simp [gorInP] at *; omega) | (refine scb ?_; simp_all [gorInP]; done) | (refine scb ?_; simp_all [gorInP] <;> omega) | (simp_all [gorInP]; omega)))
               · (iterate 5 refine .o ?_); refine .o (.nil (.xseq ?_)); refine .cF (.skip (.xseq (.seq ?_))); have hgk : gorOkP p x = true := by (clear ih0; simp at *; simp [*])
                 have hL := gorsWant_at p hx0; have hL2 := placesQ_want hgk i; refine .region ?_; (iterate 2 refine .o ?_); refine .o ?_; refine .cl (c_impl_Places _ _ _) ?_; refine .o ?_
                 refine .o (.nil (.xseq (.block ?_))); have hwl := gorWant_len4 hgk i; refine .loop ?_
                 refine .rngO [2, 3, 5, 56, 57, 58, 81, 82, 83] (fun j => [(83, .sc (.int .i64 (j : Nat)))]) (fun j => []) (fun j => [(r, mO (upK 1 (upK 1 [] (gorsWant p 0 (e.gs.take i))) ((gorWant p i x).take j)))]) (fun j => True) ((gorWant p i x).length) (trivial) (fun j hi1 hH1 ih1 => ?_)
                 refine .seq (.region ?_); refine .o (.nil (.xseq (.seq ?_))); refine .cs (fun h4 => ?_) (fun h4 => ?_)
                 · have hlt1 : j < (gorWant p i x).length := by simpa using h4
                   obtain ⟨y, hx1, hd1⟩ := drop_cons hlt1; have hn1 : (0 : Int) ≤ (j : Int) := Int.natCast_nonneg j
                   have hw1 : IntKind.i64.wrap ((j : Int) + 1) = ((j + 1 : Nat) : Int) := by rw [w64 (by omega) (by omega)]; rfl
                   have hli : (j : Int) < ((gorWant p i x).length : Int) := by omega
                   have hM := upK_at 1 (M := upK 1 [] (gorsWant p 0 (e.gs.take i))) hx1; refine .skip (.xseq (.seq (.block (.seq (.region ?_))))); (iterate 3 refine .o ?_); refine .o (.nil (.xseq ?_))
                   refine .drawnK 6 [(0, false), (1, false), (2, false), (3, false), (4, true), (5, false)] mixed (by kernel_rfl) ?_; refine .o ?_; refine .o ?_
                   refine .lkp (upK 1 (upK 1 [] (gorsWant p 0 (e.gs.take i))) ((gorWant p i x).take j)) (y) mapT ?_; refine .o ?_
                   refine .me (upK 1 (upK 1 [] (gorsWant p 0 (e.gs.take i))) ((gorWant p i x).take j)) (y) mapT ?_; refine .o (.nil ?_)
                   refine .es (upK 1 (upK 1 [] (gorsWant p 0 (e.gs.take i))) ((gorWant p i x).take j)) (y) (IntKind.i64.wrap (lk (upK 1 (upK 1 [] (gorsWant p 0 (e.gs.take i))) ((gorWant p i x).take j)) (y) + 1)) ?_
                   refine .nil (.xblk (.xseq (.region ?_))); refine .o ?_; refine .o (.nil ?_); refine .xlp (.back [2, 3, 5, 56, 57, 58, 81, 82, 83] (ih1 (by assumption) ?_)); clear ih1 ih0; trivial
                 · have hge1 : (gorWant p i x).length ≤ j := by simpa using h4
                   clear ih1
                   have hM : upK 1 (upK 1 [] (gorsWant p 0 (e.gs.take i))) ((gorWant p i x).take j) = upK 1 [] (gorsWant p 0 (e.gs.take (i + 1))) := by rw [List.take_of_length_le hge1, hL, upK_app]
                   refine .exit (.eseq (.elp (.eblk (.xblk (.xseq (.region ?_)))))); refine .o ?_; refine .o (.nil ?_); refine .xlp (.back [2, 3, 5, 56, 57, 58] (ih0 (by assumption) ?_)); clear ih0
                   (try simp only [Hb_iff, Bool.not_eq_true', Bool.not_eq_false'] at *)
                   exact all_step hx0 hH0 (by clear hH0 hL hL2 hM hwl; have hg1x := (gor_split hgk).2; simp only [mayWaitP, hgk, Bool.true_and] at *; clear hgk; (first | (simp [gorInP, *]; done) | (simp at *; simp [gorInP, *]; done) | (simp at *; simp [gorInP, *]; omega) | (simp_all [gorInP]; done) | (refine scb ?_; simp [gorInP] at *; omega) | (refine scb ?_; simp_all [gorInP]; done) | (refine scb ?_; simp_all [gorInP] <;> omega) | (simp_all [gorInP]; omega)))
           · have hge0 : e.gs.length ≤ i := by simpa using h1
             clear ih0; have hA0 := all_yes hH0 hge0; clear hH0; have hL : e.gs.take i = e.gs := List.take_of_length_le hge0
             refine .exit (.eseq (.elp (.eblk (.xseq (.seq (.seq (.region ?_))))))); (iterate 3 refine .o ?_); refine .o (.nil (.xseq (.block ?_))); have hq0 := acC_0 e.chans; refine .loop ?_
             refine .bound 96 rfl fun hb2 => ?_; simp only [List.length_map, mxl] at hb2
             refine .rngO [2, 3, 5, 96, 97, 98] (fun i => [(98, .sc (.int .i64 (i : Nat)))]) (fun i => []) (fun i => [(r, mO (upK (-1) (upK 1 [] (gorsWant p 0 e.gs)) (acC e.chans i)))]) (fun i => chansOkP e.chans p.caps = chansOkP (e.chans.drop i) (p.caps.drop i)) (e.chans.length) (by first | rfl | simp) (fun i hi2 hH2 ih2 => ?_)
             refine .seq (.region ?_); refine .o (.nil (.xseq (.seq ?_))); refine .cs (fun h5 => ?_) (fun h5 => ?_)
             · have hlt2 : i < e.chans.length := by simpa using h5
               obtain ⟨x, hx2, hd2⟩ := drop_cons hlt2; have hn2 : (0 : Int) ≤ (i : Int) := Int.natCast_nonneg i
               have hw2 : IntKind.i64.wrap ((i : Int) + 1) = ((i + 1 : Nat) : Int) := by rw [w64 (by omega) (by omega)]; rfl
               obtain ⟨cc, hcx, hcd⟩ := drop_cons (show i < p.caps.length by omega)
               refine .skip (.xseq (.seq (.block (.seq (.region ?_))))); (iterate 5 refine .o ?_); refine .o (.nil (.xseq (.seq (.seq ?_))))
               refine .drawnK 11 [(0, false), (1, false), (2, false), (3, false), (4, false), (5, false), (6, false), (7, false), (8, false), (9, false), (10, false)] mixed (by kernel_rfl) ?_
               refine .o ?_; refine .cl (c_impl_ChanOk _) ?_; refine .o ?_; refine .o ?_; refine .sp 106 (fun s6 => ?_) (fun s6 => ?_)
               · (iterate 6 refine .o ?_); refine .o (.nil ?_); refine .o ?_; refine .o (.nil (.xseq ?_)); refine .cT (.seq (.region ?_))
                 refine .o (.nil (.xseq (.ret (.rseq (.rblk (.rseq (.rlp (.rblk (.rseq (.done ?_)))))))))); refine .mk ?_; clear ih2
                 (try simp only [Hb_iff, Bool.not_eq_true', Bool.not_eq_false'] at *)
                 have hF : chansOkP e.chans p.caps = false := by (rw [hH2, hd2, hcd]; clear hH2 hd2 hcd; (first | (simp [chansOkP, *]; done) | (simp at *; simp [chansOkP, *]; done) | (simp at *; simp [chansOkP, *]; omega) | (simp_all [chansOkP]; done) | (refine scb ?_; simp [chansOkP] at *; omega) | (refine scb ?_; simp_all [chansOkP]; done) | (refine scb ?_; simp_all [chansOkP] <;> omega) | (simp_all [chansOkP]; omega)))
                 all_goals (simp [engOkP, objectsP, hF])
               · (iterate 6 refine .o ?_); refine .o (.nil ?_); refine .o ?_; refine .o (.nil (.xseq ?_)); refine .cs (fun h6 => ?_) (fun h6 => ?_)
                 · refine .seq (.region ?_); refine .o (.nil (.xseq (.ret (.rseq (.rblk (.rseq (.rlp (.rblk (.rseq (.done ?_)))))))))); refine .mk ?_; clear ih2
                   (try simp only [Hb_iff, Bool.not_eq_true', Bool.not_eq_false'] at *)
                   have hF : chansOkP e.chans p.caps = false := by (rw [hH2, hd2, hcd]; clear hH2 hd2 hcd; (first | (simp [chansOkP, *]; done) | (simp at *; simp [chansOkP, *]; done) | (simp at *; simp [chansOkP, *]; omega) | (simp_all [chansOkP]; done) | (refine scb ?_; simp [chansOkP] at *; omega) | (refine scb ?_; simp_all [chansOkP]; done) | (refine scb ?_; simp_all [chansOkP] <;> omega) | (simp_all [chansOkP]; omega)))
                   all_goals (simp [engOkP, objectsP, hF])
                 · refine .skip (.xseq (.seq (.seq (.region ?_)))); (iterate 3 refine .o ?_); refine .o (.nil (.xseq (.block ?_))); have hq2 := acS_0 e.chans i x; refine .loop ?_
                   refine .bound 117 rfl fun hb3 => ?_; simp only [List.length_map, mxl] at hb3
                   refine .rngO [2, 3, 5, 10, 11, 96, 97, 98, 117, 118, 119] (fun j => [(119, .sc (.int .i64 (j : Nat)))]) (fun j => []) (fun j => [(r, mO (upK (-1) (upK 1 [] (gorsWant p 0 e.gs)) (acS e.chans i x j)))]) (fun j => True) (x.sends.length) (trivial) (fun j hi3 hH3 ih3 => ?_)
                   refine .seq (.region ?_); refine .o (.nil (.xseq (.seq ?_))); refine .cs (fun h7 => ?_) (fun h7 => ?_)
                   · have hlt3 : j < x.sends.length := by simpa using h7
                     obtain ⟨y, hx3, hd3⟩ := drop_cons hlt3; have hn3 : (0 : Int) ≤ (j : Int) := Int.natCast_nonneg j
                     have hw3 : IntKind.i64.wrap ((j : Int) + 1) = ((j + 1 : Nat) : Int) := by rw [w64 (by omega) (by omega)]; rfl
                     have hM := upK_dn (M := upK 1 [] (gorsWant p 0 e.gs)) (acS_s (cs := e.chans) (i := i) hx3); refine .skip (.xseq (.seq (.block (.seq (.region ?_))))); (iterate 3 refine .o ?_)
                     refine .o (.nil (.xseq ?_)); refine .drawnK 8 [(0, false), (1, false), (2, false), (3, false), (4, false), (5, false), (6, true), (7, false)] mixed (by kernel_rfl) ?_
                     (iterate 3 refine .o ?_); refine .o ?_; refine .lkp (upK (-1) (upK 1 [] (gorsWant p 0 e.gs)) (acS e.chans i x j)) (sendPlace i y) mapT ?_; refine .o ?_
                     refine .me (upK (-1) (upK 1 [] (gorsWant p 0 e.gs)) (acS e.chans i x j)) (sendPlace i y) mapT ?_; refine .o (.nil ?_)
                     refine .es (upK (-1) (upK 1 [] (gorsWant p 0 e.gs)) (acS e.chans i x j)) (sendPlace i y) (IntKind.i64.wrap (lk (upK (-1) (upK 1 [] (gorsWant p 0 e.gs)) (acS e.chans i x j)) (sendPlace i y) - 1)) ?_
                     refine .nil (.xblk (.xseq (.region ?_))); refine .o ?_; refine .o (.nil ?_); refine .xlp (.back [2, 3, 5, 10, 11, 96, 97, 98, 117, 118, 119] (ih3 (by assumption) ?_)); clear ih3 ih2
                     trivial
                   · have hge3 : x.sends.length ≤ j := by simpa using h7
                     clear ih3; have hq4 := acS_e (cs := e.chans) (i := i) hge3; refine .exit (.eseq (.elp (.eblk (.xseq (.seq (.region ?_)))))); (iterate 3 refine .o ?_)
                     refine .o (.nil (.xseq (.block (.loop ?_)))); refine .bound 133 rfl fun hb4 => ?_; simp only [List.length_map, mxl] at hb4
                     refine .rngO [2, 3, 5, 10, 96, 97, 98, 133, 134, 135] (fun j => [(135, .sc (.int .i64 (j : Nat)))]) (fun j => []) (fun j => [(r, mO (upK (-1) (upK 1 [] (gorsWant p 0 e.gs)) (acR e.chans i x j)))]) (fun j => True) (x.recvs.length) (trivial) (fun j hi4 hH4 ih4 => ?_)
                     refine .seq (.region ?_); refine .o (.nil (.xseq (.seq ?_))); refine .cs (fun h8 => ?_) (fun h8 => ?_)
                     · have hlt4 : j < x.recvs.length := by simpa using h8
                       obtain ⟨z, hx4, hd4⟩ := drop_cons hlt4; have hn4 : (0 : Int) ≤ (j : Int) := Int.natCast_nonneg j
                       have hw4 : IntKind.i64.wrap ((j : Int) + 1) = ((j + 1 : Nat) : Int) := by rw [w64 (by omega) (by omega)]; rfl
                       have hM := upK_dn (M := upK 1 [] (gorsWant p 0 e.gs)) (acR_s (cs := e.chans) (i := i) hx4); refine .skip (.xseq (.seq (.block (.seq (.region ?_))))); (iterate 3 refine .o ?_)
                       refine .o (.nil (.xseq ?_)); refine .drawnK 8 [(0, false), (1, false), (2, false), (3, false), (4, false), (5, false), (6, true), (7, false)] mixed (by kernel_rfl) ?_
                       (iterate 3 refine .o ?_); refine .o ?_; refine .lkp (upK (-1) (upK 1 [] (gorsWant p 0 e.gs)) (acR e.chans i x j)) (recvPlace i z) mapT ?_; refine .o ?_
                       refine .me (upK (-1) (upK 1 [] (gorsWant p 0 e.gs)) (acR e.chans i x j)) (recvPlace i z) mapT ?_; refine .o (.nil ?_)
                       refine .es (upK (-1) (upK 1 [] (gorsWant p 0 e.gs)) (acR e.chans i x j)) (recvPlace i z) (IntKind.i64.wrap (lk (upK (-1) (upK 1 [] (gorsWant p 0 e.gs)) (acR e.chans i x j)) (recvPlace i z) - 1)) ?_
                       refine .nil (.xblk (.xseq (.region ?_))); refine .o ?_; refine .o (.nil ?_); refine .xlp (.back [2, 3, 5, 10, 96, 97, 98, 133, 134, 135] (ih4 (by assumption) ?_)); clear ih4 ih2
                       trivial
                     · have hge4 : x.recvs.length ≤ j := by simpa using h8
                       clear ih4; have hq5 := acR_e hx2 hge4; refine .exit (.eseq (.elp (.eblk (.xblk (.xseq (.region ?_)))))); refine .o ?_; refine .o (.nil ?_)
                       refine .xlp (.back [2, 3, 5, 96, 97, 98] (ih2 (by assumption) ?_)); clear ih2; (try simp only [Hb_iff, Bool.not_eq_true', Bool.not_eq_false'] at *)
                       rw [hH2, hd2, hcd]; clear hH2 hd2 hcd; (first | (simp [chansOkP, *]; done) | (simp at *; simp [chansOkP, *]; done) | (simp at *; simp [chansOkP, *]; omega) | (simp_all [chansOkP]; done) | (refine scb ?_; simp [chansOkP] at *; omega) | (refine scb ?_; simp_all [chansOkP]; done) | (refine scb ?_; simp_all [chansOkP] <;> omega) | (simp_all [chansOkP]; omega))
             · have hge2 : e.chans.length ≤ i := by simpa using h5
               clear ih2; have hq1 := acC_e e.mus hge2; have hA1 : chansOkP e.chans p.caps = true := by (rw [hH2, List.drop_of_length_le hge2]; rfl)
               clear hH2; refine .exit (.eseq (.elp (.eblk (.xseq (.seq (.seq (.region ?_))))))); (iterate 3 refine .o ?_); refine .o (.nil (.xseq (.block (.loop ?_))))
               refine .bound 150 rfl fun hb5 => ?_; simp only [List.length_map, mxl] at hb5
               refine .rngO [3, 5, 150, 151, 152] (fun i => [(152, .sc (.int .i64 (i : Nat)))]) (fun i => []) (fun i => [(r, mO (upK (-1) (upK 1 [] (gorsWant p 0 e.gs)) (acM e.chans e.mus i)))]) (fun i => (e.mus.take i).all (fun m => mutexOkP m && decide (m.owner < e.gs.length)) = true) (e.mus.length) (by first | rfl | simp) (fun i hi5 hH5 ih5 => ?_)
               refine .seq (.region ?_); refine .o (.nil (.xseq (.seq ?_))); refine .cs (fun h9 => ?_) (fun h9 => ?_)
               · have hlt5 : i < e.mus.length := by simpa using h9
                 obtain ⟨m, hx5, hd5⟩ := drop_cons hlt5; have hn5 : (0 : Int) ≤ (i : Int) := Int.natCast_nonneg i
                 have hw5 : IntKind.i64.wrap ((i : Int) + 1) = ((i + 1 : Nat) : Int) := by rw [w64 (by omega) (by omega)]; rfl
                 refine .skip (.xseq (.seq (.block (.seq (.region ?_))))); (iterate 5 refine .o ?_); refine .o (.nil (.xseq (.seq (.seq (.region ?_))))); refine .o ?_
                 refine .cl (c_impl_MutexOk _) ?_; refine .o ?_; refine .o ?_; refine .sp 160 (fun s7 => ?_) (fun s7 => ?_)
                 · (iterate 6 refine .o ?_); refine .o (.nil (.xseq ?_)); refine .cT (.seq (.region ?_)); refine .o (.nil (.xseq (.ret (.rseq (.rblk (.rseq (.rlp (.rblk (.rseq (.done ?_))))))))))
                   refine .mk ?_; clear ih5; (try simp only [Hb_iff, Bool.not_eq_true', Bool.not_eq_false'] at *)
                   have hF := all_no (f := fun m : Mutex => mutexOkP m && decide (m.owner < e.gs.length)) hx5 (by clear hH5; (first | (simp [*]; done) | (simp at *; simp [*]; done) | (simp at *; simp [*]; omega) | (simp_all ; done) | (refine scb ?_; simp  at *; omega) | (refine scb ?_; simp_all ; done) | (refine scb ?_; simp_all  <;> omega) | (simp_all ; omega)))
                   all_goals (simp only [engOkP, objectsP, hF, Bool.and_false, Bool.false_and])
                 · (iterate 6 refine .o ?_); refine .o (.nil (.xseq ?_)); refine .cs (fun h10 => ?_) (fun h10 => ?_)
                   · refine .seq (.region ?_); refine .o (.nil (.xseq (.ret (.rseq (.rblk (.rseq (.rlp (.rblk (.rseq (.done ?_)))))))))); refine .mk ?_; clear ih5
                     (try simp only [Hb_iff, Bool.not_eq_true', Bool.not_eq_false'] at *)
                     have hF := all_no (f := fun m : Mutex => mutexOkP m && decide (m.owner < e.gs.length)) hx5 (by clear hH5; (first | (simp [*]; done) | (simp at *; simp [*]; done) | (simp at *; simp [*]; omega) | (simp_all ; done) | (refine scb ?_; simp  at *; omega) | (refine scb ?_; simp_all ; done) | (refine scb ?_; simp_all  <;> omega) | (simp_all ; omega)))
                     all_goals (simp only [engOkP, objectsP, hF, Bool.and_false, Bool.false_and])
                   · refine .skip (.xseq (.seq (.region ?_))); (iterate 3 refine .o ?_); refine .o (.nil (.xseq (.block ?_))); have hq7 := acW_0 e.chans e.mus i m; refine .loop ?_
                     refine .bound 169 rfl fun hb6 => ?_; simp only [List.length_map, mxl] at hb6
                     refine .rngO [3, 5, 16, 150, 151, 152, 169, 170, 171] (fun j => [(171, .sc (.int .i64 (j : Nat)))]) (fun j => []) (fun j => [(r, mO (upK (-1) (upK 1 [] (gorsWant p 0 e.gs)) (acW e.chans e.mus i m j)))]) (fun j => True) (m.wait.length) (trivial) (fun j hi6 hH6 ih6 => ?_)
                     refine .seq (.region ?_); refine .o (.nil (.xseq (.seq ?_))); refine .cs (fun h11 => ?_) (fun h11 => ?_)
                     · have hlt6 : j < m.wait.length := by simpa using h11
                       obtain ⟨y, hx6, hd6⟩ := drop_cons hlt6; have hn6 : (0 : Int) ≤ (j : Int) := Int.natCast_nonneg j
                       have hw6 : IntKind.i64.wrap ((j : Int) + 1) = ((j + 1 : Nat) : Int) := by rw [w64 (by omega) (by omega)]; rfl
                       have hM := upK_dn (M := upK 1 [] (gorsWant p 0 e.gs)) (acW_s (cs := e.chans) (ms := e.mus) (i := i) hx6); refine .skip (.xseq (.seq (.block (.seq (.region ?_)))))
                       (iterate 2 refine .o ?_); refine .o (.nil (.xseq ?_))
                       refine .drawnK 9 [(0, false), (1, false), (2, false), (3, false), (4, false), (5, false), (6, false), (7, true), (8, false)] mixed (by kernel_rfl) ?_; (iterate 4 refine .o ?_)
                       refine .o ?_; refine .lkp (upK (-1) (upK 1 [] (gorsWant p 0 e.gs)) (acW e.chans e.mus i m j)) (muPlace i y) mapT ?_; refine .o ?_
                       refine .me (upK (-1) (upK 1 [] (gorsWant p 0 e.gs)) (acW e.chans e.mus i m j)) (muPlace i y) mapT ?_; refine .o (.nil ?_)
                       refine .es (upK (-1) (upK 1 [] (gorsWant p 0 e.gs)) (acW e.chans e.mus i m j)) (muPlace i y) (IntKind.i64.wrap (lk (upK (-1) (upK 1 [] (gorsWant p 0 e.gs)) (acW e.chans e.mus i m j)) (muPlace i y) - 1)) ?_
                       refine .nil (.xblk (.xseq (.region ?_))); refine .o ?_; refine .o (.nil ?_); refine .xlp (.back [3, 5, 16, 150, 151, 152, 169, 170, 171] (ih6 (by assumption) ?_)); clear ih6 ih5
                       trivial
                     · have hge6 : m.wait.length ≤ j := by simpa using h11
                       clear ih6; have hq8 := acW_e (cs := e.chans) hx5 hge6; refine .exit (.eseq (.elp (.eblk (.xblk (.xseq (.region ?_)))))); refine .o ?_; refine .o (.nil ?_)
                       refine .xlp (.back [3, 5, 150, 151, 152] (ih5 (by assumption) ?_)); clear ih5; (try simp only [Hb_iff, Bool.not_eq_true', Bool.not_eq_false'] at *)
                       exact all_step hx5 hH5 (by clear hH5; (first | (simp [*]; done) | (simp at *; simp [*]; done) | (simp at *; simp [*]; omega) | (simp_all ; done) | (refine scb ?_; simp  at *; omega) | (refine scb ?_; simp_all ; done) | (refine scb ?_; simp_all  <;> omega) | (simp_all ; omega)))
               · have hge5 : e.mus.length ≤ i := by simpa using h9
                 clear ih5; have hq6 := acM_e hge5; have hA2 := all_yes hH5 hge5; clear hH5; refine .exit (.eseq (.elp (.eblk (.xseq (.seq (.seq ?_))))))
                 have hob : objectsP p e = true := by simp [objectsP, hA1, hA2, hl, Hb_iff.1 hl2]
                 have hwl : (gorsWant p 0 e.gs).length ≤ 4000000 := by (have := gorsWant_len 0 hpo hA0; omega)
                 have hal := allPlaces_len (fitE hf hpo hob); refine .region ?_; refine .o ?_; refine .rg (upK (-1) (upK 1 [] (gorsWant p 0 e.gs)) (allPlaces e)) mapT fun it hne => ?_
                 refine .nil (.xseq (.block (.loop ?_))); refine .rngM [187] (upK (-1) (upK 1 [] (gorsWant p 0 e.gs)) (allPlaces e)) it r (fun seen hz ih7 => ?_); refine .seq (.region ?_)
                 refine .nx hne (fun hall => ?_) (fun j x v hj hc => ?_)
                 · refine .o ?_; refine .nil (.xseq (.seq ?_)); refine .cF (.exit (.eseq (.elp (.eblk (.xseq (.seq (.region ?_))))))); refine .o (.nil (.xseq (.ret (.done ?_)))); refine .mk ?_
                   (try simp only [Hb_iff, Bool.not_eq_true', Bool.not_eq_false'] at *); have hT := same_yes rfl hwl hal hall hz
                   all_goals (simp only [engOkP, hpo, hob, hA0, hT, decide_eq_true hg1, decide_eq_true hg2, Bool.true_and])
                 · refine .o ?_; refine .nil (.xseq (.seq ?_)); refine .cT (.skip (.xseq (.block (.seq (.region ?_))))); refine .en hj ?_; refine .o ?_; refine .o (.nil (.xseq (.seq (.region ?_))))
                   refine .o ?_; refine .o (.nil (.xseq ?_)); refine .cs (fun h12 => ?_) (fun h12 => ?_)
                   · refine .seq (.region ?_); refine .o (.nil (.xseq (.ret (.rblk (.rlp (.rblk (.rseq (.done ?_)))))))); refine .mk ?_; clear ih7
                     (try simp only [Hb_iff, Bool.not_eq_true', Bool.not_eq_false'] at *); have hF := same_no rfl hwl hal hj (by simp at *; assumption); all_goals (simp only [engOkP, hF, Bool.and_false])
                   · refine .skip (.xblk ?_); refine .xlp (.back [187] (ih7 _ _ hj hc ?_)); clear ih7; (try simp only [Hb_iff, Bool.not_eq_true', Bool.not_eq_false'] at *)
                     first | assumption | (simp at *; assumption)

theorem c_impl_Status (p : Prog) (e : Eng) (hf : FitG e) : FnC Tryz.prog TA false 24 [.agg (eProgI p), .agg (eEngI e)] [] (.sc (.int .i64 (statusP p e))) [] := by
 refine .ini Tryz.ntmps24 Tryz.results24 ?_; refine .seq (.region ?_); (iterate 2 refine .o ?_); refine .o (.nil (.xseq (.seq (.block (.seq (.region ?_)))))); refine .o ?_
 refine .o ?_; refine .cl (c_impl_EngOk _ _ hf) ?_; refine .o ?_; refine .o (.nil (.xseq ?_)); refine .cs (fun h0 => ?_) (fun h0 => ?_)
 · refine .seq (.region ?_); refine .o (.nil (.xseq (.ret (.rblk (.rseq (.done ?_)))))); refine .mk ?_; (try simp only [Hb_iff, Bool.not_eq_true', Bool.not_eq_false'] at *)
   all_goals ((first | (simp [statusP, *]; done) | (simp at *; simp [statusP, *]; done) | (simp at *; simp [statusP, *]; omega) | (simp_all [statusP]; done) | (refine scb ?_; simp [statusP] at *; omega) | (refine scb ?_; simp_all [statusP]; done) | (refine scb ?_; simp_all [statusP] <;> omega) | (simp_all [statusP]; omega)))
 · refine .seq (.region ?_); refine .o ?_; refine .cl (c_impl_Ready _ hf.gs) ?_; (iterate 2 refine .o ?_); refine .o (.nil (.xseq ?_)); refine .cs (fun h1 => ?_) (fun h1 => ?_)
   · refine .seq (.region ?_); refine .o (.nil (.xseq (.ret (.rblk (.rseq (.done ?_)))))); refine .mk ?_; (try simp only [Hb_iff, Bool.not_eq_true', Bool.not_eq_false'] at *)
     all_goals ((first | (simp [statusP, *]; done) | (simp at *; simp [statusP, *]; done) | (simp at *; simp [statusP, *]; omega) | (simp_all [statusP]; done) | (refine scb ?_; simp [statusP] at *; omega) | (refine scb ?_; simp_all [statusP]; done) | (refine scb ?_; simp_all [statusP] <;> omega) | (simp_all [statusP]; omega)))
   · refine .seq (.region ?_); refine .o ?_; refine .cl (c_impl_Asleep _ hf.gs) ?_; (iterate 2 refine .o ?_); refine .o (.nil (.xseq ?_)); refine .cs (fun h2 => ?_) (fun h2 => ?_)
     · refine .seq (.region ?_); refine .o (.nil (.xseq (.ret (.rblk (.rseq (.done ?_)))))); refine .mk ?_; (try simp only [Hb_iff, Bool.not_eq_true', Bool.not_eq_false'] at *)
       all_goals ((first | (simp [statusP, *]; done) | (simp at *; simp [statusP, *]; done) | (simp at *; simp [statusP, *]; omega) | (simp_all [statusP]; done) | (refine scb ?_; simp [statusP] at *; omega) | (refine scb ?_; simp_all [statusP]; done) | (refine scb ?_; simp_all [statusP] <;> omega) | (simp_all [statusP]; omega)))
     · refine .skip (.xblk (.xseq (.seq (.region ?_)))); refine .o (.nil (.xseq (.ret (.done ?_)))); refine .mk ?_; (try simp only [Hb_iff, Bool.not_eq_true', Bool.not_eq_false'] at *)
       all_goals ((first | (simp [statusP, *]; done) | (simp at *; simp [statusP, *]; done) | (simp at *; simp [statusP, *]; omega) | (simp_all [statusP]; done) | (refine scb ?_; simp [statusP] at *; omega) | (refine scb ?_; simp_all [statusP]; done) | (refine scb ?_; simp_all [statusP] <;> omega) | (simp_all [statusP]; omega)))
end Go.Proofs.AM
