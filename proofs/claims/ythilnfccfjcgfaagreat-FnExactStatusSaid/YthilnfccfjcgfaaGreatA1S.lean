/- A part of the proof: the walk of functions of the program, or the rules of the walk. -/
import Derived.Test.YthilnfccfjcgfaaGreatA1R
import Derived.Test.YthilnfccfjcgfaaGreatA1V
set_option linter.unusedSimpArgs false
set_option linter.unusedVariables false
namespace Go.Proofs.AM
open Go Go.Proofs
set_option maxHeartbeats 4000000
set_option maxRecDepth 100000

theorem c_spec_l06Waiters (xs : List Waiter) (b : Bool) : FnC Tryz.prog TA false 322 [.ls .o 62 (xs.map eWaiter), .sc (.bool (b))] [] (.sc (.bool (xs.all (waiterOkP b)))) [] := by
 refine .ini Tryz.ntmps322 Tryz.results322 ?_; refine .seq (.region ?_); refine .o (.nil (.xseq (.seq (.seq (.region ?_))))); (iterate 2 refine .o ?_)
 refine .o (.nil (.xseq (.block (.loop ?_)))); refine .bound 7 rfl fun hb0 => ?_; simp only [List.length_map, mxl] at hb0
 refine .rng [1, 7, 8, 9] (fun i => [(9, .sc (.int .i64 (i : Nat)))]) (fun i => []) (fun i => (xs.take i).all (waiterOkP b) = true) (xs.length) (by first | rfl | simp) (fun i hi0 hH0 ih0 => ?_)
 refine .seq (.region ?_); refine .o (.nil (.xseq (.seq ?_))); refine .cs (fun h0 => ?_) (fun h0 => ?_)
 · have hlt0 : i < xs.length := by simpa using h0
   obtain ⟨x, hx0, hd0⟩ := drop_cons hlt0; have hn0 : (0 : Int) ≤ (i : Int) := Int.natCast_nonneg i
   have hw0 : IntKind.i64.wrap ((i : Int) + 1) = ((i + 1 : Nat) : Int) := by rw [w64 (by omega) (by omega)]; rfl
   refine .skip (.xseq (.seq (.block (.seq (.region ?_))))); (iterate 3 refine .o ?_); refine .o (.nil (.xseq (.seq (.region ?_)))); (iterate 3 refine .o ?_); refine .o ?_
   refine .sp 16 (fun s0 => ?_) (fun s0 => ?_)
   · (iterate 18 refine .o ?_); refine .o (.nil (.xseq ?_)); refine .cT (.seq (.region ?_)); refine .o (.nil (.xseq (.ret (.rblk (.rseq (.rlp (.rblk (.rseq (.done ?_)))))))))
     refine .mk ?_; clear ih0; (try simp only [Hb_iff, Bool.not_eq_true', Bool.not_eq_false'] at *)
     have hF := all_no (f := waiterOkP b) hx0 (by clear hH0; (first | (simp [waiterOkP, *]; done) | (simp at *; simp [waiterOkP, *]; done) | (simp at *; simp [waiterOkP, *]; omega) | (simp_all [waiterOkP]; done) | (refine scb ?_; simp [waiterOkP] at *; omega) | (refine scb ?_; simp_all [waiterOkP]; done) | (refine scb ?_; simp_all [waiterOkP] <;> omega) | (simp_all [waiterOkP]; omega)))
     all_goals (rw [hF])
   · (iterate 4 refine .o ?_); refine .o ?_; refine .sp 21 (fun s1 => ?_) (fun s1 => ?_)
     · (iterate 13 refine .o ?_); refine .o (.nil (.xseq ?_)); refine .cT (.seq (.region ?_)); refine .o (.nil (.xseq (.ret (.rblk (.rseq (.rlp (.rblk (.rseq (.done ?_)))))))))
       refine .mk ?_; clear ih0; (try simp only [Hb_iff, Bool.not_eq_true', Bool.not_eq_false'] at *)
       have hF := all_no (f := waiterOkP b) hx0 (by clear hH0; (first | (simp [waiterOkP, *]; done) | (simp at *; simp [waiterOkP, *]; done) | (simp at *; simp [waiterOkP, *]; omega) | (simp_all [waiterOkP]; done) | (refine scb ?_; simp [waiterOkP] at *; omega) | (refine scb ?_; simp_all [waiterOkP]; done) | (refine scb ?_; simp_all [waiterOkP] <;> omega) | (simp_all [waiterOkP]; omega)))
       all_goals (rw [hF])
     · refine .o ?_; refine .o ?_; refine .cl (c_spec_l03Val _) ?_; (iterate 2 refine .o ?_); refine .o ?_; refine .sp 27 (fun s2 => ?_) (fun s2 => ?_)
       · (iterate 7 refine .o ?_); refine .o (.nil (.xseq ?_)); refine .cT (.seq (.region ?_)); refine .o (.nil (.xseq (.ret (.rblk (.rseq (.rlp (.rblk (.rseq (.done ?_)))))))))
         refine .mk ?_; clear ih0; (try simp only [Hb_iff, Bool.not_eq_true', Bool.not_eq_false'] at *)
         have hF := all_no (f := waiterOkP b) hx0 (by clear hH0; (first | (simp [waiterOkP, *]; done) | (simp at *; simp [waiterOkP, *]; done) | (simp at *; simp [waiterOkP, *]; omega) | (simp_all [waiterOkP]; done) | (refine scb ?_; simp [waiterOkP] at *; omega) | (refine scb ?_; simp_all [waiterOkP]; done) | (refine scb ?_; simp_all [waiterOkP] <;> omega) | (simp_all [waiterOkP]; omega)))
         all_goals (rw [hF])
       · (iterate 2 refine .o ?_); refine .o ?_; refine .sp 30 (fun s3 => ?_) (fun s3 => ?_)
         · (iterate 4 refine .o ?_); refine .o (.nil (.xseq ?_)); refine .cs (fun h1 => ?_) (fun h1 => ?_)
           · refine .seq (.region ?_); refine .o (.nil (.xseq (.ret (.rblk (.rseq (.rlp (.rblk (.rseq (.done ?_))))))))); refine .mk ?_; clear ih0
             (try simp only [Hb_iff, Bool.not_eq_true', Bool.not_eq_false'] at *)
             have hF := all_no (f := waiterOkP b) hx0 (by clear hH0; (first | (simp [waiterOkP, *]; done) | (simp at *; simp [waiterOkP, *]; done) | (simp at *; simp [waiterOkP, *]; omega) | (simp_all [waiterOkP]; done) | (refine scb ?_; simp [waiterOkP] at *; omega) | (refine scb ?_; simp_all [waiterOkP]; done) | (refine scb ?_; simp_all [waiterOkP] <;> omega) | (simp_all [waiterOkP]; omega)))
             all_goals (rw [hF])
           · refine .skip (.xblk (.xseq (.region ?_))); refine .o ?_; refine .o (.nil ?_); refine .xlp (.back [1, 7, 8, 9] (ih0 (by assumption) ?_)); clear ih0
             (try simp only [Hb_iff, Bool.not_eq_true', Bool.not_eq_false'] at *)
             exact all_step hx0 hH0 (by clear hH0; (first | (simp [waiterOkP, *]; done) | (simp at *; simp [waiterOkP, *]; done) | (simp at *; simp [waiterOkP, *]; omega) | (simp_all [waiterOkP]; done) | (refine scb ?_; simp [waiterOkP] at *; omega) | (refine scb ?_; simp_all [waiterOkP]; done) | (refine scb ?_; simp_all [waiterOkP] <;> omega) | (simp_all [waiterOkP]; omega)))
         · (iterate 4 refine .o ?_); refine .o (.nil (.xseq ?_)); refine .cF (.skip (.xblk (.xseq (.region ?_)))); refine .o ?_; refine .o (.nil ?_)
           refine .xlp (.back [1, 7, 8, 9] (ih0 (by assumption) ?_)); clear ih0; (try simp only [Hb_iff, Bool.not_eq_true', Bool.not_eq_false'] at *)
           exact all_step hx0 hH0 (by clear hH0; (first | (simp [waiterOkP, *]; done) | (simp at *; simp [waiterOkP, *]; done) | (simp at *; simp [waiterOkP, *]; omega) | (simp_all [waiterOkP]; done) | (refine scb ?_; simp [waiterOkP] at *; omega) | (refine scb ?_; simp_all [waiterOkP]; done) | (refine scb ?_; simp_all [waiterOkP] <;> omega) | (simp_all [waiterOkP]; omega)))
 · have hge0 : xs.length ≤ i := by simpa using h0
   clear ih0; have hA0 := all_yes hH0 hge0; refine .exit (.eseq (.elp (.eblk (.xseq (.seq (.region ?_)))))); refine .o (.nil (.xseq (.ret (.done ?_)))); refine .mk ?_
   (try simp only [Hb_iff, Bool.not_eq_true', Bool.not_eq_false'] at *); all_goals (rw [hA0])

theorem c_spec_l07Has (xs : List Int) (n : Int) : FnC Tryz.prog TA false 323 [.ls .o 3 (xs.map eInt), .sc (.int .i64 (n))] [] (.sc (.bool (decide (n ∈ xs)))) [] := by
 refine .ini Tryz.ntmps323 Tryz.results323 ?_; refine .seq (.region ?_); refine .o (.nil (.xseq (.seq (.seq (.region ?_))))); (iterate 2 refine .o ?_)
 refine .o (.nil (.xseq (.block (.loop ?_)))); refine .bound 7 rfl fun hb0 => ?_; simp only [List.length_map, mxl] at hb0
 refine .rng [1, 7, 8, 9] (fun i => [(9, .sc (.int .i64 (i : Nat)))]) (fun i => []) (fun i => n ∉ xs.take i) (xs.length) (by simp) (fun i hi0 hH0 ih0 => ?_); refine .seq (.region ?_)
 refine .o (.nil (.xseq (.seq ?_))); refine .cs (fun h0 => ?_) (fun h0 => ?_)
 · have hlt0 : i < xs.length := by simpa using h0
   obtain ⟨x, hx0, hd0⟩ := drop_cons hlt0; have hn0 : (0 : Int) ≤ (i : Int) := Int.natCast_nonneg i
   have hw0 : IntKind.i64.wrap ((i : Int) + 1) = ((i + 1 : Nat) : Int) := by rw [w64 (by omega) (by omega)]; rfl
   refine .skip (.xseq (.seq (.block (.seq (.region ?_))))); (iterate 2 refine .o ?_); refine .o (.nil (.xseq (.seq (.region ?_)))); (iterate 2 refine .o ?_)
   refine .o (.nil (.xseq ?_)); refine .cs (fun h1 => ?_) (fun h1 => ?_)
   · refine .seq (.region ?_); refine .o (.nil (.xseq (.ret (.rblk (.rseq (.rlp (.rblk (.rseq (.done ?_))))))))); refine .mk ?_; clear ih0
     (try simp only [Hb_iff, Bool.not_eq_true', Bool.not_eq_false'] at *); have hm : n ∈ xs := by (have hm := List.mem_of_getElem? hx0; simp at *; simp_all)
     all_goals (simp [hm])
   · refine .skip (.xblk (.xseq (.region ?_))); refine .o ?_; refine .o (.nil ?_); refine .xlp (.back [1, 7, 8, 9] (ih0 (by assumption) ?_)); clear ih0
     (try simp only [Hb_iff, Bool.not_eq_true', Bool.not_eq_false'] at *); rw [take_snoc hx0]; simp at *; exact ⟨hH0, by omega⟩
 · have hge0 : xs.length ≤ i := by simpa using h0
   clear ih0; refine .exit (.eseq (.elp (.eblk (.xseq (.seq (.region ?_)))))); refine .o (.nil (.xseq (.ret (.done ?_)))); refine .mk ?_
   (try simp only [Hb_iff, Bool.not_eq_true', Bool.not_eq_false'] at *); have hm : n ∉ xs := by rwa [List.take_of_length_le hge0] at hH0
   all_goals (simp [hm])

theorem c_spec_ChanOk (c : Chan) : FnC Tryz.prog TA false 270 [.agg (eChanI c)] [] (.sc (.bool (chanOkP c))) [] := by
 refine .ini Tryz.ntmps270 Tryz.results270 ?_; refine .seq (.region ?_); refine .o ?_; refine .o (.nil (.xseq (.seq (.seq (.region ?_))))); (iterate 3 refine .o ?_); refine .o ?_
 refine .sp 8 (fun s0 => ?_) (fun s0 => ?_)
 · (iterate 23 refine .o ?_); refine .o (.nil (.xseq ?_)); refine .cT (.seq (.region ?_)); refine .o (.nil (.xseq (.ret (.rseq (.done ?_))))); refine .mk ?_
   (try simp only [Hb_iff, Bool.not_eq_true', Bool.not_eq_false'] at *)
   all_goals ((first | (simp [chanOkP, *]; done) | (simp at *; simp [chanOkP, *]; done) | (simp at *; simp [chanOkP, *]; omega) | (simp_all [chanOkP]; done) | (refine scb ?_; simp [chanOkP] at *; omega) | (refine scb ?_; simp_all [chanOkP]; done) | (refine scb ?_; simp_all [chanOkP] <;> omega) | (simp_all [chanOkP]; omega)))
 · (iterate 4 refine .o ?_); refine .o ?_; refine .sp 13 (fun s1 => ?_) (fun s1 => ?_)
   · (iterate 18 refine .o ?_); refine .o (.nil (.xseq ?_)); refine .cT (.seq (.region ?_)); refine .o (.nil (.xseq (.ret (.rseq (.done ?_))))); refine .mk ?_
     (try simp only [Hb_iff, Bool.not_eq_true', Bool.not_eq_false'] at *)
     all_goals ((first | (simp [chanOkP, *]; done) | (simp at *; simp [chanOkP, *]; done) | (simp at *; simp [chanOkP, *]; omega) | (simp_all [chanOkP]; done) | (refine scb ?_; simp [chanOkP] at *; omega) | (refine scb ?_; simp_all [chanOkP]; done) | (refine scb ?_; simp_all [chanOkP] <;> omega) | (simp_all [chanOkP]; omega)))
   · (iterate 7 refine .o ?_); refine .o ?_; refine .sp 21 (fun s2 => ?_) (fun s2 => ?_)
     · (iterate 10 refine .o ?_); refine .o (.nil (.xseq ?_)); refine .cT (.seq (.region ?_)); refine .o (.nil (.xseq (.ret (.rseq (.done ?_))))); refine .mk ?_
       (try simp only [Hb_iff, Bool.not_eq_true', Bool.not_eq_false'] at *)
       all_goals ((first | (simp [chanOkP, *]; done) | (simp at *; simp [chanOkP, *]; done) | (simp at *; simp [chanOkP, *]; omega) | (simp_all [chanOkP]; done) | (refine scb ?_; simp [chanOkP] at *; omega) | (refine scb ?_; simp_all [chanOkP]; done) | (refine scb ?_; simp_all [chanOkP] <;> omega) | (simp_all [chanOkP]; omega)))
     · refine .o ?_; refine .o ?_; refine .cl (c_spec_l06Waiters _ _) ?_; (iterate 2 refine .o ?_); refine .o ?_; refine .sp 27 (fun s3 => ?_) (fun s3 => ?_)
       · (iterate 4 refine .o ?_); refine .o (.nil (.xseq ?_)); refine .cT (.seq (.region ?_)); refine .o (.nil (.xseq (.ret (.rseq (.done ?_))))); refine .mk ?_
         (try simp only [Hb_iff, Bool.not_eq_true', Bool.not_eq_false'] at *)
         all_goals ((first | (simp [chanOkP, *]; done) | (simp at *; simp [chanOkP, *]; done) | (simp at *; simp [chanOkP, *]; omega) | (simp_all [chanOkP]; done) | (refine scb ?_; simp [chanOkP] at *; omega) | (refine scb ?_; simp_all [chanOkP]; done) | (refine scb ?_; simp_all [chanOkP] <;> omega) | (simp_all [chanOkP]; omega)))
       · refine .o ?_; refine .o ?_; refine .cl (c_spec_l06Waiters _ _) ?_; refine .o ?_; refine .o (.nil (.xseq ?_)); refine .cs (fun h0 => ?_) (fun h0 => ?_)
         · refine .seq (.region ?_); refine .o (.nil (.xseq (.ret (.rseq (.done ?_))))); refine .mk ?_; (try simp only [Hb_iff, Bool.not_eq_true', Bool.not_eq_false'] at *)
           all_goals ((first | (simp [chanOkP, *]; done) | (simp at *; simp [chanOkP, *]; done) | (simp at *; simp [chanOkP, *]; omega) | (simp_all [chanOkP]; done) | (refine scb ?_; simp [chanOkP] at *; omega) | (refine scb ?_; simp_all [chanOkP]; done) | (refine scb ?_; simp_all [chanOkP] <;> omega) | (simp_all [chanOkP]; omega)))
         · have k1 : c.sends.all (waiterOkP true) = true := by simpa only [Hb_iff, Bool.not_eq_false'] using s3
           have k2 : c.recvs.all (waiterOkP false) = true := by simpa only [Hb_iff, Bool.not_eq_false'] using h0
           clear s3 h0; refine .skip (.xseq (.seq (.seq (.region ?_)))); (iterate 3 refine .o ?_); refine .o (.nil (.xseq (.block (.loop ?_)))); refine .bound 34 rfl fun hb0 => ?_
           simp only [List.length_map, mxl] at hb0
           refine .rng [1, 34, 35, 36] (fun i => [(36, .sc (.int .i64 (i : Nat)))]) (fun i => []) (fun i => (c.buf.take i).all isValP = true) (c.buf.length) (by first | rfl | simp) (fun i hi0 hH0 ih0 => ?_)
           refine .seq (.region ?_); refine .o (.nil (.xseq (.seq ?_))); refine .cs (fun h1 => ?_) (fun h1 => ?_)
           · have hlt0 : i < c.buf.length := by simpa using h1
             obtain ⟨x, hx0, hd0⟩ := drop_cons hlt0; have hn0 : (0 : Int) ≤ (i : Int) := Int.natCast_nonneg i
             have hw0 : IntKind.i64.wrap ((i : Int) + 1) = ((i + 1 : Nat) : Int) := by rw [w64 (by omega) (by omega)]; rfl
             refine .skip (.xseq (.seq (.block (.seq (.region ?_))))); (iterate 2 refine .o ?_); refine .o (.nil (.xseq (.seq (.region ?_)))); refine .o ?_; refine .cl (c_spec_l03Val _) ?_
             refine .o (.nil (.xseq ?_)); refine .cs (fun h2 => ?_) (fun h2 => ?_)
             · refine .seq (.region ?_); refine .o (.nil (.xseq (.ret (.rblk (.rseq (.rlp (.rblk (.rseq (.done ?_))))))))); refine .mk ?_; clear ih0
               (try simp only [Hb_iff, Bool.not_eq_true', Bool.not_eq_false'] at *)
               have hF := all_no (f := isValP) hx0 (by clear hH0 k1 k2; (first | (simp [*]; done) | (simp at *; simp [*]; done) | (simp at *; simp [*]; omega) | (simp_all ; done) | (refine scb ?_; simp  at *; omega) | (refine scb ?_; simp_all ; done) | (refine scb ?_; simp_all  <;> omega) | (simp_all ; omega)))
               all_goals (simp [chanOkP, hF])
             · refine .skip (.xblk (.xseq (.region ?_))); refine .o ?_; refine .o (.nil ?_); refine .xlp (.back [1, 34, 35, 36] (ih0 (by assumption) ?_)); clear ih0
               (try simp only [Hb_iff, Bool.not_eq_true', Bool.not_eq_false'] at *)
               exact all_step hx0 hH0 (by clear hH0; (first | (simp [*]; done) | (simp at *; simp [*]; done) | (simp at *; simp [*]; omega) | (simp_all ; done) | (refine scb ?_; simp  at *; omega) | (refine scb ?_; simp_all ; done) | (refine scb ?_; simp_all  <;> omega) | (simp_all ; omega)))
           · have hge0 : c.buf.length ≤ i := by simpa using h1
             clear ih0; have hA0 := all_yes hH0 hge0; clear hH0 hge0; refine .exit (.eseq (.elp (.eblk (.xseq (.seq (.seq (.region ?_))))))); (iterate 4 refine .o ?_); refine .o ?_
             refine .sp 48 (fun s4 => ?_) (fun s4 => ?_)
             · (iterate 6 refine .o ?_); refine .o ?_; refine .sp 55 (fun s5 => ?_) (fun s5 => ?_)
               · (iterate 9 refine .o ?_); refine .o (.nil (.xseq ?_)); refine .cT (.seq (.region ?_)); refine .o (.nil (.xseq (.ret (.rseq (.done ?_))))); refine .mk ?_
                 (try simp only [Hb_iff, Bool.not_eq_true', Bool.not_eq_false'] at *); all_goals (unfold chanOkP; rw [hA0, k1, k2]; clear hA0 k1 k2)
                 all_goals (generalize c.closed = cl at *; cases cl <;> (first | (simp [*]; done) | (simp at *; simp [*]; done) | (simp at *; simp [*]; omega) | (simp_all ; done) | (refine scb ?_; simp  at *; omega) | (refine scb ?_; simp_all ; done) | (refine scb ?_; simp_all  <;> omega) | (simp_all ; omega)))
               · (iterate 5 refine .o ?_); refine .o ?_; refine .sp 61 (fun s6 => ?_) (fun s6 => ?_)
                 · (iterate 3 refine .o ?_); refine .o (.nil (.xseq ?_)); refine .cT (.seq (.region ?_)); refine .o (.nil (.xseq (.ret (.rseq (.done ?_))))); refine .mk ?_
                   (try simp only [Hb_iff, Bool.not_eq_true', Bool.not_eq_false'] at *); all_goals (unfold chanOkP; rw [hA0, k1, k2]; clear hA0 k1 k2)
                   all_goals (generalize c.closed = cl at *; cases cl <;> (first | (simp [*]; done) | (simp at *; simp [*]; done) | (simp at *; simp [*]; omega) | (simp_all ; done) | (refine scb ?_; simp  at *; omega) | (refine scb ?_; simp_all ; done) | (refine scb ?_; simp_all  <;> omega) | (simp_all ; omega)))
                 · (iterate 3 refine .o ?_); refine .o (.nil (.xseq ?_)); refine .cs (fun h3 => ?_) (fun h3 => ?_)
                   · refine .seq (.region ?_); refine .o (.nil (.xseq (.ret (.rseq (.done ?_))))); refine .mk ?_; (try simp only [Hb_iff, Bool.not_eq_true', Bool.not_eq_false'] at *)
                     all_goals (unfold chanOkP; rw [hA0, k1, k2]; clear hA0 k1 k2)
                     all_goals (generalize c.closed = cl at *; cases cl <;> (first | (simp [*]; done) | (simp at *; simp [*]; done) | (simp at *; simp [*]; omega) | (simp_all ; done) | (refine scb ?_; simp  at *; omega) | (refine scb ?_; simp_all ; done) | (refine scb ?_; simp_all  <;> omega) | (simp_all ; omega)))
                   · refine .skip (.xseq (.seq (.region ?_))); (iterate 4 refine .o ?_); refine .o ?_; refine .sp 70 (fun s7 => ?_) (fun s7 => ?_)
                     · (iterate 10 refine .o ?_); refine .o (.nil (.xseq (.ret (.done ?_)))); refine .mk ?_; (try simp only [Hb_iff, Bool.not_eq_true', Bool.not_eq_false'] at *)
                       all_goals (unfold chanOkP; rw [hA0, k1, k2]; clear hA0 k1 k2)
                       all_goals (generalize c.closed = cl at *; cases cl <;> (first | (simp [*]; done) | (simp at *; simp [*]; done) | (simp at *; simp [*]; omega) | (simp_all ; done) | (refine scb ?_; simp  at *; omega) | (refine scb ?_; simp_all ; done) | (refine scb ?_; simp_all  <;> omega) | (simp_all ; omega)))
                     · (iterate 4 refine .o ?_); refine .o ?_; refine .sp 75 (fun s8 => ?_) (fun s8 => ?_)
                       · (iterate 5 refine .o ?_); refine .o (.nil (.xseq (.ret (.done ?_)))); refine .mk ?_; (try simp only [Hb_iff, Bool.not_eq_true', Bool.not_eq_false'] at *)
                         all_goals (unfold chanOkP; rw [hA0, k1, k2]; clear hA0 k1 k2)
                         all_goals (generalize c.closed = cl at *; cases cl <;> (first | (simp [*]; done) | (simp at *; simp [*]; done) | (simp at *; simp [*]; omega) | (simp_all ; done) | (refine scb ?_; simp  at *; omega) | (refine scb ?_; simp_all ; done) | (refine scb ?_; simp_all  <;> omega) | (simp_all ; omega)))
                       · (iterate 5 refine .o ?_); refine .o (.nil (.xseq (.ret (.done ?_)))); refine .mk ?_; (try simp only [Hb_iff, Bool.not_eq_true', Bool.not_eq_false'] at *)
                         all_goals (unfold chanOkP; rw [hA0, k1, k2]; clear hA0 k1 k2)
                         all_goals (generalize c.closed = cl at *; cases cl <;> (first | (simp [*]; done) | (simp at *; simp [*]; done) | (simp at *; simp [*]; omega) | (simp_all ; done) | (refine scb ?_; simp  at *; omega) | (refine scb ?_; simp_all ; done) | (refine scb ?_; simp_all  <;> omega) | (simp_all ; omega)))
             · (iterate 16 refine .o ?_); refine .o (.nil (.xseq ?_)); refine .cF (.skip (.xseq (.seq (.region ?_)))); (iterate 4 refine .o ?_); refine .o ?_
               refine .sp 70 (fun s9 => ?_) (fun s9 => ?_)
               · (iterate 10 refine .o ?_); refine .o (.nil (.xseq (.ret (.done ?_)))); refine .mk ?_; (try simp only [Hb_iff, Bool.not_eq_true', Bool.not_eq_false'] at *)
                 all_goals (unfold chanOkP; rw [hA0, k1, k2]; clear hA0 k1 k2)
                 all_goals (generalize c.closed = cl at *; cases cl <;> (first | (simp [*]; done) | (simp at *; simp [*]; done) | (simp at *; simp [*]; omega) | (simp_all ; done) | (refine scb ?_; simp  at *; omega) | (refine scb ?_; simp_all ; done) | (refine scb ?_; simp_all  <;> omega) | (simp_all ; omega)))
               · (iterate 4 refine .o ?_); refine .o ?_; refine .sp 75 (fun s10 => ?_) (fun s10 => ?_)
                 · (iterate 5 refine .o ?_); refine .o (.nil (.xseq (.ret (.done ?_)))); refine .mk ?_; (try simp only [Hb_iff, Bool.not_eq_true', Bool.not_eq_false'] at *)
                   all_goals (unfold chanOkP; rw [hA0, k1, k2]; clear hA0 k1 k2)
                   all_goals (generalize c.closed = cl at *; cases cl <;> (first | (simp [*]; done) | (simp at *; simp [*]; done) | (simp at *; simp [*]; omega) | (simp_all ; done) | (refine scb ?_; simp  at *; omega) | (refine scb ?_; simp_all ; done) | (refine scb ?_; simp_all  <;> omega) | (simp_all ; omega)))
                 · (iterate 5 refine .o ?_); refine .o (.nil (.xseq (.ret (.done ?_)))); refine .mk ?_; (try simp only [Hb_iff, Bool.not_eq_true', Bool.not_eq_false'] at *)
                   all_goals (unfold chanOkP; rw [hA0, k1, k2]; clear hA0 k1 k2)
                   all_goals (generalize c.closed = cl at *; cases cl <;> (first | (simp [*]; done) | (simp at *; simp [*]; done) | (simp at *; simp [*]; omega) | (simp_all ; done) | (refine scb ?_; simp  at *; omega) | (refine scb ?_; simp_all ; done) | (refine scb ?_; simp_all  <;> omega) | (simp_all ; omega)))

theorem c_spec_MutexOk (m : Mutex) : FnC Tryz.prog TA false 271 [.agg (eMutexI m)] [] (.sc (.bool (mutexOkP m))) [] := by
 refine .ini Tryz.ntmps271 Tryz.results271 ?_; refine .seq (.region ?_); refine .o ?_; refine .o (.nil (.xseq (.seq (.seq (.region ?_))))); (iterate 3 refine .o ?_); refine .o ?_
 refine .sp 8 (fun s0 => ?_) (fun s0 => ?_)
 · (iterate 9 refine .o ?_); refine .o (.nil (.xseq ?_)); refine .cT (.seq (.region ?_)); refine .o (.nil (.xseq (.ret (.rseq (.done ?_))))); refine .mk ?_
   (try simp only [Hb_iff, Bool.not_eq_true', Bool.not_eq_false'] at *)
   all_goals ((first | (simp [mutexOkP, *]; done) | (simp at *; simp [mutexOkP, *]; done) | (simp at *; simp [mutexOkP, *]; omega) | (simp_all [mutexOkP]; done) | (refine scb ?_; simp [mutexOkP] at *; omega) | (refine scb ?_; simp_all [mutexOkP]; done) | (refine scb ?_; simp_all [mutexOkP] <;> omega) | (simp_all [mutexOkP]; omega)))
 · (iterate 3 refine .o ?_); refine .o ?_; refine .sp 12 (fun s1 => ?_) (fun s1 => ?_)
   · (iterate 5 refine .o ?_); refine .o (.nil (.xseq ?_)); refine .cs (fun h0 => ?_) (fun h0 => ?_)
     · refine .seq (.region ?_); refine .o (.nil (.xseq (.ret (.rseq (.done ?_))))); refine .mk ?_; (try simp only [Hb_iff, Bool.not_eq_true', Bool.not_eq_false'] at *)
       all_goals ((first | (simp [mutexOkP, *]; done) | (simp at *; simp [mutexOkP, *]; done) | (simp at *; simp [mutexOkP, *]; omega) | (simp_all [mutexOkP]; done) | (refine scb ?_; simp [mutexOkP] at *; omega) | (refine scb ?_; simp_all [mutexOkP]; done) | (refine scb ?_; simp_all [mutexOkP] <;> omega) | (simp_all [mutexOkP]; omega)))
     · refine .skip (.xseq (.seq (.seq (.region ?_)))); (iterate 3 refine .o ?_); refine .o (.nil (.xseq (.block (.loop ?_)))); refine .bound 20 rfl fun hb0 => ?_
       simp only [List.length_map, mxl] at hb0
       refine .rng [1, 20, 21, 22] (fun i => [(22, .sc (.int .i64 (i : Nat)))]) (fun i => []) (fun i => waitGoP m.owner [] m.wait = waitGoP m.owner (m.wait.take i) (m.wait.drop i)) (m.wait.length) (by first | rfl | simp) (fun i hi0 hH0 ih0 => ?_)
       refine .seq (.region ?_); refine .o (.nil (.xseq (.seq ?_))); refine .cs (fun h1 => ?_) (fun h1 => ?_)
       · have hlt0 : i < m.wait.length := by simpa using h1
         obtain ⟨x, hx0, hd0⟩ := drop_cons hlt0; have hn0 : (0 : Int) ≤ (i : Int) := Int.natCast_nonneg i
         have hw0 : IntKind.i64.wrap ((i : Int) + 1) = ((i + 1 : Nat) : Int) := by rw [w64 (by omega) (by omega)]; rfl
         refine .skip (.xseq (.seq (.block (.seq (.region ?_))))); (iterate 4 refine .o ?_); refine .o (.nil (.xseq (.seq (.region ?_)))); (iterate 2 refine .o ?_); refine .o ?_
         refine .sp 29 (fun s2 => ?_) (fun s2 => ?_)
         · (iterate 12 refine .o ?_); refine .o (.nil (.xseq ?_)); refine .cT (.seq (.region ?_)); refine .o (.nil (.xseq (.ret (.rblk (.rseq (.rlp (.rblk (.rseq (.done ?_)))))))))
           refine .mk ?_; clear ih0; (try simp only [Hb_iff, Bool.not_eq_true', Bool.not_eq_false'] at *)
           all_goals (unfold mutexOkP; rw [hH0, hd0]; clear hH0; (first | (simp [waitGoP, *]; done) | (simp at *; simp [waitGoP, *]; done) | (simp at *; simp [waitGoP, *]; omega) | (simp_all [waitGoP]; done) | (refine scb ?_; simp [waitGoP] at *; omega) | (refine scb ?_; simp_all [waitGoP]; done) | (refine scb ?_; simp_all [waitGoP] <;> omega) | (simp_all [waitGoP]; omega)))
         · (iterate 5 refine .o ?_); refine .o ?_; refine .sp 35 (fun s3 => ?_) (fun s3 => ?_)
           · (iterate 6 refine .o ?_); refine .o (.nil (.xseq ?_)); refine .cT (.seq (.region ?_)); refine .o (.nil (.xseq (.ret (.rblk (.rseq (.rlp (.rblk (.rseq (.done ?_)))))))))
             refine .mk ?_; clear ih0; (try simp only [Hb_iff, Bool.not_eq_true', Bool.not_eq_false'] at *)
             all_goals (unfold mutexOkP; rw [hH0, hd0]; clear hH0; (first | (simp [waitGoP, *]; done) | (simp at *; simp [waitGoP, *]; done) | (simp at *; simp [waitGoP, *]; omega) | (simp_all [waitGoP]; done) | (refine scb ?_; simp [waitGoP] at *; omega) | (refine scb ?_; simp_all [waitGoP]; done) | (refine scb ?_; simp_all [waitGoP] <;> omega) | (simp_all [waitGoP]; omega)))
           · (iterate 4 refine .o ?_); refine .o ?_; refine .cl (c_spec_l07Has _ _) ?_; refine .o (.nil (.xseq ?_)); refine .cs (fun h2 => ?_) (fun h2 => ?_)
             · refine .seq (.region ?_); refine .o (.nil (.xseq (.ret (.rblk (.rseq (.rlp (.rblk (.rseq (.done ?_))))))))); refine .mk ?_; clear ih0
               (try simp only [Hb_iff, Bool.not_eq_true', Bool.not_eq_false'] at *)
               all_goals (unfold mutexOkP; rw [hH0, hd0]; clear hH0; (first | (simp [waitGoP, *]; done) | (simp at *; simp [waitGoP, *]; done) | (simp at *; simp [waitGoP, *]; omega) | (simp_all [waitGoP]; done) | (refine scb ?_; simp [waitGoP] at *; omega) | (refine scb ?_; simp_all [waitGoP]; done) | (refine scb ?_; simp_all [waitGoP] <;> omega) | (simp_all [waitGoP]; omega)))
             · refine .skip (.xblk (.xseq (.region ?_))); refine .o ?_; refine .o (.nil ?_); refine .xlp (.back [1, 20, 21, 22] (ih0 (by assumption) ?_)); clear ih0
               (try simp only [Hb_iff, Bool.not_eq_true', Bool.not_eq_false'] at *)
               rw [hH0, hd0, take_snoc hx0]; clear hH0; (first | (simp [waitGoP, *]; done) | (simp at *; simp [waitGoP, *]; done) | (simp at *; simp [waitGoP, *]; omega) | (simp_all [waitGoP]; done) | (refine scb ?_; simp [waitGoP] at *; omega) | (refine scb ?_; simp_all [waitGoP]; done) | (refine scb ?_; simp_all [waitGoP] <;> omega) | (simp_all [waitGoP]; omega))
       · have hge0 : m.wait.length ≤ i := by simpa using h1
         clear ih0; refine .exit (.eseq (.elp (.eblk (.xseq (.seq (.region ?_)))))); refine .o (.nil (.xseq (.ret (.done ?_)))); refine .mk ?_
         (try simp only [Hb_iff, Bool.not_eq_true', Bool.not_eq_false'] at *)
         all_goals (unfold mutexOkP; rw [hH0, List.drop_of_length_le hge0]; clear hH0; (first | (simp [waitGoP, *]; done) | (simp at *; simp [waitGoP, *]; done) | (simp at *; simp [waitGoP, *]; omega) | (simp_all [waitGoP]; done) | (refine scb ?_; simp [waitGoP] at *; omega) | (refine scb ?_; simp_all [waitGoP]; done) | (refine scb ?_; simp_all [waitGoP] <;> omega) | (simp_all [waitGoP]; omega)))
   · (iterate 5 refine .o ?_); refine .o (.nil (.xseq ?_)); refine .cF (.skip (.xseq (.seq (.seq (.region ?_))))); (iterate 3 refine .o ?_); refine .o (.nil (.xseq (.block (.loop ?_))))
     refine .bound 20 rfl fun hb0 => ?_; simp only [List.length_map, mxl] at hb0
     refine .rng [1, 20, 21, 22] (fun i => [(22, .sc (.int .i64 (i : Nat)))]) (fun i => []) (fun i => waitGoP m.owner [] m.wait = waitGoP m.owner (m.wait.take i) (m.wait.drop i)) (m.wait.length) (by first | rfl | simp) (fun i hi0 hH0 ih0 => ?_)
     refine .seq (.region ?_); refine .o (.nil (.xseq (.seq ?_))); refine .cs (fun h3 => ?_) (fun h3 => ?_)
     · have hlt0 : i < m.wait.length := by simpa using h3
       obtain ⟨x, hx0, hd0⟩ := drop_cons hlt0; have hn0 : (0 : Int) ≤ (i : Int) := Int.natCast_nonneg i
       have hw0 : IntKind.i64.wrap ((i : Int) + 1) = ((i + 1 : Nat) : Int) := by rw [w64 (by omega) (by omega)]; rfl
       refine .skip (.xseq (.seq (.block (.seq (.region ?_))))); (iterate 4 refine .o ?_); refine .o (.nil (.xseq (.seq (.region ?_)))); (iterate 2 refine .o ?_); refine .o ?_
       refine .sp 29 (fun s4 => ?_) (fun s4 => ?_)
       · (iterate 12 refine .o ?_); refine .o (.nil (.xseq ?_)); refine .cT (.seq (.region ?_)); refine .o (.nil (.xseq (.ret (.rblk (.rseq (.rlp (.rblk (.rseq (.done ?_)))))))))
         refine .mk ?_; clear ih0; (try simp only [Hb_iff, Bool.not_eq_true', Bool.not_eq_false'] at *)
         all_goals (unfold mutexOkP; rw [hH0, hd0]; clear hH0; (first | (simp [waitGoP, *]; done) | (simp at *; simp [waitGoP, *]; done) | (simp at *; simp [waitGoP, *]; omega) | (simp_all [waitGoP]; done) | (refine scb ?_; simp [waitGoP] at *; omega) | (refine scb ?_; simp_all [waitGoP]; done) | (refine scb ?_; simp_all [waitGoP] <;> omega) | (simp_all [waitGoP]; omega)))
       · (iterate 5 refine .o ?_); refine .o ?_; refine .sp 35 (fun s5 => ?_) (fun s5 => ?_)
         · (iterate 6 refine .o ?_); refine .o (.nil (.xseq ?_)); refine .cT (.seq (.region ?_)); refine .o (.nil (.xseq (.ret (.rblk (.rseq (.rlp (.rblk (.rseq (.done ?_)))))))))
           refine .mk ?_; clear ih0; (try simp only [Hb_iff, Bool.not_eq_true', Bool.not_eq_false'] at *)
           all_goals (unfold mutexOkP; rw [hH0, hd0]; clear hH0; (first | (simp [waitGoP, *]; done) | (simp at *; simp [waitGoP, *]; done) | (simp at *; simp [waitGoP, *]; omega) | (simp_all [waitGoP]; done) | (refine scb ?_; simp [waitGoP] at *; omega) | (refine scb ?_; simp_all [waitGoP]; done) | (refine scb ?_; simp_all [waitGoP] <;> omega) | (simp_all [waitGoP]; omega)))
         · (iterate 4 refine .o ?_); refine .o ?_; refine .cl (c_spec_l07Has _ _) ?_; refine .o (.nil (.xseq ?_)); refine .cs (fun h4 => ?_) (fun h4 => ?_)
           · refine .seq (.region ?_); refine .o (.nil (.xseq (.ret (.rblk (.rseq (.rlp (.rblk (.rseq (.done ?_))))))))); refine .mk ?_; clear ih0
             (try simp only [Hb_iff, Bool.not_eq_true', Bool.not_eq_false'] at *)
             all_goals (unfold mutexOkP; rw [hH0, hd0]; clear hH0; (first | (simp [waitGoP, *]; done) | (simp at *; simp [waitGoP, *]; done) | (simp at *; simp [waitGoP, *]; omega) | (simp_all [waitGoP]; done) | (refine scb ?_; simp [waitGoP] at *; omega) | (refine scb ?_; simp_all [waitGoP]; done) | (refine scb ?_; simp_all [waitGoP] <;> omega) | (simp_all [waitGoP]; omega)))
           · refine .skip (.xblk (.xseq (.region ?_))); refine .o ?_; refine .o (.nil ?_); refine .xlp (.back [1, 20, 21, 22] (ih0 (by assumption) ?_)); clear ih0
             (try simp only [Hb_iff, Bool.not_eq_true', Bool.not_eq_false'] at *)
             rw [hH0, hd0, take_snoc hx0]; clear hH0; (first | (simp [waitGoP, *]; done) | (simp at *; simp [waitGoP, *]; done) | (simp at *; simp [waitGoP, *]; omega) | (simp_all [waitGoP]; done) | (refine scb ?_; simp [waitGoP] at *; omega) | (refine scb ?_; simp_all [waitGoP]; done) | (refine scb ?_; simp_all [waitGoP] <;> omega) | (simp_all [waitGoP]; omega))
     · have hge0 : m.wait.length ≤ i := by simpa using h3
       clear ih0; refine .exit (.eseq (.elp (.eblk (.xseq (.seq (.region ?_)))))); refine .o (.nil (.xseq (.ret (.done ?_)))); refine .mk ?_
       (try simp only [Hb_iff, Bool.not_eq_true', Bool.not_eq_false'] at *)
       all_goals (unfold mutexOkP; rw [hH0, List.drop_of_length_le hge0]; clear hH0; (first | (simp [waitGoP, *]; done) | (simp at *; simp [waitGoP, *]; done) | (simp at *; simp [waitGoP, *]; omega) | (simp_all [waitGoP]; done) | (refine scb ?_; simp [waitGoP] at *; omega) | (refine scb ?_; simp_all [waitGoP]; done) | (refine scb ?_; simp_all [waitGoP] <;> omega) | (simp_all [waitGoP]; omega)))

theorem c_spec_Instrs (p : Prog) (n : Int) : FnC Tryz.prog TA false 272 [.agg (eProgI p), .sc (.int .i64 (n))] [] (.sc (.int .i64 (instrsP p n))) [] := by
 refine .ini Tryz.ntmps272 Tryz.results272 ?_; refine .seq (.region ?_); refine .o ?_; refine .o (.nil (.xseq (.seq (.seq (.region ?_))))); (iterate 2 refine .o ?_); refine .o ?_
 refine .sp 7 (fun s0 => ?_) (fun s0 => ?_)
 · (iterate 5 refine .o ?_); refine .o (.nil (.xseq ?_)); refine .cT (.seq (.region ?_)); refine .o (.nil (.xseq (.ret (.rseq (.done ?_))))); refine .mk ?_
   (try simp only [Hb_iff, Bool.not_eq_true', Bool.not_eq_false'] at *)
   have h : withinP n 0 p.procs.length = false := by (first | (simp [withinP, *]; done) | (simp at *; simp [withinP, *]; done) | (simp at *; simp [withinP, *]; omega) | (simp_all [withinP]; done) | (refine scb ?_; simp [withinP] at *; omega) | (refine scb ?_; simp_all [withinP]; done) | (refine scb ?_; simp_all [withinP] <;> omega) | (simp_all [withinP]; omega))
   all_goals (simp [instrsP, h])
 · (iterate 5 refine .o ?_); refine .o (.nil (.xseq ?_)); refine .cs (fun h0 => ?_) (fun h0 => ?_)
   · refine .seq (.region ?_); refine .o (.nil (.xseq (.ret (.rseq (.done ?_))))); refine .mk ?_; (try simp only [Hb_iff, Bool.not_eq_true', Bool.not_eq_false'] at *)
     have h : withinP n 0 p.procs.length = false := by (first | (simp [withinP, *]; done) | (simp at *; simp [withinP, *]; done) | (simp at *; simp [withinP, *]; omega) | (simp_all [withinP]; done) | (refine scb ?_; simp [withinP] at *; omega) | (refine scb ?_; simp_all [withinP]; done) | (refine scb ?_; simp_all [withinP] <;> omega) | (simp_all [withinP]; omega))
     all_goals (simp [instrsP, h])
   · refine .skip (.xseq (.seq ?_)); have h0n : 0 ≤ n := by (simp at *; omega)
     have h1n : n < p.procs.length := by (simp at *; omega)
     have hg := getD_get (default : Proc) h0n h1n; refine .region ?_; (iterate 7 refine .o ?_); refine .o (.nil (.xseq (.ret (.done ?_)))); refine .mk ?_
     (try simp only [Hb_iff, Bool.not_eq_true', Bool.not_eq_false'] at *); have h : withinP n 0 p.procs.length = true := by simp [withinP, h0n, h1n]
     all_goals (simp [instrsP, h])

theorem c_spec_Reg (g : Gor) (n : Int) : FnC Tryz.prog TA false 242 [.agg (eGorI g), .sc (.int .i64 (n))] [] (.sc (.int .i64 (regP g n))) [] := by
 refine .ini Tryz.ntmps242 Tryz.results242 ?_; refine .seq (.region ?_); refine .o ?_; refine .o (.nil (.xseq (.seq (.seq (.region ?_))))); (iterate 2 refine .o ?_); refine .o ?_
 refine .sp 7 (fun s0 => ?_) (fun s0 => ?_)
 · (iterate 5 refine .o ?_); refine .o (.nil (.xseq ?_)); refine .cT (.seq (.region ?_)); refine .o (.nil (.xseq (.ret (.rseq (.done ?_))))); refine .mk ?_
   (try simp only [Hb_iff, Bool.not_eq_true', Bool.not_eq_false'] at *)
   have h : withinP n 0 g.regs.length = false := by (first | (simp [withinP, *]; done) | (simp at *; simp [withinP, *]; done) | (simp at *; simp [withinP, *]; omega) | (simp_all [withinP]; done) | (refine scb ?_; simp [withinP] at *; omega) | (refine scb ?_; simp_all [withinP]; done) | (refine scb ?_; simp_all [withinP] <;> omega) | (simp_all [withinP]; omega))
   all_goals (simp [regP, h])
 · (iterate 5 refine .o ?_); refine .o (.nil (.xseq ?_)); refine .cs (fun h0 => ?_) (fun h0 => ?_)
   · refine .seq (.region ?_); refine .o (.nil (.xseq (.ret (.rseq (.done ?_))))); refine .mk ?_; (try simp only [Hb_iff, Bool.not_eq_true', Bool.not_eq_false'] at *)
     have h : withinP n 0 g.regs.length = false := by (first | (simp [withinP, *]; done) | (simp at *; simp [withinP, *]; done) | (simp at *; simp [withinP, *]; omega) | (simp_all [withinP]; done) | (refine scb ?_; simp [withinP] at *; omega) | (refine scb ?_; simp_all [withinP]; done) | (refine scb ?_; simp_all [withinP] <;> omega) | (simp_all [withinP]; omega))
     all_goals (simp [regP, h])
   · refine .skip (.xseq (.seq ?_)); have h0n : 0 ≤ n := by (simp at *; omega)
     have h1n : n < g.regs.length := by (simp at *; omega)
     have hg := getD_get (0 : Int) h0n h1n; refine .region ?_; (iterate 5 refine .o ?_); refine .o (.nil (.xseq (.ret (.done ?_)))); refine .mk ?_
     (try simp only [Hb_iff, Bool.not_eq_true', Bool.not_eq_false'] at *); have h : withinP n 0 g.regs.length = true := by simp [withinP, h0n, h1n]
     all_goals (simp [regP, h])

theorem c_spec_ItemOk (i : Item) : FnC Tryz.prog TA false 324 [.agg (eItem i)] [] (.sc (.bool (itemOkP i))) [] := by
 refine .ini Tryz.ntmps324 Tryz.results324 ?_; refine .seq (.region ?_); refine .o ?_; refine .o (.nil (.xseq (.seq (.seq (.region ?_))))); (iterate 3 refine .o ?_); refine .o ?_
 refine .sp 6 (fun s0 => ?_) (fun s0 => ?_)
 · (iterate 27 refine .o ?_); refine .o (.nil (.xseq ?_)); refine .cT (.seq (.region ?_)); refine .o (.nil (.xseq (.ret (.rseq (.done ?_))))); refine .mk ?_
   (try simp only [Hb_iff, Bool.not_eq_true', Bool.not_eq_false'] at *)
   all_goals (rw [item_pre (by (first | (simp [itemPreP, *]; done) | (simp at *; simp [itemPreP, *]; done) | (simp at *; simp [itemPreP, *]; omega) | (simp_all [itemPreP]; done) | (refine scb ?_; simp [itemPreP] at *; omega) | (refine scb ?_; simp_all [itemPreP]; done) | (refine scb ?_; simp_all [itemPreP] <;> omega) | (simp_all [itemPreP]; omega)))])
 · (iterate 4 refine .o ?_); refine .o ?_; refine .sp 11 (fun s1 => ?_) (fun s1 => ?_)
   · (iterate 22 refine .o ?_); refine .o (.nil (.xseq ?_)); refine .cT (.seq (.region ?_)); refine .o (.nil (.xseq (.ret (.rseq (.done ?_))))); refine .mk ?_
     (try simp only [Hb_iff, Bool.not_eq_true', Bool.not_eq_false'] at *)
     all_goals (rw [item_pre (by (first | (simp [itemPreP, *]; done) | (simp at *; simp [itemPreP, *]; done) | (simp at *; simp [itemPreP, *]; omega) | (simp_all [itemPreP]; done) | (refine scb ?_; simp [itemPreP] at *; omega) | (refine scb ?_; simp_all [itemPreP]; done) | (refine scb ?_; simp_all [itemPreP] <;> omega) | (simp_all [itemPreP]; omega)))])
   · (iterate 4 refine .o ?_); refine .o ?_; refine .sp 16 (fun s2 => ?_) (fun s2 => ?_)
     · (iterate 17 refine .o ?_); refine .o (.nil (.xseq ?_)); refine .cT (.seq (.region ?_)); refine .o (.nil (.xseq (.ret (.rseq (.done ?_))))); refine .mk ?_
       (try simp only [Hb_iff, Bool.not_eq_true', Bool.not_eq_false'] at *)
       all_goals (rw [item_pre (by (first | (simp [itemPreP, *]; done) | (simp at *; simp [itemPreP, *]; done) | (simp at *; simp [itemPreP, *]; omega) | (simp_all [itemPreP]; done) | (refine scb ?_; simp [itemPreP] at *; omega) | (refine scb ?_; simp_all [itemPreP]; done) | (refine scb ?_; simp_all [itemPreP] <;> omega) | (simp_all [itemPreP]; omega)))])
     · (iterate 3 refine .o ?_); refine .o ?_; refine .sp 20 (fun s3 => ?_) (fun s3 => ?_)
       · (iterate 5 refine .o ?_); refine .o ?_; refine .sp 26 (fun s4 => ?_) (fun s4 => ?_)
         · (iterate 7 refine .o ?_); refine .o (.nil (.xseq ?_)); refine .cT (.seq (.region ?_)); refine .o (.nil (.xseq (.ret (.rseq (.done ?_))))); refine .mk ?_
           (try simp only [Hb_iff, Bool.not_eq_true', Bool.not_eq_false'] at *)
           all_goals (rw [item_pre (by (first | (simp [itemPreP, *]; done) | (simp at *; simp [itemPreP, *]; done) | (simp at *; simp [itemPreP, *]; omega) | (simp_all [itemPreP]; done) | (refine scb ?_; simp [itemPreP] at *; omega) | (refine scb ?_; simp_all [itemPreP]; done) | (refine scb ?_; simp_all [itemPreP] <;> omega) | (simp_all [itemPreP]; omega)))])
         · (iterate 2 refine .o ?_); refine .o ?_; refine .sp 29 (fun s5 => ?_) (fun s5 => ?_)
           · (iterate 4 refine .o ?_); refine .o (.nil (.xseq ?_)); refine .cs (fun h0 => ?_) (fun h0 => ?_)
             · refine .seq (.region ?_); refine .o (.nil (.xseq (.ret (.rseq (.done ?_))))); refine .mk ?_; (try simp only [Hb_iff, Bool.not_eq_true', Bool.not_eq_false'] at *)
               all_goals (rw [item_pre (by (first | (simp [itemPreP, *]; done) | (simp at *; simp [itemPreP, *]; done) | (simp at *; simp [itemPreP, *]; omega) | (simp_all [itemPreP]; done) | (refine scb ?_; simp [itemPreP] at *; omega) | (refine scb ?_; simp_all [itemPreP]; done) | (refine scb ?_; simp_all [itemPreP] <;> omega) | (simp_all [itemPreP]; omega)))])
             · refine .skip (.xseq (.seq (.seq (.region ?_)))); refine .o ?_; refine .o (.nil (.xseq (.block (.seq (.seq (.region ?_)))))); refine .o ?_; refine .o (.nil (.xseq ?_))
               refine .cs (fun h1 => ?_) (fun h1 => ?_)
               · refine .skip (.xseq ?_); refine .cT (.seq (.region ?_)); refine .o ?_; refine .o ?_; refine .cl (c_spec_l03Val _) ?_; refine .o (.nil (.xseq (.ret (.rblk (.rseq (.done ?_))))))
                 refine .mk ?_; (try simp only [Hb_iff, Bool.not_eq_true', Bool.not_eq_false'] at *)
                 all_goals (first | (simp_all [itemOkP, itemPreP, itemArmP]; done) | (simp_all [itemOkP, itemPreP, itemArmP]; omega) | (refine scb ?_; simp_all [itemOkP, itemPreP, itemArmP] <;> omega))
               · refine .region ?_; refine .o ?_; refine .o (.nil (.xseq ?_)); refine .cs (fun h2 => ?_) (fun h2 => ?_)
                 · refine .seq (.region ?_); refine .o ?_; refine .o ?_; refine .cl (c_spec_l03Val _) ?_; refine .o (.nil (.xseq (.ret (.rblk (.rseq (.done ?_)))))); refine .mk ?_
                   (try simp only [Hb_iff, Bool.not_eq_true', Bool.not_eq_false'] at *)
                   all_goals (first | (simp_all [itemOkP, itemPreP, itemArmP]; done) | (simp_all [itemOkP, itemPreP, itemArmP]; omega) | (refine scb ?_; simp_all [itemOkP, itemPreP, itemArmP] <;> omega))
                 · refine .seq (.region ?_); refine .o ?_; refine .o (.nil (.xseq ?_)); refine .cs (fun h3 => ?_) (fun h3 => ?_)
                   · refine .seq (.region ?_); refine .o ?_; refine .o ?_; refine .cl (c_spec_l03Val _) ?_; refine .o ?_; refine .sp 48 (fun s6 => ?_) (fun s6 => ?_)
                     · (iterate 2 refine .o ?_); refine .o ?_; refine .sp 51 (fun s7 => ?_) (fun s7 => ?_)
                       · (iterate 5 refine .o ?_); refine .o (.nil (.xseq (.ret (.rblk (.rseq (.done ?_)))))); refine .mk ?_; (try simp only [Hb_iff, Bool.not_eq_true', Bool.not_eq_false'] at *)
                         all_goals (first | (simp_all [itemOkP, itemPreP, itemArmP]; done) | (simp_all [itemOkP, itemPreP, itemArmP]; omega) | (refine scb ?_; simp_all [itemOkP, itemPreP, itemArmP] <;> omega))
                       · (iterate 5 refine .o ?_); refine .o (.nil (.xseq (.ret (.rblk (.rseq (.done ?_)))))); refine .mk ?_; (try simp only [Hb_iff, Bool.not_eq_true', Bool.not_eq_false'] at *)
                         all_goals (first | (simp_all [itemOkP, itemPreP, itemArmP]; done) | (simp_all [itemOkP, itemPreP, itemArmP]; omega) | (refine scb ?_; simp_all [itemOkP, itemPreP, itemArmP] <;> omega))
                     · (iterate 8 refine .o ?_); refine .o (.nil (.xseq (.ret (.rblk (.rseq (.done ?_)))))); refine .mk ?_; (try simp only [Hb_iff, Bool.not_eq_true', Bool.not_eq_false'] at *)
                       all_goals (first | (simp_all [itemOkP, itemPreP, itemArmP]; done) | (simp_all [itemOkP, itemPreP, itemArmP]; omega) | (refine scb ?_; simp_all [itemOkP, itemPreP, itemArmP] <;> omega))
                   · refine .seq (.region ?_); refine .o ?_; refine .o (.nil (.xseq ?_)); refine .cs (fun h4 => ?_) (fun h4 => ?_)
                     · refine .seq (.region ?_); (iterate 3 refine .o ?_); refine .o (.nil (.xseq (.ret (.rblk (.rseq (.done ?_)))))); refine .mk ?_
                       (try simp only [Hb_iff, Bool.not_eq_true', Bool.not_eq_false'] at *)
                       all_goals (first | (simp_all [itemOkP, itemPreP, itemArmP]; done) | (simp_all [itemOkP, itemPreP, itemArmP]; omega) | (refine scb ?_; simp_all [itemOkP, itemPreP, itemArmP] <;> omega))
                     · refine .seq (.region ?_); refine .o ?_; refine .o (.nil (.xseq ?_)); refine .cs (fun h5 => ?_) (fun h5 => ?_)
                       · refine .seq (.region ?_); (iterate 3 refine .o ?_); refine .o (.nil (.xseq (.ret (.rblk (.rseq (.done ?_)))))); refine .mk ?_
                         (try simp only [Hb_iff, Bool.not_eq_true', Bool.not_eq_false'] at *)
                         all_goals (first | (simp_all [itemOkP, itemPreP, itemArmP]; done) | (simp_all [itemOkP, itemPreP, itemArmP]; omega) | (refine scb ?_; simp_all [itemOkP, itemPreP, itemArmP] <;> omega))
                       · refine .seq (.region ?_); refine .o ?_; refine .o (.nil (.xseq ?_)); refine .cs (fun h6 => ?_) (fun h6 => ?_)
                         · refine .seq (.region ?_); (iterate 3 refine .o ?_); refine .o ?_; refine .sp 72 (fun s8 => ?_) (fun s8 => ?_)
                           · (iterate 4 refine .o ?_); refine .o (.nil (.xseq (.ret (.rblk (.rseq (.done ?_)))))); refine .mk ?_; (try simp only [Hb_iff, Bool.not_eq_true', Bool.not_eq_false'] at *)
                             all_goals (first | (simp_all [itemOkP, itemPreP, itemArmP]; done) | (simp_all [itemOkP, itemPreP, itemArmP]; omega) | (refine scb ?_; simp_all [itemOkP, itemPreP, itemArmP] <;> omega))
                           · (iterate 4 refine .o ?_); refine .o (.nil (.xseq (.ret (.rblk (.rseq (.done ?_)))))); refine .mk ?_; (try simp only [Hb_iff, Bool.not_eq_true', Bool.not_eq_false'] at *)
                             all_goals (first | (simp_all [itemOkP, itemPreP, itemArmP]; done) | (simp_all [itemOkP, itemPreP, itemArmP]; omega) | (refine scb ?_; simp_all [itemOkP, itemPreP, itemArmP] <;> omega))
                         · refine .skip (.xblk (.xseq (.seq (.region ?_)))); (iterate 3 refine .o ?_); refine .o (.nil (.xseq (.ret (.done ?_)))); refine .mk ?_
                           (try simp only [Hb_iff, Bool.not_eq_true', Bool.not_eq_false'] at *)
                           all_goals (first | (simp_all [itemOkP, itemPreP, itemArmP]; done) | (simp_all [itemOkP, itemPreP, itemArmP]; omega) | (refine scb ?_; simp_all [itemOkP, itemPreP, itemArmP] <;> omega))
           · (iterate 4 refine .o ?_); refine .o (.nil (.xseq ?_)); refine .cF (.skip (.xseq (.seq (.seq (.region ?_))))); refine .o ?_
             refine .o (.nil (.xseq (.block (.seq (.seq (.region ?_)))))); refine .o ?_; refine .o (.nil (.xseq ?_)); refine .cs (fun h7 => ?_) (fun h7 => ?_)
             · refine .skip (.xseq ?_); refine .cT (.seq (.region ?_)); refine .o ?_; refine .o ?_; refine .cl (c_spec_l03Val _) ?_; refine .o (.nil (.xseq (.ret (.rblk (.rseq (.done ?_))))))
               refine .mk ?_; (try simp only [Hb_iff, Bool.not_eq_true', Bool.not_eq_false'] at *)
               all_goals (first | (simp_all [itemOkP, itemPreP, itemArmP]; done) | (simp_all [itemOkP, itemPreP, itemArmP]; omega) | (refine scb ?_; simp_all [itemOkP, itemPreP, itemArmP] <;> omega))
             · refine .region ?_; refine .o ?_; refine .o (.nil (.xseq ?_)); refine .cs (fun h8 => ?_) (fun h8 => ?_)
               · refine .seq (.region ?_); refine .o ?_; refine .o ?_; refine .cl (c_spec_l03Val _) ?_; refine .o (.nil (.xseq (.ret (.rblk (.rseq (.done ?_)))))); refine .mk ?_
                 (try simp only [Hb_iff, Bool.not_eq_true', Bool.not_eq_false'] at *)
                 all_goals (first | (simp_all [itemOkP, itemPreP, itemArmP]; done) | (simp_all [itemOkP, itemPreP, itemArmP]; omega) | (refine scb ?_; simp_all [itemOkP, itemPreP, itemArmP] <;> omega))
               · refine .seq (.region ?_); refine .o ?_; refine .o (.nil (.xseq ?_)); refine .cs (fun h9 => ?_) (fun h9 => ?_)
                 · refine .seq (.region ?_); refine .o ?_; refine .o ?_; refine .cl (c_spec_l03Val _) ?_; refine .o ?_; refine .sp 48 (fun s9 => ?_) (fun s9 => ?_)
                   · (iterate 2 refine .o ?_); refine .o ?_; refine .sp 51 (fun s10 => ?_) (fun s10 => ?_)
                     · (iterate 5 refine .o ?_); refine .o (.nil (.xseq (.ret (.rblk (.rseq (.done ?_)))))); refine .mk ?_; (try simp only [Hb_iff, Bool.not_eq_true', Bool.not_eq_false'] at *)
                       all_goals (first | (simp_all [itemOkP, itemPreP, itemArmP]; done) | (simp_all [itemOkP, itemPreP, itemArmP]; omega) | (refine scb ?_; simp_all [itemOkP, itemPreP, itemArmP] <;> omega))
                     · (iterate 5 refine .o ?_); refine .o (.nil (.xseq (.ret (.rblk (.rseq (.done ?_)))))); refine .mk ?_; (try simp only [Hb_iff, Bool.not_eq_true', Bool.not_eq_false'] at *)
                       all_goals (first | (simp_all [itemOkP, itemPreP, itemArmP]; done) | (simp_all [itemOkP, itemPreP, itemArmP]; omega) | (refine scb ?_; simp_all [itemOkP, itemPreP, itemArmP] <;> omega))
                   · (iterate 8 refine .o ?_); refine .o (.nil (.xseq (.ret (.rblk (.rseq (.done ?_)))))); refine .mk ?_; (try simp only [Hb_iff, Bool.not_eq_true', Bool.not_eq_false'] at *)
                     all_goals (first | (simp_all [itemOkP, itemPreP, itemArmP]; done) | (simp_all [itemOkP, itemPreP, itemArmP]; omega) | (refine scb ?_; simp_all [itemOkP, itemPreP, itemArmP] <;> omega))
                 · refine .seq (.region ?_); refine .o ?_; refine .o (.nil (.xseq ?_)); refine .cs (fun h10 => ?_) (fun h10 => ?_)
                   · refine .seq (.region ?_); (iterate 3 refine .o ?_); refine .o (.nil (.xseq (.ret (.rblk (.rseq (.done ?_)))))); refine .mk ?_
                     (try simp only [Hb_iff, Bool.not_eq_true', Bool.not_eq_false'] at *)
                     all_goals (first | (simp_all [itemOkP, itemPreP, itemArmP]; done) | (simp_all [itemOkP, itemPreP, itemArmP]; omega) | (refine scb ?_; simp_all [itemOkP, itemPreP, itemArmP] <;> omega))
                   · refine .seq (.region ?_); refine .o ?_; refine .o (.nil (.xseq ?_)); refine .cs (fun h11 => ?_) (fun h11 => ?_)
                     · refine .seq (.region ?_); (iterate 3 refine .o ?_); refine .o (.nil (.xseq (.ret (.rblk (.rseq (.done ?_)))))); refine .mk ?_
                       (try simp only [Hb_iff, Bool.not_eq_true', Bool.not_eq_false'] at *)
                       all_goals (first | (simp_all [itemOkP, itemPreP, itemArmP]; done) | (simp_all [itemOkP, itemPreP, itemArmP]; omega) | (refine scb ?_; simp_all [itemOkP, itemPreP, itemArmP] <;> omega))
                     · refine .seq (.region ?_); refine .o ?_; refine .o (.nil (.xseq ?_)); refine .cs (fun h12 => ?_) (fun h12 => ?_)
                       · refine .seq (.region ?_); (iterate 3 refine .o ?_); refine .o ?_; refine .sp 72 (fun s11 => ?_) (fun s11 => ?_)
                         · (iterate 4 refine .o ?_); refine .o (.nil (.xseq (.ret (.rblk (.rseq (.done ?_)))))); refine .mk ?_; (try simp only [Hb_iff, Bool.not_eq_true', Bool.not_eq_false'] at *)
                           all_goals (first | (simp_all [itemOkP, itemPreP, itemArmP]; done) | (simp_all [itemOkP, itemPreP, itemArmP]; omega) | (refine scb ?_; simp_all [itemOkP, itemPreP, itemArmP] <;> omega))
                         · (iterate 4 refine .o ?_); refine .o (.nil (.xseq (.ret (.rblk (.rseq (.done ?_)))))); refine .mk ?_; (try simp only [Hb_iff, Bool.not_eq_true', Bool.not_eq_false'] at *)
                           all_goals (first | (simp_all [itemOkP, itemPreP, itemArmP]; done) | (simp_all [itemOkP, itemPreP, itemArmP]; omega) | (refine scb ?_; simp_all [itemOkP, itemPreP, itemArmP] <;> omega))
                       · refine .skip (.xblk (.xseq (.seq (.region ?_)))); (iterate 3 refine .o ?_); refine .o (.nil (.xseq (.ret (.done ?_)))); refine .mk ?_
                         (try simp only [Hb_iff, Bool.not_eq_true', Bool.not_eq_false'] at *)
                         all_goals (first | (simp_all [itemOkP, itemPreP, itemArmP]; done) | (simp_all [itemOkP, itemPreP, itemArmP]; omega) | (refine scb ?_; simp_all [itemOkP, itemPreP, itemArmP] <;> omega))
       · (iterate 8 refine .o ?_); refine .o ?_; refine .sp 29 (fun s12 => ?_) (fun s12 => ?_)
         · (iterate 4 refine .o ?_); refine .o (.nil (.xseq ?_)); refine .cs (fun h13 => ?_) (fun h13 => ?_)
           · refine .seq (.region ?_); refine .o (.nil (.xseq (.ret (.rseq (.done ?_))))); refine .mk ?_; (try simp only [Hb_iff, Bool.not_eq_true', Bool.not_eq_false'] at *)
             all_goals (rw [item_pre (by (first | (simp [itemPreP, *]; done) | (simp at *; simp [itemPreP, *]; done) | (simp at *; simp [itemPreP, *]; omega) | (simp_all [itemPreP]; done) | (refine scb ?_; simp [itemPreP] at *; omega) | (refine scb ?_; simp_all [itemPreP]; done) | (refine scb ?_; simp_all [itemPreP] <;> omega) | (simp_all [itemPreP]; omega)))])
           · refine .skip (.xseq (.seq (.seq (.region ?_)))); refine .o ?_; refine .o (.nil (.xseq (.block (.seq (.seq (.region ?_)))))); refine .o ?_; refine .o (.nil (.xseq ?_))
             refine .cs (fun h14 => ?_) (fun h14 => ?_)
             · refine .skip (.xseq ?_); refine .cT (.seq (.region ?_)); refine .o ?_; refine .o ?_; refine .cl (c_spec_l03Val _) ?_; refine .o (.nil (.xseq (.ret (.rblk (.rseq (.done ?_))))))
               refine .mk ?_; (try simp only [Hb_iff, Bool.not_eq_true', Bool.not_eq_false'] at *)
               all_goals (first | (simp_all [itemOkP, itemPreP, itemArmP]; done) | (simp_all [itemOkP, itemPreP, itemArmP]; omega) | (refine scb ?_; simp_all [itemOkP, itemPreP, itemArmP] <;> omega))
             · refine .region ?_; refine .o ?_; refine .o (.nil (.xseq ?_)); refine .cs (fun h15 => ?_) (fun h15 => ?_)
               · refine .seq (.region ?_); refine .o ?_; refine .o ?_; refine .cl (c_spec_l03Val _) ?_; refine .o (.nil (.xseq (.ret (.rblk (.rseq (.done ?_)))))); refine .mk ?_
                 (try simp only [Hb_iff, Bool.not_eq_true', Bool.not_eq_false'] at *)
                 all_goals (first | (simp_all [itemOkP, itemPreP, itemArmP]; done) | (simp_all [itemOkP, itemPreP, itemArmP]; omega) | (refine scb ?_; simp_all [itemOkP, itemPreP, itemArmP] <;> omega))
               · refine .seq (.region ?_); refine .o ?_; refine .o (.nil (.xseq ?_)); refine .cs (fun h16 => ?_) (fun h16 => ?_)
                 · refine .seq (.region ?_); refine .o ?_; refine .o ?_; refine .cl (c_spec_l03Val _) ?_; refine .o ?_; refine .sp 48 (fun s13 => ?_) (fun s13 => ?_)
                   · (iterate 2 refine .o ?_); refine .o ?_; refine .sp 51 (fun s14 => ?_) (fun s14 => ?_)
                     · (iterate 5 refine .o ?_); refine .o (.nil (.xseq (.ret (.rblk (.rseq (.done ?_)))))); refine .mk ?_; (try simp only [Hb_iff, Bool.not_eq_true', Bool.not_eq_false'] at *)
                       all_goals (first | (simp_all [itemOkP, itemPreP, itemArmP]; done) | (simp_all [itemOkP, itemPreP, itemArmP]; omega) | (refine scb ?_; simp_all [itemOkP, itemPreP, itemArmP] <;> omega))
                     · (iterate 5 refine .o ?_); refine .o (.nil (.xseq (.ret (.rblk (.rseq (.done ?_)))))); refine .mk ?_; (try simp only [Hb_iff, Bool.not_eq_true', Bool.not_eq_false'] at *)
                       all_goals (first | (simp_all [itemOkP, itemPreP, itemArmP]; done) | (simp_all [itemOkP, itemPreP, itemArmP]; omega) | (refine scb ?_; simp_all [itemOkP, itemPreP, itemArmP] <;> omega))
                   · (iterate 8 refine .o ?_); refine .o (.nil (.xseq (.ret (.rblk (.rseq (.done ?_)))))); refine .mk ?_; (try simp only [Hb_iff, Bool.not_eq_true', Bool.not_eq_false'] at *)
                     all_goals (first | (simp_all [itemOkP, itemPreP, itemArmP]; done) | (simp_all [itemOkP, itemPreP, itemArmP]; omega) | (refine scb ?_; simp_all [itemOkP, itemPreP, itemArmP] <;> omega))
                 · refine .seq (.region ?_); refine .o ?_; refine .o (.nil (.xseq ?_)); refine .cs (fun h17 => ?_) (fun h17 => ?_)
                   · refine .seq (.region ?_); (iterate 3 refine .o ?_); refine .o (.nil (.xseq (.ret (.rblk (.rseq (.done ?_)))))); refine .mk ?_
                     (try simp only [Hb_iff, Bool.not_eq_true', Bool.not_eq_false'] at *)
                     all_goals (first | (simp_all [itemOkP, itemPreP, itemArmP]; done) | (simp_all [itemOkP, itemPreP, itemArmP]; omega) | (refine scb ?_; simp_all [itemOkP, itemPreP, itemArmP] <;> omega))
                   · refine .seq (.region ?_); refine .o ?_; refine .o (.nil (.xseq ?_)); refine .cs (fun h18 => ?_) (fun h18 => ?_)
                     · refine .seq (.region ?_); (iterate 3 refine .o ?_); refine .o (.nil (.xseq (.ret (.rblk (.rseq (.done ?_)))))); refine .mk ?_
                       (try simp only [Hb_iff, Bool.not_eq_true', Bool.not_eq_false'] at *)
                       all_goals (first | (simp_all [itemOkP, itemPreP, itemArmP]; done) | (simp_all [itemOkP, itemPreP, itemArmP]; omega) | (refine scb ?_; simp_all [itemOkP, itemPreP, itemArmP] <;> omega))
                     · refine .seq (.region ?_); refine .o ?_; refine .o (.nil (.xseq ?_)); refine .cs (fun h19 => ?_) (fun h19 => ?_)
                       · refine .seq (.region ?_); (iterate 3 refine .o ?_); refine .o ?_; refine .sp 72 (fun s15 => ?_) (fun s15 => ?_)
                         · (iterate 4 refine .o ?_); refine .o (.nil (.xseq (.ret (.rblk (.rseq (.done ?_)))))); refine .mk ?_; (try simp only [Hb_iff, Bool.not_eq_true', Bool.not_eq_false'] at *)
                           all_goals (first | (simp_all [itemOkP, itemPreP, itemArmP]; done) | (simp_all [itemOkP, itemPreP, itemArmP]; omega) | (refine scb ?_; simp_all [itemOkP, itemPreP, itemArmP] <;> omega))
                         · (iterate 4 refine .o ?_); refine .o (.nil (.xseq (.ret (.rblk (.rseq (.done ?_)))))); refine .mk ?_; (try simp only [Hb_iff, Bool.not_eq_true', Bool.not_eq_false'] at *)
                           all_goals (first | (simp_all [itemOkP, itemPreP, itemArmP]; done) | (simp_all [itemOkP, itemPreP, itemArmP]; omega) | (refine scb ?_; simp_all [itemOkP, itemPreP, itemArmP] <;> omega))
                       · refine .skip (.xblk (.xseq (.seq (.region ?_)))); (iterate 3 refine .o ?_); refine .o (.nil (.xseq (.ret (.done ?_)))); refine .mk ?_
                         (try simp only [Hb_iff, Bool.not_eq_true', Bool.not_eq_false'] at *)
                         all_goals (first | (simp_all [itemOkP, itemPreP, itemArmP]; done) | (simp_all [itemOkP, itemPreP, itemArmP]; omega) | (refine scb ?_; simp_all [itemOkP, itemPreP, itemArmP] <;> omega))
         · (iterate 4 refine .o ?_); refine .o (.nil (.xseq ?_)); refine .cF (.skip (.xseq (.seq (.seq (.region ?_))))); refine .o ?_
           refine .o (.nil (.xseq (.block (.seq (.seq (.region ?_)))))); refine .o ?_; refine .o (.nil (.xseq ?_)); refine .cs (fun h20 => ?_) (fun h20 => ?_)
           · refine .skip (.xseq ?_); refine .cT (.seq (.region ?_)); refine .o ?_; refine .o ?_; refine .cl (c_spec_l03Val _) ?_; refine .o (.nil (.xseq (.ret (.rblk (.rseq (.done ?_))))))
             refine .mk ?_; (try simp only [Hb_iff, Bool.not_eq_true', Bool.not_eq_false'] at *)
             all_goals (first | (simp_all [itemOkP, itemPreP, itemArmP]; done) | (simp_all [itemOkP, itemPreP, itemArmP]; omega) | (refine scb ?_; simp_all [itemOkP, itemPreP, itemArmP] <;> omega))
           · refine .region ?_; refine .o ?_; refine .o (.nil (.xseq ?_)); refine .cs (fun h21 => ?_) (fun h21 => ?_)
             · refine .seq (.region ?_); refine .o ?_; refine .o ?_; refine .cl (c_spec_l03Val _) ?_; refine .o (.nil (.xseq (.ret (.rblk (.rseq (.done ?_)))))); refine .mk ?_
               (try simp only [Hb_iff, Bool.not_eq_true', Bool.not_eq_false'] at *)
               all_goals (first | (simp_all [itemOkP, itemPreP, itemArmP]; done) | (simp_all [itemOkP, itemPreP, itemArmP]; omega) | (refine scb ?_; simp_all [itemOkP, itemPreP, itemArmP] <;> omega))
             · refine .seq (.region ?_); refine .o ?_; refine .o (.nil (.xseq ?_)); refine .cs (fun h22 => ?_) (fun h22 => ?_)
               · refine .seq (.region ?_); refine .o ?_; refine .o ?_; refine .cl (c_spec_l03Val _) ?_; refine .o ?_; refine .sp 48 (fun s16 => ?_) (fun s16 => ?_)
                 · (iterate 2 refine .o ?_); refine .o ?_; refine .sp 51 (fun s17 => ?_) (fun s17 => ?_)
                   · (iterate 5 refine .o ?_); refine .o (.nil (.xseq (.ret (.rblk (.rseq (.done ?_)))))); refine .mk ?_; (try simp only [Hb_iff, Bool.not_eq_true', Bool.not_eq_false'] at *)
                     all_goals (first | (simp_all [itemOkP, itemPreP, itemArmP]; done) | (simp_all [itemOkP, itemPreP, itemArmP]; omega) | (refine scb ?_; simp_all [itemOkP, itemPreP, itemArmP] <;> omega))
                   · (iterate 5 refine .o ?_); refine .o (.nil (.xseq (.ret (.rblk (.rseq (.done ?_)))))); refine .mk ?_; (try simp only [Hb_iff, Bool.not_eq_true', Bool.not_eq_false'] at *)
                     all_goals (first | (simp_all [itemOkP, itemPreP, itemArmP]; done) | (simp_all [itemOkP, itemPreP, itemArmP]; omega) | (refine scb ?_; simp_all [itemOkP, itemPreP, itemArmP] <;> omega))
                 · (iterate 8 refine .o ?_); refine .o (.nil (.xseq (.ret (.rblk (.rseq (.done ?_)))))); refine .mk ?_; (try simp only [Hb_iff, Bool.not_eq_true', Bool.not_eq_false'] at *)
                   all_goals (first | (simp_all [itemOkP, itemPreP, itemArmP]; done) | (simp_all [itemOkP, itemPreP, itemArmP]; omega) | (refine scb ?_; simp_all [itemOkP, itemPreP, itemArmP] <;> omega))
               · refine .seq (.region ?_); refine .o ?_; refine .o (.nil (.xseq ?_)); refine .cs (fun h23 => ?_) (fun h23 => ?_)
                 · refine .seq (.region ?_); (iterate 3 refine .o ?_); refine .o (.nil (.xseq (.ret (.rblk (.rseq (.done ?_)))))); refine .mk ?_
                   (try simp only [Hb_iff, Bool.not_eq_true', Bool.not_eq_false'] at *)
                   all_goals (first | (simp_all [itemOkP, itemPreP, itemArmP]; done) | (simp_all [itemOkP, itemPreP, itemArmP]; omega) | (refine scb ?_; simp_all [itemOkP, itemPreP, itemArmP] <;> omega))
                 · refine .seq (.region ?_); refine .o ?_; refine .o (.nil (.xseq ?_)); refine .cs (fun h24 => ?_) (fun h24 => ?_)
                   · refine .seq (.region ?_); (iterate 3 refine .o ?_); refine .o (.nil (.xseq (.ret (.rblk (.rseq (.done ?_)))))); refine .mk ?_
                     (try simp only [Hb_iff, Bool.not_eq_true', Bool.not_eq_false'] at *)
                     all_goals (first | (simp_all [itemOkP, itemPreP, itemArmP]; done) | (simp_all [itemOkP, itemPreP, itemArmP]; omega) | (refine scb ?_; simp_all [itemOkP, itemPreP, itemArmP] <;> omega))
                   · refine .seq (.region ?_); refine .o ?_; refine .o (.nil (.xseq ?_)); refine .cs (fun h25 => ?_) (fun h25 => ?_)
                     · refine .seq (.region ?_); (iterate 3 refine .o ?_); refine .o ?_; refine .sp 72 (fun s18 => ?_) (fun s18 => ?_)
                       · (iterate 4 refine .o ?_); refine .o (.nil (.xseq (.ret (.rblk (.rseq (.done ?_)))))); refine .mk ?_; (try simp only [Hb_iff, Bool.not_eq_true', Bool.not_eq_false'] at *)
                         all_goals (first | (simp_all [itemOkP, itemPreP, itemArmP]; done) | (simp_all [itemOkP, itemPreP, itemArmP]; omega) | (refine scb ?_; simp_all [itemOkP, itemPreP, itemArmP] <;> omega))
                       · (iterate 4 refine .o ?_); refine .o (.nil (.xseq (.ret (.rblk (.rseq (.done ?_)))))); refine .mk ?_; (try simp only [Hb_iff, Bool.not_eq_true', Bool.not_eq_false'] at *)
                         all_goals (first | (simp_all [itemOkP, itemPreP, itemArmP]; done) | (simp_all [itemOkP, itemPreP, itemArmP]; omega) | (refine scb ?_; simp_all [itemOkP, itemPreP, itemArmP] <;> omega))
                     · refine .skip (.xblk (.xseq (.seq (.region ?_)))); (iterate 3 refine .o ?_); refine .o (.nil (.xseq (.ret (.done ?_)))); refine .mk ?_
                       (try simp only [Hb_iff, Bool.not_eq_true', Bool.not_eq_false'] at *)
                       all_goals (first | (simp_all [itemOkP, itemPreP, itemArmP]; done) | (simp_all [itemOkP, itemPreP, itemArmP]; omega) | (refine scb ?_; simp_all [itemOkP, itemPreP, itemArmP] <;> omega))

theorem c_spec_l08Trace (g : Gor) : FnC Tryz.prog TA false 273 [.agg (eGorI g)] [] (.sc (.bool (traceOkP g))) [] := by
 refine .ini Tryz.ntmps273 Tryz.results273 ?_; refine .seq (.region ?_); refine .o ?_; refine .o (.nil (.xseq (.seq (.seq (.region ?_))))); (iterate 3 refine .o ?_)
 refine .o (.nil (.xseq (.block (.loop ?_)))); refine .bound 8 rfl fun hb0 => ?_; simp only [List.length_map, mxl] at hb0
 refine .rng [1, 8, 9, 10] (fun i => [(10, .sc (.int .i64 (i : Nat)))]) (fun i => []) (fun i => traceGoP g.trace = traceGoP (g.trace.drop i)) (g.trace.length) (by first | rfl | simp) (fun i hi0 hH0 ih0 => ?_)
 refine .seq (.region ?_); refine .o (.nil (.xseq (.seq ?_))); refine .cs (fun h0 => ?_) (fun h0 => ?_)
 · have hlt0 : i < g.trace.length := by simpa using h0
   obtain ⟨x, hx0, hd0⟩ := drop_cons hlt0; have hn0 : (0 : Int) ≤ (i : Int) := Int.natCast_nonneg i
   have hw0 : IntKind.i64.wrap ((i : Int) + 1) = ((i + 1 : Nat) : Int) := by rw [w64 (by omega) (by omega)]; rfl
   have hwl : IntKind.i64.wrap ((g.trace.length : Int) - 1) = (g.trace.length : Int) - 1 := w64 (by omega) (by omega); refine .skip (.xseq (.seq (.block (.seq (.region ?_)))))
   (iterate 5 refine .o ?_); refine .o (.nil (.xseq (.seq (.region ?_)))); (iterate 3 refine .o ?_); refine .o ?_; refine .sp 18 (fun s0 => ?_) (fun s0 => ?_)
   · (iterate 4 refine .o ?_); refine .o (.nil (.xseq (.seq (.region ?_)))); refine .o ?_; refine .cl (c_spec_ItemOk _) ?_; refine .o ?_; refine .o ?_
     refine .sp 26 (fun s1 => ?_) (fun s1 => ?_)
     · (iterate 9 refine .o ?_); refine .o (.nil (.xseq ?_)); refine .cT (.seq (.region ?_)); refine .o (.nil (.xseq (.ret (.rblk (.rseq (.rlp (.rblk (.rseq (.done ?_)))))))))
       refine .mk ?_; clear ih0; (try simp only [Hb_iff, Bool.not_eq_true', Bool.not_eq_false'] at *)
       have hem : (g.trace.drop (i + 1)).isEmpty = decide (¬ (i : Int) < (g.trace.length : Int) - 1) := trace_end hlt0
       have hF : traceGoP g.trace = false := by (rw [hH0, hd0]; clear hH0; (first | (simp [traceGoP, endP, hem, *]; done) | (simp at *; simp [traceGoP, endP, hem, *]; done) | (simp at *; simp [traceGoP, endP, hem, *]; omega) | (simp_all [traceGoP, endP, hem]; done) | (refine scb ?_; simp [traceGoP, endP, hem] at *; omega) | (refine scb ?_; simp_all [traceGoP, endP, hem]; done) | (refine scb ?_; simp_all [traceGoP, endP, hem] <;> omega) | (simp_all [traceGoP, endP, hem]; omega)))
       all_goals (simp [traceOkP, hF])
     · (iterate 9 refine .o ?_); refine .o (.nil (.xseq ?_)); refine .cs (fun h1 => ?_) (fun h1 => ?_)
       · refine .seq (.region ?_); refine .o (.nil (.xseq (.ret (.rblk (.rseq (.rlp (.rblk (.rseq (.done ?_))))))))); refine .mk ?_; clear ih0
         (try simp only [Hb_iff, Bool.not_eq_true', Bool.not_eq_false'] at *); have hem : (g.trace.drop (i + 1)).isEmpty = decide (¬ (i : Int) < (g.trace.length : Int) - 1) := trace_end hlt0
         have hF : traceGoP g.trace = false := by (rw [hH0, hd0]; clear hH0; (first | (simp [traceGoP, endP, hem, *]; done) | (simp at *; simp [traceGoP, endP, hem, *]; done) | (simp at *; simp [traceGoP, endP, hem, *]; omega) | (simp_all [traceGoP, endP, hem]; done) | (refine scb ?_; simp [traceGoP, endP, hem] at *; omega) | (refine scb ?_; simp_all [traceGoP, endP, hem]; done) | (refine scb ?_; simp_all [traceGoP, endP, hem] <;> omega) | (simp_all [traceGoP, endP, hem]; omega)))
         all_goals (simp [traceOkP, hF])
       · refine .skip (.xblk (.xseq (.region ?_))); refine .o ?_; refine .o (.nil ?_); refine .xlp (.back [1, 8, 9, 10] (ih0 (by assumption) ?_)); clear ih0
         (try simp only [Hb_iff, Bool.not_eq_true', Bool.not_eq_false'] at *)
         rw [hH0, hd0]; clear hH0; have hem : (g.trace.drop (i + 1)).isEmpty = decide (¬ (i : Int) < (g.trace.length : Int) - 1) := trace_end hlt0
         (first | (simp [traceGoP, endP, hem, *]; done) | (simp at *; simp [traceGoP, endP, hem, *]; done) | (simp at *; simp [traceGoP, endP, hem, *]; omega) | (simp_all [traceGoP, endP, hem]; done) | (refine scb ?_; simp [traceGoP, endP, hem] at *; omega) | (refine scb ?_; simp_all [traceGoP, endP, hem]; done) | (refine scb ?_; simp_all [traceGoP, endP, hem] <;> omega) | (simp_all [traceGoP, endP, hem]; omega))
   · (iterate 4 refine .o ?_); refine .o (.nil (.xseq (.seq (.region ?_)))); refine .o ?_; refine .cl (c_spec_ItemOk _) ?_; refine .o ?_; refine .o ?_
     refine .sp 26 (fun s2 => ?_) (fun s2 => ?_)
     · (iterate 9 refine .o ?_); refine .o (.nil (.xseq ?_)); refine .cT (.seq (.region ?_)); refine .o (.nil (.xseq (.ret (.rblk (.rseq (.rlp (.rblk (.rseq (.done ?_)))))))))
       refine .mk ?_; clear ih0; (try simp only [Hb_iff, Bool.not_eq_true', Bool.not_eq_false'] at *)
       have hem : (g.trace.drop (i + 1)).isEmpty = decide (¬ (i : Int) < (g.trace.length : Int) - 1) := trace_end hlt0
       have hF : traceGoP g.trace = false := by (rw [hH0, hd0]; clear hH0; (first | (simp [traceGoP, endP, hem, *]; done) | (simp at *; simp [traceGoP, endP, hem, *]; done) | (simp at *; simp [traceGoP, endP, hem, *]; omega) | (simp_all [traceGoP, endP, hem]; done) | (refine scb ?_; simp [traceGoP, endP, hem] at *; omega) | (refine scb ?_; simp_all [traceGoP, endP, hem]; done) | (refine scb ?_; simp_all [traceGoP, endP, hem] <;> omega) | (simp_all [traceGoP, endP, hem]; omega)))
       all_goals (simp [traceOkP, hF])
     · refine .o ?_; refine .o ?_; refine .sp 28 (fun s3 => ?_) (fun s3 => ?_)
       · (iterate 7 refine .o ?_); refine .o (.nil (.xseq ?_)); refine .cs (fun h2 => ?_) (fun h2 => ?_)
         · refine .seq (.region ?_); refine .o (.nil (.xseq (.ret (.rblk (.rseq (.rlp (.rblk (.rseq (.done ?_))))))))); refine .mk ?_; clear ih0
           (try simp only [Hb_iff, Bool.not_eq_true', Bool.not_eq_false'] at *); have hem : (g.trace.drop (i + 1)).isEmpty = decide (¬ (i : Int) < (g.trace.length : Int) - 1) := trace_end hlt0
           have hF : traceGoP g.trace = false := by (rw [hH0, hd0]; clear hH0; (first | (simp [traceGoP, endP, hem, *]; done) | (simp at *; simp [traceGoP, endP, hem, *]; done) | (simp at *; simp [traceGoP, endP, hem, *]; omega) | (simp_all [traceGoP, endP, hem]; done) | (refine scb ?_; simp [traceGoP, endP, hem] at *; omega) | (refine scb ?_; simp_all [traceGoP, endP, hem]; done) | (refine scb ?_; simp_all [traceGoP, endP, hem] <;> omega) | (simp_all [traceGoP, endP, hem]; omega)))
           all_goals (simp [traceOkP, hF])
         · refine .skip (.xblk (.xseq (.region ?_))); refine .o ?_; refine .o (.nil ?_); refine .xlp (.back [1, 8, 9, 10] (ih0 (by assumption) ?_)); clear ih0
           (try simp only [Hb_iff, Bool.not_eq_true', Bool.not_eq_false'] at *)
           rw [hH0, hd0]; clear hH0; have hem : (g.trace.drop (i + 1)).isEmpty = decide (¬ (i : Int) < (g.trace.length : Int) - 1) := trace_end hlt0
           (first | (simp [traceGoP, endP, hem, *]; done) | (simp at *; simp [traceGoP, endP, hem, *]; done) | (simp at *; simp [traceGoP, endP, hem, *]; omega) | (simp_all [traceGoP, endP, hem]; done) | (refine scb ?_; simp [traceGoP, endP, hem] at *; omega) | (refine scb ?_; simp_all [traceGoP, endP, hem]; done) | (refine scb ?_; simp_all [traceGoP, endP, hem] <;> omega) | (simp_all [traceGoP, endP, hem]; omega))
       · (iterate 7 refine .o ?_); refine .o (.nil (.xseq ?_)); refine .cF (.skip (.xblk (.xseq (.region ?_)))); refine .o ?_; refine .o (.nil ?_)
         refine .xlp (.back [1, 8, 9, 10] (ih0 (by assumption) ?_)); clear ih0; (try simp only [Hb_iff, Bool.not_eq_true', Bool.not_eq_false'] at *)
         rw [hH0, hd0]; clear hH0; have hem : (g.trace.drop (i + 1)).isEmpty = decide (¬ (i : Int) < (g.trace.length : Int) - 1) := trace_end hlt0
         (first | (simp [traceGoP, endP, hem, *]; done) | (simp at *; simp [traceGoP, endP, hem, *]; done) | (simp at *; simp [traceGoP, endP, hem, *]; omega) | (simp_all [traceGoP, endP, hem]; done) | (refine scb ?_; simp [traceGoP, endP, hem] at *; omega) | (refine scb ?_; simp_all [traceGoP, endP, hem]; done) | (refine scb ?_; simp_all [traceGoP, endP, hem] <;> omega) | (simp_all [traceGoP, endP, hem]; omega))
 · have hge0 : g.trace.length ≤ i := by simpa using h0
   clear ih0; have hA : traceGoP g.trace = true := by (rw [hH0, List.drop_of_length_le hge0]; rfl)
   clear hH0; have hwl : IntKind.i64.wrap ((g.trace.length : Int) - 1) = (g.trace.length : Int) - 1 := w64 (by omega) (by omega)
   refine .exit (.eseq (.elp (.eblk (.xseq (.seq (.region ?_)))))); refine .o (.nil (.xseq (.seq (.seq (.region ?_))))); (iterate 3 refine .o ?_); refine .o (.nil (.xseq ?_))
   refine .cs (fun h3 => ?_) (fun h3 => ?_)
   · have hlen : 1 ≤ g.trace.length := by (simp at *; omega)
     obtain ⟨y, hl1, hl2⟩ := last_item hlen; have hl0 : (0 : Int) ≤ (g.trace.length : Int) - 1 := by omega
     refine .region ?_; (iterate 9 refine .o ?_); refine .o (.nil (.xseq (.seq (.region ?_)))); (iterate 6 refine .o ?_); refine .o ?_; refine .sp 57 (fun s4 => ?_) (fun s4 => ?_)
     · (iterate 7 refine .o ?_); refine .o (.nil (.xseq (.ret (.done ?_)))); refine .mk ?_; (try simp only [Hb_iff, Bool.not_eq_true', Bool.not_eq_false'] at *)
       have e : ∀ a b : Int, decide (a = b) = (a == b) := fun a b => by (rw [Bool.eq_iff_iff]; simp)
       all_goals (simp only [traceOkP, hA, hl2, Bool.true_and, e]; clear hA)
       all_goals (first | (simp only [*, Bool.true_and, Bool.false_and]; done) | (simp [*]; done) | (simp at *; simp [*]; done) | (simp_all; done))
     · (iterate 7 refine .o ?_); refine .o (.nil (.xseq (.ret (.done ?_)))); refine .mk ?_; (try simp only [Hb_iff, Bool.not_eq_true', Bool.not_eq_false'] at *)
       have e : ∀ a b : Int, decide (a = b) = (a == b) := fun a b => by (rw [Bool.eq_iff_iff]; simp)
       all_goals (simp only [traceOkP, hA, hl2, Bool.true_and, e]; clear hA)
       all_goals (first | (simp only [*, Bool.true_and, Bool.false_and]; done) | (simp [*]; done) | (simp at *; simp [*]; done) | (simp_all; done))
   · have hl2 : lastKindP g.trace = 0 := by (have : g.trace = [] := by (apply List.eq_nil_of_length_eq_zero; simp at *; simp_all)); simp [this, lastKindP]
     refine .skip (.xseq (.seq (.region ?_))); (iterate 6 refine .o ?_); refine .o ?_; refine .sp 57 (fun s5 => ?_) (fun s5 => ?_)
     · (iterate 7 refine .o ?_); refine .o (.nil (.xseq (.ret (.done ?_)))); refine .mk ?_; (try simp only [Hb_iff, Bool.not_eq_true', Bool.not_eq_false'] at *)
       have e : ∀ a b : Int, decide (a = b) = (a == b) := fun a b => by (rw [Bool.eq_iff_iff]; simp)
       all_goals (simp only [traceOkP, hA, hl2, Bool.true_and, e]; clear hA)
       all_goals (first | (simp only [*, Bool.true_and, Bool.false_and]; done) | (simp [*]; done) | (simp at *; simp [*]; done) | (simp_all; done))
     · (iterate 7 refine .o ?_); refine .o (.nil (.xseq (.ret (.done ?_)))); refine .mk ?_; (try simp only [Hb_iff, Bool.not_eq_true', Bool.not_eq_false'] at *)
       have e : ∀ a b : Int, decide (a = b) = (a == b) := fun a b => by (rw [Bool.eq_iff_iff]; simp)
       all_goals (simp only [traceOkP, hA, hl2, Bool.true_and, e]; clear hA)
       all_goals (first | (simp only [*, Bool.true_and, Bool.false_and]; done) | (simp [*]; done) | (simp at *; simp [*]; done) | (simp_all; done))

theorem c_spec_l08Ok (p : Prog) (g : Gor) : FnC Tryz.prog TA false 164 [.agg (eProgI p), .agg (eGorI g)] [] (.sc (.bool (gor1OkP p g))) [] := by
 refine .ini Tryz.ntmps164 Tryz.results164 ?_; refine .seq (.region ?_); (iterate 2 refine .o ?_); refine .o (.nil (.xseq (.seq (.region ?_)))); (iterate 2 refine .o ?_); refine .o ?_
 refine .cl (c_spec_Instrs _ _) ?_; refine .o (.nil (.xseq (.seq (.seq (.region ?_))))); (iterate 3 refine .o ?_); refine .o ?_; refine .sp 15 (fun s0 => ?_) (fun s0 => ?_)
 · (iterate 20 refine .o ?_); refine .o (.nil (.xseq ?_)); refine .cT (.seq (.region ?_)); refine .o (.nil (.xseq (.ret (.rseq (.done ?_))))); refine .mk ?_
   (try simp only [Hb_iff, Bool.not_eq_true', Bool.not_eq_false'] at *)
   all_goals ((first | (simp [gor1OkP, withinP, *]; done) | (simp at *; simp [gor1OkP, withinP, *]; done) | (simp at *; simp [gor1OkP, withinP, *]; omega) | (simp_all [gor1OkP, withinP]; done) | (refine scb ?_; simp [gor1OkP, withinP] at *; omega) | (refine scb ?_; simp_all [gor1OkP, withinP]; done) | (refine scb ?_; simp_all [gor1OkP, withinP] <;> omega) | (simp_all [gor1OkP, withinP]; omega)))
 · (iterate 5 refine .o ?_); refine .o ?_; refine .sp 21 (fun s1 => ?_) (fun s1 => ?_)
   · (iterate 14 refine .o ?_); refine .o (.nil (.xseq ?_)); refine .cT (.seq (.region ?_)); refine .o (.nil (.xseq (.ret (.rseq (.done ?_))))); refine .mk ?_
     (try simp only [Hb_iff, Bool.not_eq_true', Bool.not_eq_false'] at *)
     all_goals ((first | (simp [gor1OkP, withinP, *]; done) | (simp at *; simp [gor1OkP, withinP, *]; done) | (simp at *; simp [gor1OkP, withinP, *]; omega) | (simp_all [gor1OkP, withinP]; done) | (refine scb ?_; simp [gor1OkP, withinP] at *; omega) | (refine scb ?_; simp_all [gor1OkP, withinP]; done) | (refine scb ?_; simp_all [gor1OkP, withinP] <;> omega) | (simp_all [gor1OkP, withinP]; omega)))
   · (iterate 5 refine .o ?_); refine .o ?_; refine .sp 27 (fun s2 => ?_) (fun s2 => ?_)
     · (iterate 8 refine .o ?_); refine .o (.nil (.xseq ?_)); refine .cT (.seq (.region ?_)); refine .o (.nil (.xseq (.ret (.rseq (.done ?_))))); refine .mk ?_
       (try simp only [Hb_iff, Bool.not_eq_true', Bool.not_eq_false'] at *)
       all_goals ((first | (simp [gor1OkP, withinP, *]; done) | (simp at *; simp [gor1OkP, withinP, *]; done) | (simp at *; simp [gor1OkP, withinP, *]; omega) | (simp_all [gor1OkP, withinP]; done) | (refine scb ?_; simp [gor1OkP, withinP] at *; omega) | (refine scb ?_; simp_all [gor1OkP, withinP]; done) | (refine scb ?_; simp_all [gor1OkP, withinP] <;> omega) | (simp_all [gor1OkP, withinP]; omega)))
     · (iterate 4 refine .o ?_); refine .o ?_; refine .sp 32 (fun s3 => ?_) (fun s3 => ?_)
       · (iterate 3 refine .o ?_); refine .o (.nil (.xseq ?_)); refine .cT (.seq (.region ?_)); refine .o (.nil (.xseq (.ret (.rseq (.done ?_))))); refine .mk ?_
         (try simp only [Hb_iff, Bool.not_eq_true', Bool.not_eq_false'] at *)
         all_goals ((first | (simp [gor1OkP, withinP, *]; done) | (simp at *; simp [gor1OkP, withinP, *]; done) | (simp at *; simp [gor1OkP, withinP, *]; omega) | (simp_all [gor1OkP, withinP]; done) | (refine scb ?_; simp [gor1OkP, withinP] at *; omega) | (refine scb ?_; simp_all [gor1OkP, withinP]; done) | (refine scb ?_; simp_all [gor1OkP, withinP] <;> omega) | (simp_all [gor1OkP, withinP]; omega)))
       · (iterate 3 refine .o ?_); refine .o (.nil (.xseq ?_)); refine .cs (fun h0 => ?_) (fun h0 => ?_)
         · refine .seq (.region ?_); refine .o (.nil (.xseq (.ret (.rseq (.done ?_))))); refine .mk ?_; (try simp only [Hb_iff, Bool.not_eq_true', Bool.not_eq_false'] at *)
           all_goals ((first | (simp [gor1OkP, withinP, *]; done) | (simp at *; simp [gor1OkP, withinP, *]; done) | (simp at *; simp [gor1OkP, withinP, *]; omega) | (simp_all [gor1OkP, withinP]; done) | (refine scb ?_; simp [gor1OkP, withinP] at *; omega) | (refine scb ?_; simp_all [gor1OkP, withinP]; done) | (refine scb ?_; simp_all [gor1OkP, withinP] <;> omega) | (simp_all [gor1OkP, withinP]; omega)))
         · refine .skip (.xseq (.seq (.seq (.region ?_)))); (iterate 3 refine .o ?_); refine .o (.nil (.xseq (.block (.loop ?_)))); refine .bound 38 rfl fun hb0 => ?_
           simp only [List.length_map, mxl] at hb0
           refine .rng [3, 38, 39, 40] (fun i => [(40, .sc (.int .i64 (i : Nat)))]) (fun i => []) (fun i => (g.regs.take i).all isValP = true) (g.regs.length) (by first | rfl | simp) (fun i hi0 hH0 ih0 => ?_)
           refine .seq (.region ?_); refine .o (.nil (.xseq (.seq ?_))); refine .cs (fun h1 => ?_) (fun h1 => ?_)
           · have hlt0 : i < g.regs.length := by simpa using h1
             obtain ⟨x, hx0, hd0⟩ := drop_cons hlt0; have hn0 : (0 : Int) ≤ (i : Int) := Int.natCast_nonneg i
             have hw0 : IntKind.i64.wrap ((i : Int) + 1) = ((i + 1 : Nat) : Int) := by rw [w64 (by omega) (by omega)]; rfl
             refine .skip (.xseq (.seq (.block (.seq (.region ?_))))); (iterate 2 refine .o ?_); refine .o (.nil (.xseq (.seq (.region ?_)))); refine .o ?_; refine .cl (c_spec_l03Val _) ?_
             refine .o (.nil (.xseq ?_)); refine .cs (fun h2 => ?_) (fun h2 => ?_)
             · refine .seq (.region ?_); refine .o (.nil (.xseq (.ret (.rblk (.rseq (.rlp (.rblk (.rseq (.done ?_))))))))); refine .mk ?_; clear ih0
               (try simp only [Hb_iff, Bool.not_eq_true', Bool.not_eq_false'] at *)
               have hF := all_no (f := isValP) hx0 (by clear hH0; (first | (simp [*]; done) | (simp at *; simp [*]; done) | (simp at *; simp [*]; omega) | (simp_all ; done) | (refine scb ?_; simp  at *; omega) | (refine scb ?_; simp_all ; done) | (refine scb ?_; simp_all  <;> omega) | (simp_all ; omega)))
               all_goals (simp [gor1OkP, hF])
             · refine .skip (.xblk (.xseq (.region ?_))); refine .o ?_; refine .o (.nil ?_); refine .xlp (.back [3, 38, 39, 40] (ih0 (by assumption) ?_)); clear ih0
               (try simp only [Hb_iff, Bool.not_eq_true', Bool.not_eq_false'] at *)
               exact all_step hx0 hH0 (by clear hH0; (first | (simp [*]; done) | (simp at *; simp [*]; done) | (simp at *; simp [*]; omega) | (simp_all ; done) | (refine scb ?_; simp  at *; omega) | (refine scb ?_; simp_all ; done) | (refine scb ?_; simp_all  <;> omega) | (simp_all ; omega)))
           · have hge0 : g.regs.length ≤ i := by simpa using h1
             clear ih0; have hA0 := all_yes hH0 hge0; clear hH0 hge0; refine .exit (.eseq (.elp (.eblk (.xseq (.seq (.region ?_)))))); refine .o ?_; refine .cl (c_spec_l08Trace _) ?_
             refine .o (.nil (.xseq (.ret (.done ?_)))); refine .mk ?_; (try simp only [Hb_iff, Bool.not_eq_true', Bool.not_eq_false'] at *)
             all_goals (unfold gor1OkP; rw [hA0]; clear hA0; (first | (simp [withinP, *]; done) | (simp at *; simp [withinP, *]; done) | (simp at *; simp [withinP, *]; omega) | (simp_all [withinP]; done) | (refine scb ?_; simp [withinP] at *; omega) | (refine scb ?_; simp_all [withinP]; done) | (refine scb ?_; simp_all [withinP] <;> omega) | (simp_all [withinP]; omega)))

theorem c_spec_l09At (p : Prog) (g : Gor) (ha : AtOk p g) : FnC Tryz.prog TA false 105 [.agg (eProgI p), .agg (eGorI g)] [] (.agg (eInstr (instrAtP p g))) [] := by
 refine .ini Tryz.ntmps105 Tryz.results105 ?_; obtain ⟨a1, a2, ⟨q, a3, a4⟩, _, _⟩ := ha; refine .seq (.region ?_); (iterate 2 refine .o ?_); refine .o (.nil (.xseq (.seq ?_)))
 refine .drawnK 11 [(0, false), (1, false), (2, false), (3, false), (4, false), (5, false), (6, false), (7, false), (8, false), (9, false), (10, false)] mixed (by kernel_rfl) ?_
 (iterate 10 refine .o ?_); refine .o (.nil ?_); refine .o (.nil (.xseq (.ret (.done ?_)))); refine .mk ?_; (try simp only [Hb_iff, Bool.not_eq_true', Bool.not_eq_false'] at *)
 all_goals (rfl)

theorem c_spec_l09May (p : Prog) (g : Gor) (ha : AtOk p g) : FnC Tryz.prog TA false 165 [.agg (eProgI p), .agg (eGorI g)] [] (.sc (.bool (mayP p g))) [] := by
 refine .ini Tryz.ntmps165 Tryz.results165 ?_; have hs := ha.sel; refine .seq (.region ?_); (iterate 2 refine .o ?_); refine .o (.nil (.xseq (.seq (.region ?_)))); refine .o ?_
 refine .o ?_; refine .cl (c_spec_l09At p g ha) ?_; refine .o ?_; refine .o (.nil (.xseq (.seq (.region ?_)))); (iterate 3 refine .o ?_); refine .o ?_
 refine .sp 12 (fun s0 => ?_) (fun s0 => ?_)
 · (iterate 24 refine .o ?_); refine .o (.nil (.xseq (.ret (.done ?_)))); refine .mk ?_; (try simp only [Hb_iff, Bool.not_eq_true', Bool.not_eq_false'] at *)
   all_goals (unfold mayP; simp only []; (first | (simp [*]; done) | (simp at *; simp [*]; done) | (simp at *; simp [*]; omega) | (simp_all ; done) | (refine scb ?_; simp  at *; omega) | (refine scb ?_; simp_all ; done) | (refine scb ?_; simp_all  <;> omega) | (simp_all ; omega)))
 · (iterate 4 refine .o ?_); refine .o ?_; refine .sp 17 (fun s1 => ?_) (fun s1 => ?_)
   · (iterate 19 refine .o ?_); refine .o (.nil (.xseq (.ret (.done ?_)))); refine .mk ?_; (try simp only [Hb_iff, Bool.not_eq_true', Bool.not_eq_false'] at *)
     all_goals (unfold mayP; simp only []; (first | (simp [*]; done) | (simp at *; simp [*]; done) | (simp at *; simp [*]; omega) | (simp_all ; done) | (refine scb ?_; simp  at *; omega) | (refine scb ?_; simp_all ; done) | (refine scb ?_; simp_all  <;> omega) | (simp_all ; omega)))
   · (iterate 4 refine .o ?_); refine .o ?_; refine .sp 22 (fun s2 => ?_) (fun s2 => ?_)
     · (iterate 14 refine .o ?_); refine .o (.nil (.xseq (.ret (.done ?_)))); refine .mk ?_; (try simp only [Hb_iff, Bool.not_eq_true', Bool.not_eq_false'] at *)
       all_goals (unfold mayP; simp only []; (first | (simp [*]; done) | (simp at *; simp [*]; done) | (simp at *; simp [*]; omega) | (simp_all ; done) | (refine scb ?_; simp  at *; omega) | (refine scb ?_; simp_all ; done) | (refine scb ?_; simp_all  <;> omega) | (simp_all ; omega)))
     · (iterate 3 refine .o ?_); refine .o ?_; refine .sp 26 (fun s3 => ?_) (fun s3 => ?_)
       · obtain ⟨hs1, hs2, hs3⟩ := hs (by simp at *; assumption); (iterate 10 refine .o ?_); refine .o (.nil (.xseq (.ret (.done ?_)))); refine .mk ?_
         (try simp only [Hb_iff, Bool.not_eq_true', Bool.not_eq_false'] at *)
         all_goals (unfold mayP; simp only []; (first | (simp [*]; done) | (simp at *; simp [*]; done) | (simp at *; simp [*]; omega) | (simp_all ; done) | (refine scb ?_; simp  at *; omega) | (refine scb ?_; simp_all ; done) | (refine scb ?_; simp_all  <;> omega) | (simp_all ; omega)))
       · (iterate 10 refine .o ?_); refine .o (.nil (.xseq (.ret (.done ?_)))); refine .mk ?_; (try simp only [Hb_iff, Bool.not_eq_true', Bool.not_eq_false'] at *)
         all_goals (unfold mayP; simp only []; (first | (simp [*]; done) | (simp at *; simp [*]; done) | (simp at *; simp [*]; omega) | (simp_all ; done) | (refine scb ?_; simp  at *; omega) | (refine scb ?_; simp_all ; done) | (refine scb ?_; simp_all  <;> omega) | (simp_all ; omega)))

theorem c_spec_l09Objects (p : Prog) (e : Eng) : FnC Tryz.prog TA false 163 [.agg (eProgI p), .agg (eEngI e)] [] (.sc (.bool (objectsP p e))) [] := by
 refine .ini Tryz.ntmps163 Tryz.results163 ?_; refine .seq (.region ?_); (iterate 2 refine .o ?_); refine .o (.nil (.xseq (.seq (.seq (.region ?_))))); (iterate 7 refine .o ?_)
 refine .o ?_; refine .sp 16 (fun s0 => ?_) (fun s0 => ?_)
 · (iterate 6 refine .o ?_); refine .o (.nil (.xseq ?_)); refine .cT (.seq (.region ?_)); refine .o (.nil (.xseq (.ret (.rseq (.done ?_))))); refine .mk ?_
   (try simp only [Hb_iff, Bool.not_eq_true', Bool.not_eq_false'] at *)
   all_goals ((first | (simp [objectsP, *]; done) | (simp at *; simp [objectsP, *]; done) | (simp at *; simp [objectsP, *]; omega) | (simp_all [objectsP]; done) | (refine scb ?_; simp [objectsP] at *; omega) | (refine scb ?_; simp_all [objectsP]; done) | (refine scb ?_; simp_all [objectsP] <;> omega) | (simp_all [objectsP]; omega)))
 · (iterate 6 refine .o ?_); refine .o (.nil (.xseq ?_)); refine .cs (fun h0 => ?_) (fun h0 => ?_)
   · refine .seq (.region ?_); refine .o (.nil (.xseq (.ret (.rseq (.done ?_))))); refine .mk ?_; (try simp only [Hb_iff, Bool.not_eq_true', Bool.not_eq_false'] at *)
     all_goals ((first | (simp [objectsP, *]; done) | (simp at *; simp [objectsP, *]; done) | (simp at *; simp [objectsP, *]; omega) | (simp_all [objectsP]; done) | (refine scb ?_; simp [objectsP] at *; omega) | (refine scb ?_; simp_all [objectsP]; done) | (refine scb ?_; simp_all [objectsP] <;> omega) | (simp_all [objectsP]; omega)))
   · have hl : p.caps.length = e.chans.length := by (simp at *; omega)
     have hl2 : p.mus = (e.mus.length : Int) := by (simp at *; omega)
     refine .skip (.xseq (.seq (.seq (.region ?_)))); (iterate 3 refine .o ?_); refine .o (.nil (.xseq (.block (.loop ?_)))); refine .bound 25 rfl fun hb0 => ?_
     simp only [List.length_map, mxl] at hb0
     refine .rng [2, 3, 25, 26, 27] (fun i => [(27, .sc (.int .i64 (i : Nat)))]) (fun i => []) (fun i => chansOkP e.chans p.caps = chansOkP (e.chans.drop i) (p.caps.drop i)) (e.chans.length) (by first | rfl | simp) (fun i hi0 hH0 ih0 => ?_)
     refine .seq (.region ?_); refine .o (.nil (.xseq (.seq ?_))); refine .cs (fun h1 => ?_) (fun h1 => ?_)
     · have hlt0 : i < e.chans.length := by simpa using h1
       obtain ⟨x, hx0, hd0⟩ := drop_cons hlt0; have hn0 : (0 : Int) ≤ (i : Int) := Int.natCast_nonneg i
       have hw0 : IntKind.i64.wrap ((i : Int) + 1) = ((i + 1 : Nat) : Int) := by rw [w64 (by omega) (by omega)]; rfl
       obtain ⟨cc, hcx, hcd⟩ := drop_cons (show i < p.caps.length by omega)
       refine .skip (.xseq (.seq (.block (.seq (.region ?_))))); (iterate 5 refine .o ?_); refine .o (.nil (.xseq (.seq ?_)))
       refine .drawnK 13 [(0, false), (1, false), (2, false), (3, false), (4, false), (5, false), (6, false), (7, false), (8, false), (9, false), (10, false), (11, false), (12, false)] mixed (by kernel_rfl) ?_
       refine .o ?_; refine .cl (c_spec_ChanOk _) ?_; refine .o ?_; refine .o ?_; refine .sp 35 (fun s1 => ?_) (fun s1 => ?_)
       · (iterate 8 refine .o ?_); refine .o (.nil (.nil (.xseq ?_))); refine .cT (.seq (.region ?_)); refine .o (.nil (.xseq (.ret (.rblk (.rseq (.rlp (.rblk (.rseq (.done ?_)))))))))
         refine .mk ?_; clear ih0; (try simp only [Hb_iff, Bool.not_eq_true', Bool.not_eq_false'] at *)
         have hF : chansOkP e.chans p.caps = false := by (rw [hH0, hd0, hcd]; clear hH0 hd0 hcd; (first | (simp [chansOkP, *]; done) | (simp at *; simp [chansOkP, *]; done) | (simp at *; simp [chansOkP, *]; omega) | (simp_all [chansOkP]; done) | (refine scb ?_; simp [chansOkP] at *; omega) | (refine scb ?_; simp_all [chansOkP]; done) | (refine scb ?_; simp_all [chansOkP] <;> omega) | (simp_all [chansOkP]; omega)))
         all_goals (simp [objectsP, hF])
       · (iterate 8 refine .o ?_); refine .o (.nil (.nil (.xseq ?_))); refine .cs (fun h2 => ?_) (fun h2 => ?_)
         · refine .seq (.region ?_); refine .o (.nil (.xseq (.ret (.rblk (.rseq (.rlp (.rblk (.rseq (.done ?_))))))))); refine .mk ?_; clear ih0
           (try simp only [Hb_iff, Bool.not_eq_true', Bool.not_eq_false'] at *)
           have hF : chansOkP e.chans p.caps = false := by (rw [hH0, hd0, hcd]; clear hH0 hd0 hcd; (first | (simp [chansOkP, *]; done) | (simp at *; simp [chansOkP, *]; done) | (simp at *; simp [chansOkP, *]; omega) | (simp_all [chansOkP]; done) | (refine scb ?_; simp [chansOkP] at *; omega) | (refine scb ?_; simp_all [chansOkP]; done) | (refine scb ?_; simp_all [chansOkP] <;> omega) | (simp_all [chansOkP]; omega)))
           all_goals (simp [objectsP, hF])
         · refine .skip (.xblk (.xseq (.region ?_))); refine .o ?_; refine .o (.nil ?_); refine .xlp (.back [2, 3, 25, 26, 27] (ih0 (by assumption) ?_)); clear ih0
           (try simp only [Hb_iff, Bool.not_eq_true', Bool.not_eq_false'] at *)
           rw [hH0, hd0, hcd]; clear hH0 hd0 hcd; (first | (simp [chansOkP, *]; done) | (simp at *; simp [chansOkP, *]; done) | (simp at *; simp [chansOkP, *]; omega) | (simp_all [chansOkP]; done) | (refine scb ?_; simp [chansOkP] at *; omega) | (refine scb ?_; simp_all [chansOkP]; done) | (refine scb ?_; simp_all [chansOkP] <;> omega) | (simp_all [chansOkP]; omega))
     · have hge0 : e.chans.length ≤ i := by simpa using h1
       clear ih0; have hA0 : chansOkP e.chans p.caps = true := by (rw [hH0, List.drop_of_length_le hge0]; rfl)
       clear hH0 hge0; refine .exit (.eseq (.elp (.eblk (.xseq (.seq (.seq (.region ?_))))))); (iterate 3 refine .o ?_); refine .o (.nil (.xseq (.block (.loop ?_))))
       refine .bound 47 rfl fun hb1 => ?_; simp only [List.length_map, mxl] at hb1
       refine .rng [3, 47, 48, 49] (fun i => [(49, .sc (.int .i64 (i : Nat)))]) (fun i => []) (fun i => (e.mus.take i).all (fun m => mutexOkP m && decide (m.owner < e.gs.length)) = true) (e.mus.length) (by first | rfl | simp) (fun i hi1 hH1 ih1 => ?_)
       refine .seq (.region ?_); refine .o (.nil (.xseq (.seq ?_))); refine .cs (fun h3 => ?_) (fun h3 => ?_)
       · have hlt1 : i < e.mus.length := by simpa using h3
         obtain ⟨m, hx1, hd1⟩ := drop_cons hlt1; have hn1 : (0 : Int) ≤ (i : Int) := Int.natCast_nonneg i
         have hw1 : IntKind.i64.wrap ((i : Int) + 1) = ((i + 1 : Nat) : Int) := by rw [w64 (by omega) (by omega)]; rfl
         refine .skip (.xseq (.seq (.block (.seq (.region ?_))))); (iterate 3 refine .o ?_); refine .o (.nil (.xseq (.seq (.region ?_)))); refine .o ?_; refine .cl (c_spec_MutexOk _) ?_
         refine .o ?_; refine .o ?_; refine .sp 56 (fun s2 => ?_) (fun s2 => ?_)
         · (iterate 6 refine .o ?_); refine .o (.nil (.xseq ?_)); refine .cT (.seq (.region ?_)); refine .o (.nil (.xseq (.ret (.rblk (.rseq (.rlp (.rblk (.rseq (.done ?_)))))))))
           refine .mk ?_; clear ih1; (try simp only [Hb_iff, Bool.not_eq_true', Bool.not_eq_false'] at *)
           have hF := all_no (f := fun m : Mutex => mutexOkP m && decide (m.owner < e.gs.length)) hx1 (by clear hH1 hA0; (first | (simp [*]; done) | (simp at *; simp [*]; done) | (simp at *; simp [*]; omega) | (simp_all ; done) | (refine scb ?_; simp  at *; omega) | (refine scb ?_; simp_all ; done) | (refine scb ?_; simp_all  <;> omega) | (simp_all ; omega)))
           all_goals (simp only [objectsP, hF, Bool.and_false])
         · (iterate 6 refine .o ?_); refine .o (.nil (.xseq ?_)); refine .cs (fun h4 => ?_) (fun h4 => ?_)
           · refine .seq (.region ?_); refine .o (.nil (.xseq (.ret (.rblk (.rseq (.rlp (.rblk (.rseq (.done ?_))))))))); refine .mk ?_; clear ih1
             (try simp only [Hb_iff, Bool.not_eq_true', Bool.not_eq_false'] at *)
             have hF := all_no (f := fun m : Mutex => mutexOkP m && decide (m.owner < e.gs.length)) hx1 (by clear hH1 hA0; (first | (simp [*]; done) | (simp at *; simp [*]; done) | (simp at *; simp [*]; omega) | (simp_all ; done) | (refine scb ?_; simp  at *; omega) | (refine scb ?_; simp_all ; done) | (refine scb ?_; simp_all  <;> omega) | (simp_all ; omega)))
             all_goals (simp only [objectsP, hF, Bool.and_false])
           · refine .skip (.xblk (.xseq (.region ?_))); refine .o ?_; refine .o (.nil ?_); refine .xlp (.back [3, 47, 48, 49] (ih1 (by assumption) ?_)); clear ih1
             (try simp only [Hb_iff, Bool.not_eq_true', Bool.not_eq_false'] at *)
             exact all_step hx1 hH1 (by clear hH1 hA0; (first | (simp [*]; done) | (simp at *; simp [*]; done) | (simp at *; simp [*]; omega) | (simp_all ; done) | (refine scb ?_; simp  at *; omega) | (refine scb ?_; simp_all ; done) | (refine scb ?_; simp_all  <;> omega) | (simp_all ; omega)))
       · have hge1 : e.mus.length ≤ i := by simpa using h3
         clear ih1; have hA1 := all_yes hH1 hge1; clear hH1 hge1; refine .exit (.eseq (.elp (.eblk (.xseq (.seq (.region ?_)))))); refine .o (.nil (.xseq (.ret (.done ?_)))); refine .mk ?_
         (try simp only [Hb_iff, Bool.not_eq_true', Bool.not_eq_false'] at *); all_goals (simp [objectsP, hA0, hA1, hl, hl2]; try (simp [hl2] at *))

theorem c_spec_l09Cases (s : Select) (g : Gor) (n : Int) (hs : s.cases.length ≤ 1000) : FnC Tryz.prog TA false 274 [.agg (eSelI s), .agg (eGorI g), .sc (.int .i64 (n))] [] (.ls .o 158 ((casesPlaces g n 0 s.cases).map ePlace)) [] := by
 refine .ini Tryz.ntmps274 Tryz.results274 ?_; refine .seq (.region ?_); (iterate 2 refine .o ?_); refine .o (.nil (.xseq (.seq (.region ?_)))); refine .o ?_
 refine .o (.nil (.xseq (.seq (.seq (.region ?_))))); (iterate 3 refine .o ?_); refine .o (.nil (.xseq (.block (.loop ?_)))); refine .bound 13 rfl fun hb0 => ?_
 simp only [List.length_map, mxl] at hb0
 refine .rng [2, 4, 7, 13, 14, 15] (fun i => [(15, .sc (.int .i64 (i : Nat))), (7, .rf 2 0 (casesPlaces g n 0 (s.cases.take i)).length)]) (fun i => [(2, ⟨158, false, (casesPlaces g n 0 (s.cases.take i)).map ePlace⟩)]) (fun i => True) (s.cases.length) (trivial) (fun i hi0 hH0 ih0 => ?_)
 refine .seq (.region ?_); refine .o (.nil (.xseq (.seq ?_))); refine .cs (fun h0 => ?_) (fun h0 => ?_)
 · have hlt0 : i < s.cases.length := by simpa using h0
   obtain ⟨x, hx0, hd0⟩ := drop_cons hlt0; have hn0 : (0 : Int) ≤ (i : Int) := Int.natCast_nonneg i
   have hw0 : IntKind.i64.wrap ((i : Int) + 1) = ((i + 1 : Nat) : Int) := by rw [w64 (by omega) (by omega)]; rfl
   have hcl := casesPlaces_len g n 0 (s.cases.take i); rw [List.length_take] at hcl; have hcap1 : ((casesPlaces g n 0 (s.cases.take i)).length + 1) * 48 ≤ 140737488355328 := by omega
   have hcap2 : (casesPlaces g n 0 (s.cases.take i)).length + 1 ≤ maxLen := by (rw [mxl]; omega)
   have hL := casesPlaces_at g n hx0; refine .skip (.xseq (.seq (.block (.seq (.region ?_))))); (iterate 5 refine .o ?_); refine .o (.nil (.xseq (.seq (.seq (.region ?_)))))
   (iterate 2 refine .o ?_); refine .o (.nil (.xseq ?_)); refine .cs (fun h1 => ?_) (fun h1 => ?_)
   · have hL2 : casePlace g n i x = [] := by (simp at h1; simp [casePlace, h1])
     refine .exit (.eseq (.eblk (.xseq (.region ?_)))); refine .o ?_; refine .o (.nil ?_); refine .xlp (.back [2, 4, 7, 13, 14, 15] (ih0 (by assumption) ?_)); clear ih0; trivial
   · refine .skip (.xseq (.seq (.region ?_))); (iterate 4 refine .o ?_); refine .o (.nil (.xseq (.seq (.seq (.region ?_))))); refine .o ?_; refine .o (.nil (.xseq ?_))
     refine .cs (fun h2 => ?_) (fun h2 => ?_)
     · have hL2 : casePlace g n i x = [⟨false, x.ch, x.send, ⟨n, (i : Nat), regP g x.reg⟩⟩] := by (simp at *; simp [casePlace, *])
       refine .region ?_; (iterate 2 refine .o ?_); refine .o ?_; refine .cl (c_spec_Reg _ _) ?_; refine .o ?_; refine .o (.nil (.xseq (.region ?_))); (iterate 9 refine .o ?_)
       refine .o (.nil (.xblk (.xseq (.region ?_)))); refine .o ?_; refine .o (.nil ?_); refine .xlp (.back [2, 4, 7, 13, 14, 15] (ih0 (by assumption) ?_)); clear ih0; trivial
     · have hL2 : casePlace g n i x = [⟨false, x.ch, x.send, ⟨n, (i : Nat), 0⟩⟩] := by (simp at *; simp [casePlace, *])
       refine .skip (.xseq (.region ?_)); (iterate 9 refine .o ?_); refine .o (.nil (.xblk (.xseq (.region ?_)))); refine .o ?_; refine .o (.nil ?_)
       refine .xlp (.back [2, 4, 7, 13, 14, 15] (ih0 (by assumption) ?_)); clear ih0; trivial
 · have hge0 : s.cases.length ≤ i := by simpa using h0
   clear ih0; have hL : s.cases.take i = s.cases := List.take_of_length_le hge0; refine .exit (.eseq (.elp (.eblk (.xseq (.seq (.region ?_)))))); refine .o ?_
   refine .o (.nil (.xseq (.ret (.done ?_)))); refine .mk ?_ (hn := noAss_map nPlace _); (try simp only [Hb_iff, Bool.not_eq_true', Bool.not_eq_false'] at *)
   all_goals (simp only [hL]; try rfl)

theorem c_spec_l09Places (p : Prog) (g : Gor) (n : Int) (ha : AtOk p g) : FnC Tryz.prog TA false 166 [.agg (eProgI p), .agg (eGorI g), .sc (.int .i64 (n))] [] (.ls .o 158 ((placesP p g n).map ePlace)) [] := by
 refine .ini Tryz.ntmps166 Tryz.results166 ?_; have hsel := ha.sel; refine .seq (.region ?_); (iterate 2 refine .o ?_); refine .o (.nil (.xseq (.seq (.region ?_)))); refine .o ?_
 refine .o ?_; refine .cl (c_spec_l09At p g ha) ?_; refine .o ?_; refine .o (.nil (.xseq (.seq (.region ?_)))); (iterate 3 refine .o ?_)
 refine .o (.nil (.xseq (.seq (.block (.seq (.region ?_)))))); (iterate 3 refine .o ?_); refine .o ?_; refine .sp 18 (fun s0 => ?_) (fun s0 => ?_)
 · (iterate 4 refine .o ?_); refine .o (.nil (.xseq ?_)); refine .cs (fun h0 => ?_) (fun h0 => ?_)
   · refine .seq (.region ?_); (iterate 2 refine .o ?_); refine .o ?_; refine .cl (c_spec_Reg _ _) ?_; refine .o ?_; refine .o (.nil (.xseq (.seq (.region ?_)))); (iterate 5 refine .o ?_)
     refine .o (.nil (.xseq (.ret (.rblk (.rseq (.done ?_)))))); refine .mk ?_ (hn := noAss_map nPlace _); (try simp only [Hb_iff, Bool.not_eq_true', Bool.not_eq_false'] at *)
     all_goals (first | (exfalso; clear hsel; simp at *; omega) | (simp at *; simp [placesP, *]; done) | (simp at *; simp [placesP, *]; rfl))
   · refine .seq (.region ?_); (iterate 3 refine .o ?_); refine .o ?_; refine .sp 37 (fun s1 => ?_) (fun s1 => ?_)
     · (iterate 4 refine .o ?_); refine .o (.nil (.xseq ?_)); refine .cs (fun h1 => ?_) (fun h1 => ?_)
       · refine .seq (.region ?_); (iterate 5 refine .o ?_); refine .o (.nil (.xseq (.ret (.rblk (.rseq (.done ?_)))))); refine .mk ?_ (hn := noAss_map nPlace _)
         (try simp only [Hb_iff, Bool.not_eq_true', Bool.not_eq_false'] at *)
         all_goals (first | (exfalso; clear hsel; simp at *; omega) | (simp at *; simp [placesP, *]; done) | (simp at *; simp [placesP, *]; rfl))
       · refine .seq (.region ?_); (iterate 3 refine .o ?_); refine .o (.nil (.xseq ?_)); refine .cs (fun h2 => ?_) (fun h2 => ?_)
         · refine .seq ?_; obtain ⟨hs1, hs2, hs3⟩ := hsel (by simp at *; assumption); have hs4 : (selAtP p (instrAtP p g).a).cases.length ≤ 1000 := by (simp [selTopOkP] at hs3; omega)
           refine .drawnK 9 [(0, false), (1, false), (2, false), (3, false), (4, false), (5, false), (6, false), (7, false), (8, true)] mixed (by kernel_rfl) ?_; (iterate 7 refine .o ?_)
           refine .o ?_; refine .cc (c_spec_l09Cases _ _ _ hs4) ?_; refine .nil ?_; refine .o (.nil (.xseq (.ret (.rblk (.rseq (.done ?_)))))); refine .mk ?_ (hn := noAss_map nPlace _)
           (try simp only [Hb_iff, Bool.not_eq_true', Bool.not_eq_false'] at *)
           all_goals (first | (exfalso; clear hsel; simp at *; omega) | (simp at *; simp [placesP, *]; done) | (simp at *; simp [placesP, *]; rfl))
         · refine .seq (.region ?_); (iterate 3 refine .o ?_); refine .o (.nil (.xseq ?_)); refine .cs (fun h3 => ?_) (fun h3 => ?_)
           · refine .seq (.region ?_); (iterate 5 refine .o ?_); refine .o (.nil (.xseq (.ret (.rblk (.rseq (.done ?_)))))); refine .mk ?_ (hn := noAss_map nPlace _)
             (try simp only [Hb_iff, Bool.not_eq_true', Bool.not_eq_false'] at *)
             all_goals (first | (exfalso; clear hsel; simp at *; omega) | (simp at *; simp [placesP, *]; done) | (simp at *; simp [placesP, *]; rfl))
           · refine .skip (.xblk (.xseq (.seq (.region ?_)))); refine .o ?_; refine .o (.nil (.xseq (.ret (.done ?_)))); refine .mk ?_ (hn := noAss_map nPlace _)
             (try simp only [Hb_iff, Bool.not_eq_true', Bool.not_eq_false'] at *)
             all_goals (first | (exfalso; clear hsel; simp at *; omega) | (simp at *; simp [placesP, *]; done) | (simp at *; simp [placesP, *]; rfl))
     · (iterate 4 refine .o ?_); refine .o (.nil (.xseq ?_)); refine .cF (.seq (.region ?_)); (iterate 3 refine .o ?_); refine .o (.nil (.xseq ?_)); refine .cs (fun h4 => ?_) (fun h4 => ?_)
       · refine .seq ?_; obtain ⟨hs1, hs2, hs3⟩ := hsel (by simp at *; assumption); have hs4 : (selAtP p (instrAtP p g).a).cases.length ≤ 1000 := by (simp [selTopOkP] at hs3; omega)
         refine .drawnK 9 [(0, false), (1, false), (2, false), (3, false), (4, false), (5, false), (6, false), (7, false), (8, true)] mixed (by kernel_rfl) ?_; (iterate 7 refine .o ?_)
         refine .o ?_; refine .cc (c_spec_l09Cases _ _ _ hs4) ?_; refine .nil ?_; refine .o (.nil (.xseq (.ret (.rblk (.rseq (.done ?_)))))); refine .mk ?_ (hn := noAss_map nPlace _)
         (try simp only [Hb_iff, Bool.not_eq_true', Bool.not_eq_false'] at *)
         all_goals (first | (exfalso; clear hsel; simp at *; omega) | (simp at *; simp [placesP, *]; done) | (simp at *; simp [placesP, *]; rfl))
       · refine .seq (.region ?_); (iterate 3 refine .o ?_); refine .o (.nil (.xseq ?_)); refine .cs (fun h5 => ?_) (fun h5 => ?_)
         · refine .seq (.region ?_); (iterate 5 refine .o ?_); refine .o (.nil (.xseq (.ret (.rblk (.rseq (.done ?_)))))); refine .mk ?_ (hn := noAss_map nPlace _)
           (try simp only [Hb_iff, Bool.not_eq_true', Bool.not_eq_false'] at *)
           all_goals (first | (exfalso; clear hsel; simp at *; omega) | (simp at *; simp [placesP, *]; done) | (simp at *; simp [placesP, *]; rfl))
         · refine .skip (.xblk (.xseq (.seq (.region ?_)))); refine .o ?_; refine .o (.nil (.xseq (.ret (.done ?_)))); refine .mk ?_ (hn := noAss_map nPlace _)
           (try simp only [Hb_iff, Bool.not_eq_true', Bool.not_eq_false'] at *)
           all_goals (first | (exfalso; clear hsel; simp at *; omega) | (simp at *; simp [placesP, *]; done) | (simp at *; simp [placesP, *]; rfl))
 · (iterate 4 refine .o ?_); refine .o (.nil (.xseq ?_)); refine .cF (.seq (.region ?_)); (iterate 3 refine .o ?_); refine .o ?_; refine .sp 37 (fun s2 => ?_) (fun s2 => ?_)
   · (iterate 4 refine .o ?_); refine .o (.nil (.xseq ?_)); refine .cs (fun h6 => ?_) (fun h6 => ?_)
     · refine .seq (.region ?_); (iterate 5 refine .o ?_); refine .o (.nil (.xseq (.ret (.rblk (.rseq (.done ?_)))))); refine .mk ?_ (hn := noAss_map nPlace _)
       (try simp only [Hb_iff, Bool.not_eq_true', Bool.not_eq_false'] at *)
       all_goals (first | (exfalso; clear hsel; simp at *; omega) | (simp at *; simp [placesP, *]; done) | (simp at *; simp [placesP, *]; rfl))
     · refine .seq (.region ?_); (iterate 3 refine .o ?_); refine .o (.nil (.xseq ?_)); refine .cs (fun h7 => ?_) (fun h7 => ?_)
       · refine .seq ?_; obtain ⟨hs1, hs2, hs3⟩ := hsel (by simp at *; assumption); have hs4 : (selAtP p (instrAtP p g).a).cases.length ≤ 1000 := by (simp [selTopOkP] at hs3; omega)
         refine .drawnK 9 [(0, false), (1, false), (2, false), (3, false), (4, false), (5, false), (6, false), (7, false), (8, true)] mixed (by kernel_rfl) ?_; (iterate 7 refine .o ?_)
         refine .o ?_; refine .cc (c_spec_l09Cases _ _ _ hs4) ?_; refine .nil ?_; refine .o (.nil (.xseq (.ret (.rblk (.rseq (.done ?_)))))); refine .mk ?_ (hn := noAss_map nPlace _)
         (try simp only [Hb_iff, Bool.not_eq_true', Bool.not_eq_false'] at *)
         all_goals (first | (exfalso; clear hsel; simp at *; omega) | (simp at *; simp [placesP, *]; done) | (simp at *; simp [placesP, *]; rfl))
       · refine .seq (.region ?_); (iterate 3 refine .o ?_); refine .o (.nil (.xseq ?_)); refine .cs (fun h8 => ?_) (fun h8 => ?_)
         · refine .seq (.region ?_); (iterate 5 refine .o ?_); refine .o (.nil (.xseq (.ret (.rblk (.rseq (.done ?_)))))); refine .mk ?_ (hn := noAss_map nPlace _)
           (try simp only [Hb_iff, Bool.not_eq_true', Bool.not_eq_false'] at *)
           all_goals (first | (exfalso; clear hsel; simp at *; omega) | (simp at *; simp [placesP, *]; done) | (simp at *; simp [placesP, *]; rfl))
         · refine .skip (.xblk (.xseq (.seq (.region ?_)))); refine .o ?_; refine .o (.nil (.xseq (.ret (.done ?_)))); refine .mk ?_ (hn := noAss_map nPlace _)
           (try simp only [Hb_iff, Bool.not_eq_true', Bool.not_eq_false'] at *)
           all_goals (first | (exfalso; clear hsel; simp at *; omega) | (simp at *; simp [placesP, *]; done) | (simp at *; simp [placesP, *]; rfl))
   · (iterate 4 refine .o ?_); refine .o (.nil (.xseq ?_)); refine .cF (.seq (.region ?_)); (iterate 3 refine .o ?_); refine .o (.nil (.xseq ?_)); refine .cs (fun h9 => ?_) (fun h9 => ?_)
     · refine .seq ?_; obtain ⟨hs1, hs2, hs3⟩ := hsel (by simp at *; assumption); have hs4 : (selAtP p (instrAtP p g).a).cases.length ≤ 1000 := by (simp [selTopOkP] at hs3; omega)
       refine .drawnK 9 [(0, false), (1, false), (2, false), (3, false), (4, false), (5, false), (6, false), (7, false), (8, true)] mixed (by kernel_rfl) ?_; (iterate 7 refine .o ?_)
       refine .o ?_; refine .cc (c_spec_l09Cases _ _ _ hs4) ?_; refine .nil ?_; refine .o (.nil (.xseq (.ret (.rblk (.rseq (.done ?_)))))); refine .mk ?_ (hn := noAss_map nPlace _)
       (try simp only [Hb_iff, Bool.not_eq_true', Bool.not_eq_false'] at *)
       all_goals (first | (exfalso; clear hsel; simp at *; omega) | (simp at *; simp [placesP, *]; done) | (simp at *; simp [placesP, *]; rfl))
     · refine .seq (.region ?_); (iterate 3 refine .o ?_); refine .o (.nil (.xseq ?_)); refine .cs (fun h10 => ?_) (fun h10 => ?_)
       · refine .seq (.region ?_); (iterate 5 refine .o ?_); refine .o (.nil (.xseq (.ret (.rblk (.rseq (.done ?_)))))); refine .mk ?_ (hn := noAss_map nPlace _)
         (try simp only [Hb_iff, Bool.not_eq_true', Bool.not_eq_false'] at *)
         all_goals (first | (exfalso; clear hsel; simp at *; omega) | (simp at *; simp [placesP, *]; done) | (simp at *; simp [placesP, *]; rfl))
       · refine .skip (.xblk (.xseq (.seq (.region ?_)))); refine .o ?_; refine .o (.nil (.xseq (.ret (.done ?_)))); refine .mk ?_ (hn := noAss_map nPlace _)
         (try simp only [Hb_iff, Bool.not_eq_true', Bool.not_eq_false'] at *)
         all_goals (first | (exfalso; clear hsel; simp at *; omega) | (simp at *; simp [placesP, *]; done) | (simp at *; simp [placesP, *]; rfl))

theorem c_spec_l09Count (xs : List Place) (x : Place) : FnC Tryz.prog TA false 121 [.ls .o 158 (xs.map ePlace), .agg (ePlace x)] [] (.sc (.int .i64 ((xs.count x : Nat)))) [] := by
 refine .ini Tryz.ntmps121 Tryz.results121 ?_; refine .seq (.region ?_); refine .o ?_; refine .o (.nil (.xseq (.seq (.region ?_))))
 refine .o (.nil (.xseq (.seq (.seq (.region ?_))))); (iterate 2 refine .o ?_); refine .o (.nil (.xseq (.block (.loop ?_)))); refine .bound 8 rfl fun hb0 => ?_
 simp only [List.length_map, mxl] at hb0
 refine .rng [3, 5, 8, 9, 10] (fun i => [(10, .sc (.int .i64 (i : Nat))), (5, .sc (.int .i64 ((xs.take i).count x : Nat)))]) (fun i => []) (fun i => True) (xs.length) (trivial) (fun i hi0 hH0 ih0 => ?_)
 refine .seq (.region ?_); refine .o (.nil (.xseq (.seq ?_))); refine .cs (fun h0 => ?_) (fun h0 => ?_)
 · have hlt0 : i < xs.length := by simpa using h0
   obtain ⟨y, hx0, hd0⟩ := drop_cons hlt0; have hn0 : (0 : Int) ≤ (i : Int) := Int.natCast_nonneg i
   have hw0 : IntKind.i64.wrap ((i : Int) + 1) = ((i + 1 : Nat) : Int) := by rw [w64 (by omega) (by omega)]; rfl
   have hcl : (xs.take i).count x ≤ i := Nat.le_trans List.count_le_length (by (rw [List.length_take]; omega))
   have hwc : IntKind.i64.wrap (((xs.take i).count x : Nat) + 1) = (((xs.take i).count x + 1 : Nat) : Int) := by (rw [w64 (by omega) (by omega)]; rfl)
   have hL := count_at (x := x) hx0; refine .skip (.xseq (.seq (.block (.seq (.region ?_))))); (iterate 3 refine .o ?_); refine .o (.nil (.xseq (.seq (.region ?_)))); refine .o ?_
   refine .o ?_; refine .eqs (q_Place x y) ?_; refine .nil (.xseq ?_); refine .cs (fun h1 => ?_) (fun h1 => ?_)
   · have hL2 : x = y := by (simp at h1; exact h1)
     rw [if_pos hL2] at hL; clear hL2; refine .region ?_; (iterate 2 refine .o ?_); refine .o (.nil (.xblk (.xseq (.region ?_)))); refine .o ?_; refine .o (.nil ?_)
     refine .xlp (.back [3, 5, 8, 9, 10] (ih0 (by assumption) ?_)); clear ih0; trivial
   · have hL2 : ¬ x = y := by (simp at h1; exact h1)
     rw [if_neg hL2, Nat.add_zero] at hL; refine .skip (.xblk (.xseq (.region ?_))); refine .o ?_; refine .o (.nil ?_); refine .xlp (.back [3, 5, 8, 9, 10] (ih0 (by assumption) ?_))
     clear ih0; trivial
 · have hge0 : xs.length ≤ i := by simpa using h0
   clear ih0; have hL : xs.take i = xs := List.take_of_length_le hge0; refine .exit (.eseq (.elp (.eblk (.xseq (.seq (.region ?_)))))); refine .o ?_
   refine .o (.nil (.xseq (.ret (.done ?_)))); refine .mk ?_; (try simp only [Hb_iff, Bool.not_eq_true', Bool.not_eq_false'] at *); all_goals (simp only [hL])

theorem c_spec_l09Same (a b : List Place) : FnC Tryz.prog TA false 167 [.ls .o 158 (a.map ePlace), .ls .o 158 (b.map ePlace)] [] (.sc (.bool (sameP a b))) [] := by
 refine .ini Tryz.ntmps167 Tryz.results167 ?_; refine .seq (.region ?_); refine .o (.nil (.xseq (.seq (.seq (.region ?_))))); (iterate 2 refine .o ?_)
 refine .o (.nil (.xseq (.block (.loop ?_)))); refine .bound 7 rfl fun hb0 => ?_; simp only [List.length_map, mxl] at hb0
 refine .rng [0, 1, 7, 8, 9] (fun i => [(9, .sc (.int .i64 (i : Nat)))]) (fun i => []) (fun i => (a.take i).all (fun x => decide (a.count x = b.count x)) = true) (a.length) (by first | rfl | simp) (fun i hi0 hH0 ih0 => ?_)
 refine .seq (.region ?_); refine .o (.nil (.xseq (.seq ?_))); refine .cs (fun h0 => ?_) (fun h0 => ?_)
 · have hlt0 : i < a.length := by simpa using h0
   obtain ⟨x, hx0, hd0⟩ := drop_cons hlt0; have hn0 : (0 : Int) ≤ (i : Int) := Int.natCast_nonneg i
   have hw0 : IntKind.i64.wrap ((i : Int) + 1) = ((i + 1 : Nat) : Int) := by rw [w64 (by omega) (by omega)]; rfl
   refine .skip (.xseq (.seq (.block (.seq (.region ?_))))); (iterate 3 refine .o ?_); refine .o (.nil (.xseq (.seq ?_)))
   refine .drawnK 7 [(0, false), (1, false), (2, false), (3, false), (4, false), (5, false), (6, false)] mixed (by kernel_rfl) ?_; refine .o ?_; refine .o ?_
   refine .cl (c_spec_l09Count _ _) ?_; refine .o ?_; refine .o ?_; refine .cl (c_spec_l09Count _ _) ?_; refine .o (.nil (.nil (.xseq ?_))); refine .cs (fun h1 => ?_) (fun h1 => ?_)
   · refine .seq (.region ?_); refine .o (.nil (.xseq (.ret (.rblk (.rseq (.rlp (.rblk (.rseq (.done ?_))))))))); refine .mk ?_; clear ih0
     (try simp only [Hb_iff, Bool.not_eq_true', Bool.not_eq_false'] at *)
     have hF := all_no (f := fun x => decide (a.count x = b.count x)) hx0 (by clear hH0; (first | (simp [*]; done) | (simp at *; simp [*]; done) | (simp at *; simp [*]; omega) | (simp_all ; done) | (refine scb ?_; simp  at *; omega) | (refine scb ?_; simp_all ; done) | (refine scb ?_; simp_all  <;> omega) | (simp_all ; omega)))
     all_goals (simp only [sameP, hF, Bool.false_and])
   · refine .skip (.xblk (.xseq (.region ?_))); refine .o ?_; refine .o (.nil ?_); refine .xlp (.back [0, 1, 7, 8, 9] (ih0 (by assumption) ?_)); clear ih0
     (try simp only [Hb_iff, Bool.not_eq_true', Bool.not_eq_false'] at *)
     exact all_step hx0 hH0 (by clear hH0; (first | (simp [*]; done) | (simp at *; simp [*]; done) | (simp at *; simp [*]; omega) | (simp_all ; done) | (refine scb ?_; simp  at *; omega) | (refine scb ?_; simp_all ; done) | (refine scb ?_; simp_all  <;> omega) | (simp_all ; omega)))
 · have hge0 : a.length ≤ i := by simpa using h0
   clear ih0; have hA0 := all_yes hH0 hge0; clear hH0 hge0; refine .exit (.eseq (.elp (.eblk (.xseq (.seq (.region ?_)))))); (iterate 5 refine .o ?_)
   refine .o (.nil (.xseq (.ret (.done ?_)))); refine .mk ?_; (try simp only [Hb_iff, Bool.not_eq_true', Bool.not_eq_false'] at *)
   all_goals (simp only [sameP, hA0, Bool.true_and]; clear hA0; (first | (simp [*]; done) | (simp at *; simp [*]; done) | (simp at *; simp [*]; omega) | (simp_all ; done) | (refine scb ?_; simp  at *; omega) | (refine scb ?_; simp_all ; done) | (refine scb ?_; simp_all  <;> omega) | (simp_all ; omega)))

theorem c_spec_l09States (e : Eng) (s : Int) (hf : e.gs.length ≤ 1048576) : FnC Tryz.prog TA false 169 [.agg (eEngI e), .sc (.int .i64 (s))] [] (.ls .o 3 ((stateGo s 0 e.gs).map eInt)) [] := by
 refine .ini Tryz.ntmps169 Tryz.results169 ?_; refine .seq (.region ?_); refine .o ?_; refine .o (.nil (.xseq (.seq (.region ?_)))); refine .o ?_
 refine .o (.nil (.xseq (.seq (.seq (.region ?_))))); (iterate 3 refine .o ?_); refine .o (.nil (.xseq (.block (.loop ?_)))); refine .bound 10 rfl fun hb0 => ?_
 simp only [List.length_map, mxl] at hb0
 refine .rng [1, 5, 10, 11, 12] (fun i => [(12, .sc (.int .i64 (i : Nat))), (5, .rf 1 0 (stateGo s 0 (e.gs.take i)).length)]) (fun i => [(1, ⟨3, false, (stateGo s 0 (e.gs.take i)).map eInt⟩)]) (fun i => True) (e.gs.length) (trivial) (fun i hi0 hH0 ih0 => ?_)
 refine .seq (.region ?_); refine .o (.nil (.xseq (.seq ?_))); refine .cs (fun h0 => ?_) (fun h0 => ?_)
 · have hlt0 : i < e.gs.length := by simpa using h0
   obtain ⟨x, hx0, hd0⟩ := drop_cons hlt0; have hn0 : (0 : Int) ≤ (i : Int) := Int.natCast_nonneg i
   have hw0 : IntKind.i64.wrap ((i : Int) + 1) = ((i + 1 : Nat) : Int) := by rw [w64 (by omega) (by omega)]; rfl
   have hcl := stateGo_len s 0 (e.gs.take i); rw [List.length_take] at hcl; have hcap1 : ((stateGo s 0 (e.gs.take i)).length + 1) * 8 ≤ 140737488355328 := by omega
   have hcap2 : (stateGo s 0 (e.gs.take i)).length + 1 ≤ maxLen := by (rw [mxl]; omega)
   have hL := stateGo_at s hx0; refine .skip (.xseq (.seq (.block (.seq (.region ?_))))); (iterate 5 refine .o ?_); refine .o (.nil (.xseq (.seq (.region ?_))))
   (iterate 3 refine .o ?_); refine .o (.nil (.xseq ?_)); refine .cs (fun h1 => ?_) (fun h1 => ?_)
   · have hL2 : x.state = s := by (simp at h1; exact h1)
     rw [if_pos hL2] at hL; clear hL2; refine .region ?_; (iterate 4 refine .o ?_); refine .o (.nil (.xblk (.xseq (.region ?_)))); refine .o ?_; refine .o (.nil ?_)
     refine .xlp (.back [1, 5, 10, 11, 12] (ih0 (by assumption) ?_)); clear ih0; trivial
   · have hL2 : ¬ x.state = s := by (simp at h1; exact h1)
     rw [if_neg hL2, List.append_nil] at hL; refine .skip (.xblk (.xseq (.region ?_))); refine .o ?_; refine .o (.nil ?_); refine .xlp (.back [1, 5, 10, 11, 12] (ih0 (by assumption) ?_))
     clear ih0; trivial
 · have hge0 : e.gs.length ≤ i := by simpa using h0
   clear ih0; have hL : e.gs.take i = e.gs := List.take_of_length_le hge0; refine .exit (.eseq (.elp (.eblk (.xseq (.seq (.region ?_)))))); refine .o ?_
   refine .o (.nil (.xseq (.ret (.done ?_)))); refine .mk ?_ (hn := noAss_map nInt _); (try simp only [Hb_iff, Bool.not_eq_true', Bool.not_eq_false'] at *); all_goals (simp only [hL])

theorem c_spec_Ready (e : Eng) (hf : e.gs.length ≤ 1048576) : FnC Tryz.prog TA false 87 [.agg (eEngI e)] [] (.ls .o 3 ((readyP e).map eInt)) [] := by
 refine .ini Tryz.ntmps87 Tryz.results87 ?_; refine .seq (.region ?_); refine .o ?_; refine .o (.nil (.xseq (.seq (.region ?_)))); refine .o ?_
 refine .cl (c_spec_l09States e 1 hf) ?_; refine .o (.nil (.xseq (.ret (.done ?_)))); refine .mk ?_ (hn := noAss_map nInt _)
 (try simp only [Hb_iff, Bool.not_eq_true', Bool.not_eq_false'] at *); all_goals (rfl)

theorem c_spec_Asleep (e : Eng) (hf : e.gs.length ≤ 1048576) : FnC Tryz.prog TA false 88 [.agg (eEngI e)] [] (.ls .o 3 ((asleepP e).map eInt)) [] := by
 refine .ini Tryz.ntmps88 Tryz.results88 ?_; refine .seq (.region ?_); refine .o ?_; refine .o (.nil (.xseq (.seq (.region ?_)))); refine .o ?_
 refine .cl (c_spec_l09States e 2 hf) ?_; refine .o (.nil (.xseq (.ret (.done ?_)))); refine .mk ?_ (hn := noAss_map nInt _)
 (try simp only [Hb_iff, Bool.not_eq_true', Bool.not_eq_false'] at *); all_goals (rfl)

theorem c_spec_l09All (e : Eng) (hf : FitE e) : FnC Tryz.prog TA false 168 [.agg (eEngI e)] [] (.ls .o 158 ((allPlaces e).map ePlace)) [] := by
 refine .ini Tryz.ntmps168 Tryz.results168 ?_; refine .seq (.region ?_); refine .o ?_; refine .o (.nil (.xseq (.seq (.region ?_)))); refine .o ?_
 refine .o (.nil (.xseq (.seq (.seq (.region ?_))))); (iterate 3 refine .o ?_); refine .o (.nil (.xseq (.block ?_))); have hq0 := acC_0 e.chans; refine .loop ?_
 refine .bound 16 rfl fun hb0 => ?_; simp only [List.length_map, mxl] at hb0
 refine .rng [1, 3, 16, 17, 18] (fun i => [(18, .sc (.int .i64 (i : Nat))), (3, .rf 1 0 (acC e.chans i).length)]) (fun i => [(1, ⟨158, false, (acC e.chans i).map ePlace⟩)]) (fun i => True) (e.chans.length) (trivial) (fun i hi0 hH0 ih0 => ?_)
 refine .seq (.region ?_); refine .o (.nil (.xseq (.seq ?_))); refine .cs (fun h0 => ?_) (fun h0 => ?_)
 · have hlt0 : i < e.chans.length := by simpa using h0
   obtain ⟨x, hx0, hd0⟩ := drop_cons hlt0; have hn0 : (0 : Int) ≤ (i : Int) := Int.natCast_nonneg i
   have hw0 : IntKind.i64.wrap ((i : Int) + 1) = ((i + 1 : Nat) : Int) := by rw [w64 (by omega) (by omega)]; rfl
   refine .skip (.xseq (.seq (.block (.seq (.region ?_))))); (iterate 5 refine .o ?_); refine .o (.nil (.xseq (.seq (.seq (.region ?_))))); (iterate 3 refine .o ?_)
   refine .o (.nil (.xseq (.block ?_))); have hq2 := acS_0 e.chans i x; refine .loop ?_; refine .bound 24 rfl fun hb1 => ?_; simp only [List.length_map, mxl] at hb1
   refine .rng [1, 3, 4, 5, 16, 17, 18, 24, 25, 26] (fun j => [(26, .sc (.int .i64 (j : Nat))), (3, .rf 1 0 (acS e.chans i x j).length)]) (fun j => [(1, ⟨158, false, (acS e.chans i x j).map ePlace⟩)]) (fun j => True) (x.sends.length) (trivial) (fun j hi1 hH1 ih1 => ?_)
   refine .seq (.region ?_); refine .o (.nil (.xseq (.seq ?_))); refine .cs (fun h1 => ?_) (fun h1 => ?_)
   · have hlt1 : j < x.sends.length := by simpa using h1
     obtain ⟨y, hx1, hd1⟩ := drop_cons hlt1; have hn1 : (0 : Int) ≤ (j : Int) := Int.natCast_nonneg j
     have hw1 : IntKind.i64.wrap ((j : Int) + 1) = ((j + 1 : Nat) : Int) := by rw [w64 (by omega) (by omega)]; rfl
     have hcl := acS_len hf hx0 j; have hcap1 : ((acS e.chans i x j).length + 1) * 48 ≤ 140737488355328 := by omega
     have hcap2 : (acS e.chans i x j).length + 1 ≤ maxLen := by (rw [mxl]; omega)
     have hq3 := acS_s (cs := e.chans) (i := i) hx1; refine .skip (.xseq (.seq (.block (.seq (.region ?_))))); (iterate 3 refine .o ?_); refine .o (.nil (.xseq (.region ?_)))
     (iterate 6 refine .o ?_); refine .o (.nil (.xblk (.xseq (.region ?_)))); refine .o ?_; refine .o (.nil ?_)
     refine .xlp (.back [1, 3, 4, 5, 16, 17, 18, 24, 25, 26] (ih1 (by assumption) ?_)); clear ih1 ih0; trivial
   · have hge1 : x.sends.length ≤ j := by simpa using h1
     clear ih1; have hq4 := acS_e (cs := e.chans) (i := i) hge1; refine .exit (.eseq (.elp (.eblk (.xseq (.seq (.region ?_)))))); (iterate 3 refine .o ?_)
     refine .o (.nil (.xseq (.block (.loop ?_)))); refine .bound 38 rfl fun hb2 => ?_; simp only [List.length_map, mxl] at hb2
     refine .rng [1, 3, 4, 16, 17, 18, 38, 39, 40] (fun j => [(40, .sc (.int .i64 (j : Nat))), (3, .rf 1 0 (acR e.chans i x j).length)]) (fun j => [(1, ⟨158, false, (acR e.chans i x j).map ePlace⟩)]) (fun j => True) (x.recvs.length) (trivial) (fun j hi2 hH2 ih2 => ?_)
     refine .seq (.region ?_); refine .o (.nil (.xseq (.seq ?_))); refine .cs (fun h2 => ?_) (fun h2 => ?_)
     · have hlt2 : j < x.recvs.length := by simpa using h2
       obtain ⟨z, hx2, hd2⟩ := drop_cons hlt2; have hn2 : (0 : Int) ≤ (j : Int) := Int.natCast_nonneg j
       have hw2 : IntKind.i64.wrap ((j : Int) + 1) = ((j + 1 : Nat) : Int) := by rw [w64 (by omega) (by omega)]; rfl
       have hcl := acR_len hf hx0 j; have hcap1 : ((acR e.chans i x j).length + 1) * 48 ≤ 140737488355328 := by omega
       have hcap2 : (acR e.chans i x j).length + 1 ≤ maxLen := by (rw [mxl]; omega)
       have hq3 := acR_s (cs := e.chans) (i := i) hx2; refine .skip (.xseq (.seq (.block (.seq (.region ?_))))); (iterate 3 refine .o ?_); refine .o (.nil (.xseq (.region ?_)))
       (iterate 6 refine .o ?_); refine .o (.nil (.xblk (.xseq (.region ?_)))); refine .o ?_; refine .o (.nil ?_)
       refine .xlp (.back [1, 3, 4, 16, 17, 18, 38, 39, 40] (ih2 (by assumption) ?_)); clear ih2 ih0; trivial
     · have hge2 : x.recvs.length ≤ j := by simpa using h2
       clear ih2; have hq5 := acR_e hx0 hge2; refine .exit (.eseq (.elp (.eblk (.xblk (.xseq (.region ?_)))))); refine .o ?_; refine .o (.nil ?_)
       refine .xlp (.back [1, 3, 16, 17, 18] (ih0 (by assumption) ?_)); clear ih0; trivial
 · have hge0 : e.chans.length ≤ i := by simpa using h0
   clear ih0; have hq1 := acC_e e.mus hge0; refine .exit (.eseq (.elp (.eblk (.xseq (.seq (.seq (.region ?_))))))); (iterate 3 refine .o ?_)
   refine .o (.nil (.xseq (.block (.loop ?_)))); refine .bound 53 rfl fun hb3 => ?_; simp only [List.length_map, mxl] at hb3
   refine .rng [3, 53, 54, 55] (fun i => [(55, .sc (.int .i64 (i : Nat))), (3, .rf 1 0 (acM e.chans e.mus i).length)]) (fun i => [(1, ⟨158, false, (acM e.chans e.mus i).map ePlace⟩)]) (fun i => True) (e.mus.length) (trivial) (fun i hi3 hH3 ih3 => ?_)
   refine .seq (.region ?_); refine .o (.nil (.xseq (.seq ?_))); refine .cs (fun h3 => ?_) (fun h3 => ?_)
   · have hlt3 : i < e.mus.length := by simpa using h3
     obtain ⟨m, hx3, hd3⟩ := drop_cons hlt3; have hn3 : (0 : Int) ≤ (i : Int) := Int.natCast_nonneg i
     have hw3 : IntKind.i64.wrap ((i : Int) + 1) = ((i + 1 : Nat) : Int) := by rw [w64 (by omega) (by omega)]; rfl
     refine .skip (.xseq (.seq (.block (.seq (.region ?_))))); (iterate 5 refine .o ?_); refine .o (.nil (.xseq (.seq (.region ?_)))); (iterate 3 refine .o ?_)
     refine .o (.nil (.xseq (.block ?_))); have hq7 := acW_0 e.chans e.mus i m; refine .loop ?_; refine .bound 61 rfl fun hb4 => ?_; simp only [List.length_map, mxl] at hb4
     refine .rng [3, 10, 53, 54, 55, 61, 62, 63] (fun j => [(63, .sc (.int .i64 (j : Nat))), (3, .rf 1 0 (acW e.chans e.mus i m j).length)]) (fun j => [(1, ⟨158, false, (acW e.chans e.mus i m j).map ePlace⟩)]) (fun j => True) (m.wait.length) (trivial) (fun j hi4 hH4 ih4 => ?_)
     refine .seq (.region ?_); refine .o (.nil (.xseq (.seq ?_))); refine .cs (fun h4 => ?_) (fun h4 => ?_)
     · have hlt4 : j < m.wait.length := by simpa using h4
       obtain ⟨y, hx4, hd4⟩ := drop_cons hlt4; have hn4 : (0 : Int) ≤ (j : Int) := Int.natCast_nonneg j
       have hw4 : IntKind.i64.wrap ((j : Int) + 1) = ((j + 1 : Nat) : Int) := by rw [w64 (by omega) (by omega)]; rfl
       have hcl := acW_len hf hx3 j; have hcap1 : ((acW e.chans e.mus i m j).length + 1) * 48 ≤ 140737488355328 := by omega
       have hcap2 : (acW e.chans e.mus i m j).length + 1 ≤ maxLen := by (rw [mxl]; omega)
       have hq3 := acW_s (cs := e.chans) (ms := e.mus) (i := i) hx4; refine .skip (.xseq (.seq (.block (.seq (.region ?_))))); (iterate 2 refine .o ?_)
       refine .o (.nil (.xseq (.region ?_))); (iterate 7 refine .o ?_); refine .o (.nil (.xblk (.xseq (.region ?_)))); refine .o ?_; refine .o (.nil ?_)
       refine .xlp (.back [3, 10, 53, 54, 55, 61, 62, 63] (ih4 (by assumption) ?_)); clear ih4 ih3; trivial
     · have hge4 : m.wait.length ≤ j := by simpa using h4
       clear ih4; have hq8 := acW_e (cs := e.chans) hx3 hge4; refine .exit (.eseq (.elp (.eblk (.xblk (.xseq (.region ?_)))))); refine .o ?_; refine .o (.nil ?_)
       refine .xlp (.back [3, 53, 54, 55] (ih3 (by assumption) ?_)); clear ih3; trivial
   · have hge3 : e.mus.length ≤ i := by simpa using h3
     clear ih3; have hq6 := acM_e hge3; refine .exit (.eseq (.elp (.eblk (.xseq (.seq (.region ?_)))))); refine .o ?_; refine .o (.nil (.xseq (.ret (.done ?_))))
     refine .mk ?_ (hn := noAss_map nPlace _); (try simp only [Hb_iff, Bool.not_eq_true', Bool.not_eq_false'] at *); all_goals (rfl)

theorem c_spec_EngOk (p : Prog) (e : Eng) (hf : FitG e) : FnC Tryz.prog TA false 86 [.agg (eProgI p), .agg (eEngI e)] [] (.sc (.bool (engOkP p e))) [] := by
 refine .ini Tryz.ntmps86 Tryz.results86 ?_; refine .seq (.region ?_); (iterate 2 refine .o ?_); refine .o (.nil (.xseq (.seq (.seq (.region ?_))))); refine .o ?_
 refine .cl (c_spec_ProgOk _) ?_; refine .o ?_; refine .o ?_; refine .sp 11 (fun s0 => ?_) (fun s0 => ?_)
 · (iterate 16 refine .o ?_); refine .o (.nil (.xseq ?_)); refine .cT (.seq (.region ?_)); refine .o (.nil (.xseq (.ret (.rseq (.done ?_))))); refine .mk ?_
   (try simp only [Hb_iff, Bool.not_eq_true', Bool.not_eq_false'] at *)
   all_goals ((first | (simp [engOkP, *]; done) | (simp at *; simp [engOkP, *]; done) | (simp at *; simp [engOkP, *]; omega) | (simp_all [engOkP]; done) | (refine scb ?_; simp [engOkP] at *; omega) | (refine scb ?_; simp_all [engOkP]; done) | (refine scb ?_; simp_all [engOkP] <;> omega) | (simp_all [engOkP]; omega)))
 · (iterate 5 refine .o ?_); refine .o ?_; refine .sp 17 (fun s1 => ?_) (fun s1 => ?_)
   · (iterate 10 refine .o ?_); refine .o (.nil (.xseq ?_)); refine .cT (.seq (.region ?_)); refine .o (.nil (.xseq (.ret (.rseq (.done ?_))))); refine .mk ?_
     (try simp only [Hb_iff, Bool.not_eq_true', Bool.not_eq_false'] at *)
     all_goals ((first | (simp [engOkP, *]; done) | (simp at *; simp [engOkP, *]; done) | (simp at *; simp [engOkP, *]; omega) | (simp_all [engOkP]; done) | (refine scb ?_; simp [engOkP] at *; omega) | (refine scb ?_; simp_all [engOkP]; done) | (refine scb ?_; simp_all [engOkP] <;> omega) | (simp_all [engOkP]; omega)))
   · (iterate 5 refine .o ?_); refine .o ?_; refine .sp 23 (fun s2 => ?_) (fun s2 => ?_)
     · (iterate 4 refine .o ?_); refine .o (.nil (.xseq ?_)); refine .cT (.seq (.region ?_)); refine .o (.nil (.xseq (.ret (.rseq (.done ?_))))); refine .mk ?_
       (try simp only [Hb_iff, Bool.not_eq_true', Bool.not_eq_false'] at *)
       all_goals ((first | (simp [engOkP, *]; done) | (simp at *; simp [engOkP, *]; done) | (simp at *; simp [engOkP, *]; omega) | (simp_all [engOkP]; done) | (refine scb ?_; simp [engOkP] at *; omega) | (refine scb ?_; simp_all [engOkP]; done) | (refine scb ?_; simp_all [engOkP] <;> omega) | (simp_all [engOkP]; omega)))
     · refine .o ?_; refine .o ?_; refine .cl (c_spec_l09Objects _ _) ?_; refine .o ?_; refine .o (.nil (.xseq ?_)); refine .cs (fun h0 => ?_) (fun h0 => ?_)
       · refine .seq (.region ?_); refine .o (.nil (.xseq (.ret (.rseq (.done ?_))))); refine .mk ?_; (try simp only [Hb_iff, Bool.not_eq_true', Bool.not_eq_false'] at *)
         all_goals ((first | (simp [engOkP, *]; done) | (simp at *; simp [engOkP, *]; done) | (simp at *; simp [engOkP, *]; omega) | (simp_all [engOkP]; done) | (refine scb ?_; simp [engOkP] at *; omega) | (refine scb ?_; simp_all [engOkP]; done) | (refine scb ?_; simp_all [engOkP] <;> omega) | (simp_all [engOkP]; omega)))
       · have hpo : progOkP p = true := by (simp at *; simp [*])
         have hob : objectsP p e = true := by (simp at *; simp [*])
         have hg1 : 1 ≤ e.gs.length := by (simp at *; omega)
         have hg2 : e.gs.length ≤ 10 := by (simp at *; omega)
         refine .skip (.xseq (.seq (.region ?_))); refine .o ?_; refine .o (.nil (.xseq (.seq (.seq (.region ?_))))); (iterate 3 refine .o ?_); refine .o (.nil (.xseq (.block (.loop ?_))))
         refine .bound 31 rfl fun hb0 => ?_; simp only [List.length_map, mxl] at hb0
         refine .rng [2, 3, 5, 31, 32, 33] (fun i => [(33, .sc (.int .i64 (i : Nat))), (5, .rf 2 0 (gorsWant p 0 (e.gs.take i)).length)]) (fun i => [(2, ⟨158, false, (gorsWant p 0 (e.gs.take i)).map ePlace⟩)]) (fun i => (e.gs.take i).all (gorInP p) = true) (e.gs.length) (by first | rfl | simp) (fun i hi0 hH0 ih0 => ?_)
         refine .seq (.region ?_); refine .o (.nil (.xseq (.seq ?_))); refine .cs (fun h1 => ?_) (fun h1 => ?_)
         · have hlt0 : i < e.gs.length := by simpa using h1
           obtain ⟨x, hx0, hd0⟩ := drop_cons hlt0; have hn0 : (0 : Int) ≤ (i : Int) := Int.natCast_nonneg i
           have hw0 : IntKind.i64.wrap ((i : Int) + 1) = ((i + 1 : Nat) : Int) := by rw [w64 (by omega) (by omega)]; rfl
           refine .skip (.xseq (.seq (.block (.seq (.region ?_))))); (iterate 5 refine .o ?_); refine .o (.nil (.xseq (.seq (.seq (.region ?_))))); refine .o ?_; refine .o ?_
           refine .cl (c_spec_l08Ok _ _) ?_; refine .o (.nil (.xseq ?_)); refine .cs (fun h2 => ?_) (fun h2 => ?_)
           · refine .seq (.region ?_); refine .o (.nil (.xseq (.ret (.rseq (.rblk (.rseq (.rlp (.rblk (.rseq (.done ?_)))))))))); refine .mk ?_; clear ih0
             (try simp only [Hb_iff, Bool.not_eq_true', Bool.not_eq_false'] at *)
             have hF := all_no (f := gorInP p) hx0 (by clear hH0; (first | (simp [gorInP, *]; done) | (simp at *; simp [gorInP, *]; done) | (simp at *; simp [gorInP, *]; omega) | (simp_all [gorInP]; done) | (refine scb ?_; simp [gorInP] at *; omega) | (refine scb ?_; simp_all [gorInP]; done) | (refine scb ?_; simp_all [gorInP] <;> omega) | (simp_all [gorInP]; omega)))
             all_goals (simp only [engOkP, hF, Bool.and_false, Bool.false_and])
           · have hok : gor1OkP p x = true := by (clear ih0; simp at *; simp [*])
             have hat := atOk hpo hok; have hL := gorsWant_at p hx0; have hwl := gorsWant_len 0 hpo hH0; rw [List.length_take] at hwl; refine .skip (.xseq (.seq (.seq (.region ?_))))
             (iterate 2 refine .o ?_); refine .o (.nil (.xseq ?_)); refine .cs (fun h3 => ?_) (fun h3 => ?_)
             · have hst : ¬ x.state = 2 := by (simp at h3; exact h3)
               have hL2 : gorWant p i x = [] := by simp [gorWant, hst]
               rw [hL2, List.append_nil] at hL; refine .exit (.eseq (.eblk (.xseq (.region ?_)))); refine .o ?_; refine .o (.nil ?_)
               refine .xlp (.back [2, 3, 5, 31, 32, 33] (ih0 (by assumption) ?_)); clear ih0; (try simp only [Hb_iff, Bool.not_eq_true', Bool.not_eq_false'] at *)
               exact all_step hx0 hH0 (by clear hH0 hL hL2; (first | (simp [gorInP, *]; done) | (simp at *; simp [gorInP, *]; done) | (simp at *; simp [gorInP, *]; omega) | (simp_all [gorInP]; done) | (refine scb ?_; simp [gorInP] at *; omega) | (refine scb ?_; simp_all [gorInP]; done) | (refine scb ?_; simp_all [gorInP] <;> omega) | (simp_all [gorInP]; omega)))
             · have hst : x.state = 2 := by (simp at h3; exact h3)
               have hL2 : gorWant p i x = placesP p x i := by simp [gorWant, hst]
               rw [hL2] at hL; have hpl := placesP_len (i : Int) hat; have hcap1 : ((gorsWant p 0 (e.gs.take i)).length + (placesP p x i).length) * 48 ≤ 140737488355328 := by omega
               have hcap2 : (gorsWant p 0 (e.gs.take i)).length + (placesP p x i).length ≤ maxLen := by (rw [mxl]; omega)
               refine .skip (.xseq (.seq (.seq (.region ?_)))); refine .o ?_; refine .o ?_; refine .cl (c_spec_l09May _ _ hat) ?_; refine .o (.nil (.xseq ?_))
               refine .cs (fun h4 => ?_) (fun h4 => ?_)
               · refine .seq (.region ?_); refine .o (.nil (.xseq (.ret (.rseq (.rblk (.rseq (.rlp (.rblk (.rseq (.done ?_)))))))))); refine .mk ?_; clear ih0
                 (try simp only [Hb_iff, Bool.not_eq_true', Bool.not_eq_false'] at *)
                 have hF := all_no (f := gorInP p) hx0 (by clear hH0 hL hL2; (first | (simp [gorInP, *]; done) | (simp at *; simp [gorInP, *]; done) | (simp at *; simp [gorInP, *]; omega) | (simp_all [gorInP]; done) | (refine scb ?_; simp [gorInP] at *; omega) | (refine scb ?_; simp_all [gorInP]; done) | (refine scb ?_; simp_all [gorInP] <;> omega) | (simp_all [gorInP]; omega)))
                 all_goals (simp only [engOkP, hF, Bool.and_false, Bool.false_and])
               · refine .skip (.xseq (.region ?_)); (iterate 3 refine .o ?_); refine .o ?_; refine .cl (c_spec_l09Places _ _ _ hat) ?_; refine .o ?_; refine .o (.nil (.xblk (.xseq (.region ?_))))
                 refine .o ?_; refine .o (.nil ?_); refine .xlp (.back [2, 3, 5, 31, 32, 33] (ih0 (by assumption) ?_)); clear ih0; (try simp only [Hb_iff, Bool.not_eq_true', Bool.not_eq_false'] at *)
                 exact all_step hx0 hH0 (by clear hH0 hL hL2; (first | (simp [gorInP, *]; done) | (simp at *; simp [gorInP, *]; done) | (simp at *; simp [gorInP, *]; omega) | (simp_all [gorInP]; done) | (refine scb ?_; simp [gorInP] at *; omega) | (refine scb ?_; simp_all [gorInP]; done) | (refine scb ?_; simp_all [gorInP] <;> omega) | (simp_all [gorInP]; omega)))
         · have hge0 : e.gs.length ≤ i := by simpa using h1
           clear ih0; have hA0 := all_yes hH0 hge0; clear hH0; have hL : e.gs.take i = e.gs := List.take_of_length_le hge0; refine .exit (.eseq (.elp (.eblk (.xseq (.seq (.region ?_))))))
           refine .o ?_; refine .o ?_; refine .cl (c_spec_l09All _ (fitE hf hpo hob)) ?_; refine .cl (c_spec_l09Same _ _) ?_; refine .o (.nil (.xseq (.ret (.done ?_)))); refine .mk ?_
           (try simp only [Hb_iff, Bool.not_eq_true', Bool.not_eq_false'] at *)
           have hE : engOkP p e = sameP (gorsWant p 0 e.gs) (allPlaces e) := by simp only [engOkP, hpo, hob, hA0, decide_eq_true hg1, decide_eq_true hg2, Bool.true_and]
           all_goals (simp only [hE])

theorem c_spec_Status (p : Prog) (e : Eng) (hf : FitG e) : FnC Tryz.prog TA false 21 [.agg (eProgI p), .agg (eEngI e)] [] (.sc (.int .i64 (statusP p e))) [] := by
 refine .ini Tryz.ntmps21 Tryz.results21 ?_; refine .seq (.region ?_); (iterate 2 refine .o ?_); refine .o (.nil (.xseq (.seq (.block (.seq (.region ?_)))))); refine .o ?_
 refine .o ?_; refine .cl (c_spec_EngOk _ _ hf) ?_; refine .o ?_; refine .o (.nil (.xseq ?_)); refine .cs (fun h0 => ?_) (fun h0 => ?_)
 · refine .seq (.region ?_); refine .o (.nil (.xseq (.ret (.rblk (.rseq (.done ?_)))))); refine .mk ?_; (try simp only [Hb_iff, Bool.not_eq_true', Bool.not_eq_false'] at *)
   all_goals ((first | (simp [statusP, *]; done) | (simp at *; simp [statusP, *]; done) | (simp at *; simp [statusP, *]; omega) | (simp_all [statusP]; done) | (refine scb ?_; simp [statusP] at *; omega) | (refine scb ?_; simp_all [statusP]; done) | (refine scb ?_; simp_all [statusP] <;> omega) | (simp_all [statusP]; omega)))
 · refine .seq (.region ?_); refine .o ?_; refine .cl (c_spec_Ready _ hf.gs) ?_; (iterate 2 refine .o ?_); refine .o (.nil (.xseq ?_)); refine .cs (fun h1 => ?_) (fun h1 => ?_)
   · refine .seq (.region ?_); refine .o (.nil (.xseq (.ret (.rblk (.rseq (.done ?_)))))); refine .mk ?_; (try simp only [Hb_iff, Bool.not_eq_true', Bool.not_eq_false'] at *)
     all_goals ((first | (simp [statusP, *]; done) | (simp at *; simp [statusP, *]; done) | (simp at *; simp [statusP, *]; omega) | (simp_all [statusP]; done) | (refine scb ?_; simp [statusP] at *; omega) | (refine scb ?_; simp_all [statusP]; done) | (refine scb ?_; simp_all [statusP] <;> omega) | (simp_all [statusP]; omega)))
   · refine .seq (.region ?_); refine .o ?_; refine .cl (c_spec_Asleep _ hf.gs) ?_; (iterate 2 refine .o ?_); refine .o (.nil (.xseq ?_)); refine .cs (fun h2 => ?_) (fun h2 => ?_)
     · refine .seq (.region ?_); refine .o (.nil (.xseq (.ret (.rblk (.rseq (.done ?_)))))); refine .mk ?_; (try simp only [Hb_iff, Bool.not_eq_true', Bool.not_eq_false'] at *)
       all_goals ((first | (simp [statusP, *]; done) | (simp at *; simp [statusP, *]; done) | (simp at *; simp [statusP, *]; omega) | (simp_all [statusP]; done) | (refine scb ?_; simp [statusP] at *; omega) | (refine scb ?_; simp_all [statusP]; done) | (refine scb ?_; simp_all [statusP] <;> omega) | (simp_all [statusP]; omega)))
     · refine .skip (.xblk (.xseq (.seq (.region ?_)))); refine .o (.nil (.xseq (.ret (.done ?_)))); refine .mk ?_; (try simp only [Hb_iff, Bool.not_eq_true', Bool.not_eq_false'] at *)
       all_goals ((first | (simp [statusP, *]; done) | (simp at *; simp [statusP, *]; done) | (simp at *; simp [statusP, *]; omega) | (simp_all [statusP]; done) | (refine scb ?_; simp [statusP] at *; omega) | (refine scb ?_; simp_all [statusP]; done) | (refine scb ?_; simp_all [statusP] <;> omega) | (simp_all [statusP]; omega)))
end Go.Proofs.AM
