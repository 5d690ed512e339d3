/- A part of the proof: the walk of functions of the program, or the rules of the walk. -/
import Derived.Test.YthilnfccfjcgfaaGreatA1E
set_option linter.unusedSimpArgs false
set_option linter.unusedVariables false
namespace Go.Proofs.AM
open Go Go.Proofs
set_option maxHeartbeats 4000000

theorem c_laws_eqIntS (xs ys : List Int) : FnC Tryz.prog TA false 35 [.ls .o 3 (xs.map eInt), .ls .o 3 (ys.map eInt)] [] (.sc (.bool (decide (xs = ys)))) [] := by
 refine .ini Tryz.ntmps35 Tryz.results35 ?_; refine .bound 0 rfl fun hb => ?_; rw [List.length_map, mxl] at hb; refine .seq (.region ?_)
 refine .o (.nil (.xseq (.seq (.seq (.region ?_))))); (iterate 4 refine .o ?_); refine .o (.nil (.xseq ?_)); refine .cs (fun h0 => ?_) (fun h0 => ?_)
 · refine .seq (.region ?_); refine .o (.nil (.xseq (.ret (.rseq (.done ?_))))); refine .mk ?_; (try simp only [Hb_iff] at *); have : ¬ xs = ys := by rintro rfl; simp at h0
   simp [this]
 · have hlen : ys.length = xs.length := by simp at h0; omega
   refine .skip (.xseq (.seq (.seq (.region ?_)))); refine .o (.nil (.xseq (.block (.loop ?_)))); refine .cut [0, 1, 5] 0 (Nat.zero_le _) ?_
   refine .eq ?_ (Go.iterH (fun i => ⟨[.ls .a 3 (xs.map eInt), .ls .a 3 (ys.map eInt), .un, .un, .un, .sc (.int .i64 (i : Nat)), .un, .un, .un, .un, .un, .un, .un, .un, .un, .un, .un, .un, .un, .un, .un, .un, .un, .un, .un, .un], [], 0, 0, []⟩) (fun i => decide (xs = ys) = decide (xs.drop i = ys.drop i)) xs.length (fun i hi hH ih => ?_) 0 (Nat.zero_le _) (rfl))
   · (simp only [go_sem]; try rfl)
   refine .seq (.seq (.region ?_)); (iterate 3 refine .o ?_); refine .o (.nil (.xseq ?_)); refine .cs (fun h1 => ?_) (fun h1 => ?_)
   · have hlt : i < xs.length := by simpa using h1
     obtain ⟨x, hx, hdx⟩ := drop_cons hlt; obtain ⟨y, hy, hdy⟩ := drop_cons (show i < ys.length by omega)
     have hi0 : (0 : Int) ≤ (i : Int) := Int.natCast_nonneg i; have hw : IntKind.i64.wrap ((i : Int) + 1) = ((i + 1 : Nat) : Int) := by rw [w64 (by omega) (by omega)]; rfl
     refine .skip (.xseq (.seq (.block (.seq ?_))))
     refine .drawnK 9 [(0, false), (1, false), (2, false), (3, false), (4, false), (5, false), (6, false), (7, false), (8, false)] mixed (by kernel_rfl) ?_; (iterate 8 refine .o ?_)
     refine .o (.nil (.nil (.xseq ?_))); refine .cs (fun h2 => ?_) (fun h2 => ?_)
     · refine .seq (.region ?_); refine .o (.nil (.xseq (.ret (.rblk (.rseq (.rlp (.rblk (.rseq (.done ?_))))))))); refine .mk ?_; clear ih; (try simp only [Hb_iff] at *)
       rw [hH, hdx, hdy]; simp at h2; simp [h2]
     · refine .skip (.xblk (.xseq (.region ?_))); (iterate 2 refine .o ?_); refine .o (.nil ?_); refine .xlp (.cut [0, 1, 5] 0 (Nat.zero_le _) (.eq ?_ (ih (by assumption) ?_)))
       · (simp only [go_sem, Nat.reduceEqDiff, Nat.reduceLT, Nat.reduceLeDiff, Nat.reduceAdd, Nat.reduceSub, reduceCtorEq, *]; try rfl)
       · (rw [hH, hdx, hdy]; simp at h2; simp [h2])
   · refine .exit (.eseq (.elp (.eblk (.xseq (.seq (.region ?_)))))); refine .o (.nil (.xseq (.ret (.done ?_)))); refine .mk ?_; (try simp only [Hb_iff] at *)
     have : xs.length ≤ i := by simpa using h1
     rw [hH, List.drop_of_length_le this, List.drop_of_length_le (by omega)]; rfl

theorem c_laws_eqCase (x y : Case) : FnC Tryz.prog TA false 329 [.agg (eCase x), .agg (eCase y)] [] (.sc (.bool (decide (x = y)))) [] := by
 refine .ini Tryz.ntmps329 Tryz.results329 ?_; refine .seq (.region ?_); (iterate 2 refine .o ?_); refine .o (.nil (.xseq (.seq (.seq (.region ?_))))); (iterate 4 refine .o ?_)
 refine .o (.nil (.xseq ?_)); refine .cs (fun h0 => ?_) (fun h0 => ?_)
 · refine .seq (.region ?_); refine .o (.nil (.xseq (.ret (.rseq (.done ?_))))); refine .mk ?_; (try simp only [Hb_iff] at *); cases x; cases y; simp at *; simp [*]
 · refine .skip (.xseq (.seq (.seq (.region ?_)))); (iterate 4 refine .o ?_); refine .o (.nil (.xseq ?_)); refine .cs (fun h1 => ?_) (fun h1 => ?_)
   · refine .seq (.region ?_); refine .o (.nil (.xseq (.ret (.rseq (.done ?_))))); refine .mk ?_; (try simp only [Hb_iff] at *); cases x; cases y; simp at *; simp [*]
   · refine .skip (.xseq (.seq (.seq (.region ?_)))); (iterate 4 refine .o ?_); refine .o (.nil (.xseq ?_)); refine .cs (fun h2 => ?_) (fun h2 => ?_)
     · refine .seq (.region ?_); refine .o (.nil (.xseq (.ret (.rseq (.done ?_))))); refine .mk ?_; (try simp only [Hb_iff] at *); cases x; cases y; simp at *; simp [*]
     · refine .skip (.xseq (.seq (.seq (.region ?_)))); (iterate 4 refine .o ?_); refine .o (.nil (.xseq ?_)); refine .cs (fun h3 => ?_) (fun h3 => ?_)
       · refine .seq (.region ?_); refine .o (.nil (.xseq (.ret (.rseq (.done ?_))))); refine .mk ?_; (try simp only [Hb_iff] at *); cases x; cases y; simp at *; simp [*]
       · refine .skip (.xseq (.seq (.seq (.region ?_)))); (iterate 4 refine .o ?_); refine .o (.nil (.xseq ?_)); refine .cs (fun h4 => ?_) (fun h4 => ?_)
         · refine .seq (.region ?_); refine .o (.nil (.xseq (.ret (.rseq (.done ?_))))); refine .mk ?_; (try simp only [Hb_iff] at *); cases x; cases y; simp at *; simp [*]
         · refine .skip (.xseq (.seq (.region ?_))); refine .o (.nil (.xseq (.ret (.done ?_)))); refine .mk ?_; (try simp only [Hb_iff] at *); cases x; cases y; simp at *; simp [*]

theorem c_laws_eqCaseS (xs ys : List Case) : FnC Tryz.prog TA false 286 [.ls .o 139 (xs.map eCase), .ls .o 139 (ys.map eCase)] [] (.sc (.bool (decide (xs = ys)))) [] := by
 refine .ini Tryz.ntmps286 Tryz.results286 ?_; refine .bound 0 rfl fun hb => ?_; rw [List.length_map, mxl] at hb; refine .seq (.region ?_)
 refine .o (.nil (.xseq (.seq (.seq (.region ?_))))); (iterate 4 refine .o ?_); refine .o (.nil (.xseq ?_)); refine .cs (fun h0 => ?_) (fun h0 => ?_)
 · refine .seq (.region ?_); refine .o (.nil (.xseq (.ret (.rseq (.done ?_))))); refine .mk ?_; (try simp only [Hb_iff] at *); have : ¬ xs = ys := by rintro rfl; simp at h0
   simp [this]
 · have hlen : ys.length = xs.length := by simp at h0; omega
   refine .skip (.xseq (.seq (.seq (.region ?_)))); refine .o (.nil (.xseq (.block (.loop ?_)))); refine .cut [0, 1, 5] 0 (Nat.zero_le _) ?_
   refine .eq ?_ (Go.iterH (fun i => ⟨[.ls .a 139 (xs.map eCase), .ls .a 139 (ys.map eCase), .un, .un, .un, .sc (.int .i64 (i : Nat)), .un, .un, .un, .un, .un, .un, .un, .un, .un, .un, .un, .un, .un, .un, .un, .un, .un, .un, .un, .un, .un], [], 0, 0, []⟩) (fun i => decide (xs = ys) = decide (xs.drop i = ys.drop i)) xs.length (fun i hi hH ih => ?_) 0 (Nat.zero_le _) (rfl))
   · (simp only [go_sem]; try rfl)
   refine .seq (.seq (.region ?_)); (iterate 3 refine .o ?_); refine .o (.nil (.xseq ?_)); refine .cs (fun h1 => ?_) (fun h1 => ?_)
   · have hlt : i < xs.length := by simpa using h1
     obtain ⟨x, hx, hdx⟩ := drop_cons hlt; obtain ⟨y, hy, hdy⟩ := drop_cons (show i < ys.length by omega)
     have hi0 : (0 : Int) ≤ (i : Int) := Int.natCast_nonneg i; have hw : IntKind.i64.wrap ((i : Int) + 1) = ((i + 1 : Nat) : Int) := by rw [w64 (by omega) (by omega)]; rfl
     refine .skip (.xseq (.seq (.block (.seq ?_))))
     refine .drawnK 10 [(0, false), (1, false), (2, false), (3, false), (4, false), (5, false), (6, false), (7, false), (8, false), (9, false)] mixed (by kernel_rfl) ?_
     (iterate 7 refine .o ?_); refine .o ?_; refine .cl (c_laws_eqCase x y) ?_; refine .o (.nil (.nil (.xseq ?_))); refine .cs (fun h2 => ?_) (fun h2 => ?_)
     · refine .seq (.region ?_); refine .o (.nil (.xseq (.ret (.rblk (.rseq (.rlp (.rblk (.rseq (.done ?_))))))))); refine .mk ?_; clear ih; (try simp only [Hb_iff] at *)
       rw [hH, hdx, hdy]; simp at h2; simp [h2]
     · refine .skip (.xblk (.xseq (.region ?_))); (iterate 2 refine .o ?_); refine .o (.nil ?_); refine .xlp (.cut [0, 1, 5] 0 (Nat.zero_le _) (.eq ?_ (ih (by assumption) ?_)))
       · (simp only [go_sem, Nat.reduceEqDiff, Nat.reduceLT, Nat.reduceLeDiff, Nat.reduceAdd, Nat.reduceSub, reduceCtorEq, *]; try rfl)
       · (rw [hH, hdx, hdy]; simp at h2; simp [h2])
   · refine .exit (.eseq (.elp (.eblk (.xseq (.seq (.region ?_)))))); refine .o (.nil (.xseq (.ret (.done ?_)))); refine .mk ?_; (try simp only [Hb_iff] at *)
     have : xs.length ≤ i := by simpa using h1
     rw [hH, List.drop_of_length_le this, List.drop_of_length_le (by omega)]; rfl

theorem c_laws_eqInstr (x y : Instr) : FnC Tryz.prog TA false 330 [.agg (eInstr x), .agg (eInstr y)] [] (.sc (.bool (decide (x = y)))) [] := by
 refine .ini Tryz.ntmps330 Tryz.results330 ?_; refine .seq (.region ?_); (iterate 2 refine .o ?_); refine .o (.nil (.xseq (.seq (.seq (.region ?_))))); (iterate 4 refine .o ?_)
 refine .o (.nil (.xseq ?_)); refine .cs (fun h0 => ?_) (fun h0 => ?_)
 · refine .seq (.region ?_); refine .o (.nil (.xseq (.ret (.rseq (.done ?_))))); refine .mk ?_; (try simp only [Hb_iff] at *); cases x; cases y; simp at *; simp [*]
 · refine .skip (.xseq (.seq (.seq (.region ?_)))); (iterate 4 refine .o ?_); refine .o (.nil (.xseq ?_)); refine .cs (fun h1 => ?_) (fun h1 => ?_)
   · refine .seq (.region ?_); refine .o (.nil (.xseq (.ret (.rseq (.done ?_))))); refine .mk ?_; (try simp only [Hb_iff] at *); cases x; cases y; simp at *; simp [*]
   · refine .skip (.xseq (.seq (.seq (.region ?_)))); (iterate 4 refine .o ?_); refine .o (.nil (.xseq ?_)); refine .cs (fun h2 => ?_) (fun h2 => ?_)
     · refine .seq (.region ?_); refine .o (.nil (.xseq (.ret (.rseq (.done ?_))))); refine .mk ?_; (try simp only [Hb_iff] at *); cases x; cases y; simp at *; simp [*]
     · refine .skip (.xseq (.seq (.seq (.region ?_)))); (iterate 4 refine .o ?_); refine .o (.nil (.xseq ?_)); refine .cs (fun h3 => ?_) (fun h3 => ?_)
       · refine .seq (.region ?_); refine .o (.nil (.xseq (.ret (.rseq (.done ?_))))); refine .mk ?_; (try simp only [Hb_iff] at *); cases x; cases y; simp at *; simp [*]
       · refine .skip (.xseq (.seq (.region ?_))); refine .o (.nil (.xseq (.ret (.done ?_)))); refine .mk ?_; (try simp only [Hb_iff] at *); cases x; cases y; simp at *; simp [*]

theorem c_laws_eqInstrS (xs ys : List Instr) : FnC Tryz.prog TA false 287 [.ls .o 132 (xs.map eInstr), .ls .o 132 (ys.map eInstr)] [] (.sc (.bool (decide (xs = ys)))) [] := by
 refine .ini Tryz.ntmps287 Tryz.results287 ?_; refine .bound 0 rfl fun hb => ?_; rw [List.length_map, mxl] at hb; refine .seq (.region ?_)
 refine .o (.nil (.xseq (.seq (.seq (.region ?_))))); (iterate 4 refine .o ?_); refine .o (.nil (.xseq ?_)); refine .cs (fun h0 => ?_) (fun h0 => ?_)
 · refine .seq (.region ?_); refine .o (.nil (.xseq (.ret (.rseq (.done ?_))))); refine .mk ?_; (try simp only [Hb_iff] at *); have : ¬ xs = ys := by rintro rfl; simp at h0
   simp [this]
 · have hlen : ys.length = xs.length := by simp at h0; omega
   refine .skip (.xseq (.seq (.seq (.region ?_)))); refine .o (.nil (.xseq (.block (.loop ?_)))); refine .cut [0, 1, 5] 0 (Nat.zero_le _) ?_
   refine .eq ?_ (Go.iterH (fun i => ⟨[.ls .a 132 (xs.map eInstr), .ls .a 132 (ys.map eInstr), .un, .un, .un, .sc (.int .i64 (i : Nat)), .un, .un, .un, .un, .un, .un, .un, .un, .un, .un, .un, .un, .un, .un, .un, .un, .un, .un, .un, .un, .un], [], 0, 0, []⟩) (fun i => decide (xs = ys) = decide (xs.drop i = ys.drop i)) xs.length (fun i hi hH ih => ?_) 0 (Nat.zero_le _) (rfl))
   · (simp only [go_sem]; try rfl)
   refine .seq (.seq (.region ?_)); (iterate 3 refine .o ?_); refine .o (.nil (.xseq ?_)); refine .cs (fun h1 => ?_) (fun h1 => ?_)
   · have hlt : i < xs.length := by simpa using h1
     obtain ⟨x, hx, hdx⟩ := drop_cons hlt; obtain ⟨y, hy, hdy⟩ := drop_cons (show i < ys.length by omega)
     have hi0 : (0 : Int) ≤ (i : Int) := Int.natCast_nonneg i; have hw : IntKind.i64.wrap ((i : Int) + 1) = ((i + 1 : Nat) : Int) := by rw [w64 (by omega) (by omega)]; rfl
     refine .skip (.xseq (.seq (.block (.seq ?_))))
     refine .drawnK 10 [(0, false), (1, false), (2, false), (3, false), (4, false), (5, false), (6, false), (7, false), (8, false), (9, false)] mixed (by kernel_rfl) ?_
     (iterate 7 refine .o ?_); refine .o ?_; refine .cl (c_laws_eqInstr x y) ?_; refine .o (.nil (.nil (.xseq ?_))); refine .cs (fun h2 => ?_) (fun h2 => ?_)
     · refine .seq (.region ?_); refine .o (.nil (.xseq (.ret (.rblk (.rseq (.rlp (.rblk (.rseq (.done ?_))))))))); refine .mk ?_; clear ih; (try simp only [Hb_iff] at *)
       rw [hH, hdx, hdy]; simp at h2; simp [h2]
     · refine .skip (.xblk (.xseq (.region ?_))); (iterate 2 refine .o ?_); refine .o (.nil ?_); refine .xlp (.cut [0, 1, 5] 0 (Nat.zero_le _) (.eq ?_ (ih (by assumption) ?_)))
       · (simp only [go_sem, Nat.reduceEqDiff, Nat.reduceLT, Nat.reduceLeDiff, Nat.reduceAdd, Nat.reduceSub, reduceCtorEq, *]; try rfl)
       · (rw [hH, hdx, hdy]; simp at h2; simp [h2])
   · refine .exit (.eseq (.elp (.eblk (.xseq (.seq (.region ?_)))))); refine .o (.nil (.xseq (.ret (.done ?_)))); refine .mk ?_; (try simp only [Hb_iff] at *)
     have : xs.length ≤ i := by simpa using h1
     rw [hH, List.drop_of_length_le this, List.drop_of_length_le (by omega)]; rfl

theorem c_laws_eqItem (x y : Item) : FnC Tryz.prog TA false 331 [.agg (eItem x), .agg (eItem y)] [] (.sc (.bool (decide (x = y)))) [] := by
 refine .ini Tryz.ntmps331 Tryz.results331 ?_; refine .seq (.region ?_); (iterate 2 refine .o ?_); refine .o (.nil (.xseq (.seq (.seq (.region ?_))))); (iterate 4 refine .o ?_)
 refine .o (.nil (.xseq ?_)); refine .cs (fun h0 => ?_) (fun h0 => ?_)
 · refine .seq (.region ?_); refine .o (.nil (.xseq (.ret (.rseq (.done ?_))))); refine .mk ?_; (try simp only [Hb_iff] at *); cases x; cases y; simp at *; simp [*]
 · refine .skip (.xseq (.seq (.seq (.region ?_)))); (iterate 4 refine .o ?_); refine .o (.nil (.xseq ?_)); refine .cs (fun h1 => ?_) (fun h1 => ?_)
   · refine .seq (.region ?_); refine .o (.nil (.xseq (.ret (.rseq (.done ?_))))); refine .mk ?_; (try simp only [Hb_iff] at *); cases x; cases y; simp at *; simp [*]
   · refine .skip (.xseq (.seq (.seq (.region ?_)))); (iterate 4 refine .o ?_); refine .o (.nil (.xseq ?_)); refine .cs (fun h2 => ?_) (fun h2 => ?_)
     · refine .seq (.region ?_); refine .o (.nil (.xseq (.ret (.rseq (.done ?_))))); refine .mk ?_; (try simp only [Hb_iff] at *); cases x; cases y; simp at *; simp [*]
     · refine .skip (.xseq (.seq (.seq (.region ?_)))); (iterate 4 refine .o ?_); refine .o (.nil (.xseq ?_)); refine .cs (fun h3 => ?_) (fun h3 => ?_)
       · refine .seq (.region ?_); refine .o (.nil (.xseq (.ret (.rseq (.done ?_))))); refine .mk ?_; (try simp only [Hb_iff] at *); cases x; cases y; simp at *; simp [*]
       · refine .skip (.xseq (.seq (.region ?_))); refine .o (.nil (.xseq (.ret (.done ?_)))); refine .mk ?_; (try simp only [Hb_iff] at *); cases x; cases y; simp at *; simp [*]

theorem c_laws_eqItemS (xs ys : List Item) : FnC Tryz.prog TA false 288 [.ls .o 234 (xs.map eItem), .ls .o 234 (ys.map eItem)] [] (.sc (.bool (decide (xs = ys)))) [] := by
 refine .ini Tryz.ntmps288 Tryz.results288 ?_; refine .bound 0 rfl fun hb => ?_; rw [List.length_map, mxl] at hb; refine .seq (.region ?_)
 refine .o (.nil (.xseq (.seq (.seq (.region ?_))))); (iterate 4 refine .o ?_); refine .o (.nil (.xseq ?_)); refine .cs (fun h0 => ?_) (fun h0 => ?_)
 · refine .seq (.region ?_); refine .o (.nil (.xseq (.ret (.rseq (.done ?_))))); refine .mk ?_; (try simp only [Hb_iff] at *); have : ¬ xs = ys := by rintro rfl; simp at h0
   simp [this]
 · have hlen : ys.length = xs.length := by simp at h0; omega
   refine .skip (.xseq (.seq (.seq (.region ?_)))); refine .o (.nil (.xseq (.block (.loop ?_)))); refine .cut [0, 1, 5] 0 (Nat.zero_le _) ?_
   refine .eq ?_ (Go.iterH (fun i => ⟨[.ls .a 234 (xs.map eItem), .ls .a 234 (ys.map eItem), .un, .un, .un, .sc (.int .i64 (i : Nat)), .un, .un, .un, .un, .un, .un, .un, .un, .un, .un, .un, .un, .un, .un, .un, .un, .un, .un, .un, .un, .un], [], 0, 0, []⟩) (fun i => decide (xs = ys) = decide (xs.drop i = ys.drop i)) xs.length (fun i hi hH ih => ?_) 0 (Nat.zero_le _) (rfl))
   · (simp only [go_sem]; try rfl)
   refine .seq (.seq (.region ?_)); (iterate 3 refine .o ?_); refine .o (.nil (.xseq ?_)); refine .cs (fun h1 => ?_) (fun h1 => ?_)
   · have hlt : i < xs.length := by simpa using h1
     obtain ⟨x, hx, hdx⟩ := drop_cons hlt; obtain ⟨y, hy, hdy⟩ := drop_cons (show i < ys.length by omega)
     have hi0 : (0 : Int) ≤ (i : Int) := Int.natCast_nonneg i; have hw : IntKind.i64.wrap ((i : Int) + 1) = ((i + 1 : Nat) : Int) := by rw [w64 (by omega) (by omega)]; rfl
     refine .skip (.xseq (.seq (.block (.seq ?_))))
     refine .drawnK 10 [(0, false), (1, false), (2, false), (3, false), (4, false), (5, false), (6, false), (7, false), (8, false), (9, false)] mixed (by kernel_rfl) ?_
     (iterate 7 refine .o ?_); refine .o ?_; refine .cl (c_laws_eqItem x y) ?_; refine .o (.nil (.nil (.xseq ?_))); refine .cs (fun h2 => ?_) (fun h2 => ?_)
     · refine .seq (.region ?_); refine .o (.nil (.xseq (.ret (.rblk (.rseq (.rlp (.rblk (.rseq (.done ?_))))))))); refine .mk ?_; clear ih; (try simp only [Hb_iff] at *)
       rw [hH, hdx, hdy]; simp at h2; simp [h2]
     · refine .skip (.xblk (.xseq (.region ?_))); (iterate 2 refine .o ?_); refine .o (.nil ?_); refine .xlp (.cut [0, 1, 5] 0 (Nat.zero_le _) (.eq ?_ (ih (by assumption) ?_)))
       · (simp only [go_sem, Nat.reduceEqDiff, Nat.reduceLT, Nat.reduceLeDiff, Nat.reduceAdd, Nat.reduceSub, reduceCtorEq, *]; try rfl)
       · (rw [hH, hdx, hdy]; simp at h2; simp [h2])
   · refine .exit (.eseq (.elp (.eblk (.xseq (.seq (.region ?_)))))); refine .o (.nil (.xseq (.ret (.done ?_)))); refine .mk ?_; (try simp only [Hb_iff] at *)
     have : xs.length ≤ i := by simpa using h1
     rw [hH, List.drop_of_length_le this, List.drop_of_length_le (by omega)]; rfl

theorem c_laws_eqWaiter (x y : Waiter) : FnC Tryz.prog TA false 332 [.agg (eWaiter x), .agg (eWaiter y)] [] (.sc (.bool (decide (x = y)))) [] := by
 refine .ini Tryz.ntmps332 Tryz.results332 ?_; refine .seq (.region ?_); (iterate 2 refine .o ?_); refine .o (.nil (.xseq (.seq (.seq (.region ?_))))); (iterate 4 refine .o ?_)
 refine .o (.nil (.xseq ?_)); refine .cs (fun h0 => ?_) (fun h0 => ?_)
 · refine .seq (.region ?_); refine .o (.nil (.xseq (.ret (.rseq (.done ?_))))); refine .mk ?_; (try simp only [Hb_iff] at *); cases x; cases y; simp at *; simp [*]
 · refine .skip (.xseq (.seq (.seq (.region ?_)))); (iterate 4 refine .o ?_); refine .o (.nil (.xseq ?_)); refine .cs (fun h1 => ?_) (fun h1 => ?_)
   · refine .seq (.region ?_); refine .o (.nil (.xseq (.ret (.rseq (.done ?_))))); refine .mk ?_; (try simp only [Hb_iff] at *); cases x; cases y; simp at *; simp [*]
   · refine .skip (.xseq (.seq (.seq (.region ?_)))); (iterate 4 refine .o ?_); refine .o (.nil (.xseq ?_)); refine .cs (fun h2 => ?_) (fun h2 => ?_)
     · refine .seq (.region ?_); refine .o (.nil (.xseq (.ret (.rseq (.done ?_))))); refine .mk ?_; (try simp only [Hb_iff] at *); cases x; cases y; simp at *; simp [*]
     · refine .skip (.xseq (.seq (.region ?_))); refine .o (.nil (.xseq (.ret (.done ?_)))); refine .mk ?_; (try simp only [Hb_iff] at *); cases x; cases y; simp at *; simp [*]

theorem c_laws_eqWaiterS (xs ys : List Waiter) : FnC Tryz.prog TA false 289 [.ls .o 62 (xs.map eWaiter), .ls .o 62 (ys.map eWaiter)] [] (.sc (.bool (decide (xs = ys)))) [] := by
 refine .ini Tryz.ntmps289 Tryz.results289 ?_; refine .bound 0 rfl fun hb => ?_; rw [List.length_map, mxl] at hb; refine .seq (.region ?_)
 refine .o (.nil (.xseq (.seq (.seq (.region ?_))))); (iterate 4 refine .o ?_); refine .o (.nil (.xseq ?_)); refine .cs (fun h0 => ?_) (fun h0 => ?_)
 · refine .seq (.region ?_); refine .o (.nil (.xseq (.ret (.rseq (.done ?_))))); refine .mk ?_; (try simp only [Hb_iff] at *); have : ¬ xs = ys := by rintro rfl; simp at h0
   simp [this]
 · have hlen : ys.length = xs.length := by simp at h0; omega
   refine .skip (.xseq (.seq (.seq (.region ?_)))); refine .o (.nil (.xseq (.block (.loop ?_)))); refine .cut [0, 1, 5] 0 (Nat.zero_le _) ?_
   refine .eq ?_ (Go.iterH (fun i => ⟨[.ls .a 62 (xs.map eWaiter), .ls .a 62 (ys.map eWaiter), .un, .un, .un, .sc (.int .i64 (i : Nat)), .un, .un, .un, .un, .un, .un, .un, .un, .un, .un, .un, .un, .un, .un, .un, .un, .un, .un, .un, .un, .un], [], 0, 0, []⟩) (fun i => decide (xs = ys) = decide (xs.drop i = ys.drop i)) xs.length (fun i hi hH ih => ?_) 0 (Nat.zero_le _) (rfl))
   · (simp only [go_sem]; try rfl)
   refine .seq (.seq (.region ?_)); (iterate 3 refine .o ?_); refine .o (.nil (.xseq ?_)); refine .cs (fun h1 => ?_) (fun h1 => ?_)
   · have hlt : i < xs.length := by simpa using h1
     obtain ⟨x, hx, hdx⟩ := drop_cons hlt; obtain ⟨y, hy, hdy⟩ := drop_cons (show i < ys.length by omega)
     have hi0 : (0 : Int) ≤ (i : Int) := Int.natCast_nonneg i; have hw : IntKind.i64.wrap ((i : Int) + 1) = ((i + 1 : Nat) : Int) := by rw [w64 (by omega) (by omega)]; rfl
     refine .skip (.xseq (.seq (.block (.seq ?_))))
     refine .drawnK 10 [(0, false), (1, false), (2, false), (3, false), (4, false), (5, false), (6, false), (7, false), (8, false), (9, false)] mixed (by kernel_rfl) ?_
     (iterate 7 refine .o ?_); refine .o ?_; refine .cl (c_laws_eqWaiter x y) ?_; refine .o (.nil (.nil (.xseq ?_))); refine .cs (fun h2 => ?_) (fun h2 => ?_)
     · refine .seq (.region ?_); refine .o (.nil (.xseq (.ret (.rblk (.rseq (.rlp (.rblk (.rseq (.done ?_))))))))); refine .mk ?_; clear ih; (try simp only [Hb_iff] at *)
       rw [hH, hdx, hdy]; simp at h2; simp [h2]
     · refine .skip (.xblk (.xseq (.region ?_))); (iterate 2 refine .o ?_); refine .o (.nil ?_); refine .xlp (.cut [0, 1, 5] 0 (Nat.zero_le _) (.eq ?_ (ih (by assumption) ?_)))
       · (simp only [go_sem, Nat.reduceEqDiff, Nat.reduceLT, Nat.reduceLeDiff, Nat.reduceAdd, Nat.reduceSub, reduceCtorEq, *]; try rfl)
       · (rw [hH, hdx, hdy]; simp at h2; simp [h2])
   · refine .exit (.eseq (.elp (.eblk (.xseq (.seq (.region ?_)))))); refine .o (.nil (.xseq (.ret (.done ?_)))); refine .mk ?_; (try simp only [Hb_iff] at *)
     have : xs.length ≤ i := by simpa using h1
     rw [hH, List.drop_of_length_le this, List.drop_of_length_le (by omega)]; rfl

theorem c_laws_eqSelect (x y : Select) : FnC Tryz.prog TA false 180 [.agg (eSelI x), .agg (eSelI y)] [] (.sc (.bool (decide (x = y)))) [] := by
 refine .ini Tryz.ntmps180 Tryz.results180 ?_; refine .seq (.region ?_); (iterate 2 refine .o ?_); refine .o (.nil (.xseq (.seq (.seq (.region ?_))))); (iterate 3 refine .o ?_)
 refine .o ?_; refine .cl (c_laws_eqCaseS x.cases y.cases) ?_; refine .o (.nil (.xseq ?_)); refine .cs (fun h0 => ?_) (fun h0 => ?_)
 · refine .seq (.region ?_); refine .o (.nil (.xseq (.ret (.rseq (.done ?_))))); refine .mk ?_; (try simp only [Hb_iff] at *); cases x; cases y; simp at *; simp [*]
 · refine .skip (.xseq (.seq (.seq (.region ?_)))); (iterate 4 refine .o ?_); refine .o (.nil (.xseq ?_)); refine .cs (fun h1 => ?_) (fun h1 => ?_)
   · refine .seq (.region ?_); refine .o (.nil (.xseq (.ret (.rseq (.done ?_))))); refine .mk ?_; (try simp only [Hb_iff] at *); cases x; cases y; simp at *; simp [*]
   · refine .skip (.xseq (.seq (.region ?_))); refine .o (.nil (.xseq (.ret (.done ?_)))); refine .mk ?_; (try simp only [Hb_iff] at *); cases x; cases y; simp at *; simp [*]

theorem c_laws_eqProc (x y : Proc) : FnC Tryz.prog TA false 181 [.agg (eProcI x), .agg (eProcI y)] [] (.sc (.bool (decide (x = y)))) [] := by
 refine .ini Tryz.ntmps181 Tryz.results181 ?_; refine .seq (.region ?_); (iterate 2 refine .o ?_); refine .o (.nil (.xseq (.seq (.seq (.region ?_))))); (iterate 3 refine .o ?_)
 refine .o ?_; refine .cl (c_laws_eqInstrS x.code y.code) ?_; refine .o (.nil (.xseq ?_)); refine .cs (fun h0 => ?_) (fun h0 => ?_)
 · refine .seq (.region ?_); refine .o (.nil (.xseq (.ret (.rseq (.done ?_))))); refine .mk ?_; (try simp only [Hb_iff] at *); cases x; cases y; simp at *; simp [*]
 · refine .skip (.xseq (.seq (.region ?_))); refine .o (.nil (.xseq (.ret (.done ?_)))); refine .mk ?_; (try simp only [Hb_iff] at *); cases x; cases y; simp at *; simp [*]

theorem c_laws_eqMutex (x y : Mutex) : FnC Tryz.prog TA false 184 [.agg (eMutexI x), .agg (eMutexI y)] [] (.sc (.bool (decide (x = y)))) [] := by
 refine .ini Tryz.ntmps184 Tryz.results184 ?_; refine .seq (.region ?_); (iterate 2 refine .o ?_); refine .o (.nil (.xseq (.seq (.seq (.region ?_))))); (iterate 4 refine .o ?_)
 refine .o (.nil (.xseq ?_)); refine .cs (fun h0 => ?_) (fun h0 => ?_)
 · refine .seq (.region ?_); refine .o (.nil (.xseq (.ret (.rseq (.done ?_))))); refine .mk ?_; (try simp only [Hb_iff] at *); cases x; cases y; simp at *; simp [*]
 · refine .skip (.xseq (.seq (.seq (.region ?_)))); (iterate 3 refine .o ?_); refine .o ?_; refine .cl (c_laws_eqIntS x.wait y.wait) ?_; refine .o (.nil (.xseq ?_))
   refine .cs (fun h1 => ?_) (fun h1 => ?_)
   · refine .seq (.region ?_); refine .o (.nil (.xseq (.ret (.rseq (.done ?_))))); refine .mk ?_; (try simp only [Hb_iff] at *); cases x; cases y; simp at *; simp [*]
   · refine .skip (.xseq (.seq (.region ?_))); refine .o (.nil (.xseq (.ret (.done ?_)))); refine .mk ?_; (try simp only [Hb_iff] at *); cases x; cases y; simp at *; simp [*]

theorem c_laws_eqGor (x y : Gor) : FnC Tryz.prog TA false 182 [.agg (eGorI x), .agg (eGorI y)] [] (.sc (.bool (decide (x = y)))) [] := by
 refine .ini Tryz.ntmps182 Tryz.results182 ?_; refine .seq (.region ?_); (iterate 2 refine .o ?_); refine .o (.nil (.xseq (.seq (.seq (.region ?_))))); (iterate 4 refine .o ?_)
 refine .o (.nil (.xseq ?_)); refine .cs (fun h0 => ?_) (fun h0 => ?_)
 · refine .seq (.region ?_); refine .o (.nil (.xseq (.ret (.rseq (.done ?_))))); refine .mk ?_; (try simp only [Hb_iff] at *); cases x; cases y; simp at *; simp [*]
 · refine .skip (.xseq (.seq (.seq (.region ?_)))); (iterate 4 refine .o ?_); refine .o (.nil (.xseq ?_)); refine .cs (fun h1 => ?_) (fun h1 => ?_)
   · refine .seq (.region ?_); refine .o (.nil (.xseq (.ret (.rseq (.done ?_))))); refine .mk ?_; (try simp only [Hb_iff] at *); cases x; cases y; simp at *; simp [*]
   · refine .skip (.xseq (.seq (.seq (.region ?_)))); (iterate 3 refine .o ?_); refine .o ?_; refine .cl (c_laws_eqIntS x.regs y.regs) ?_; refine .o (.nil (.xseq ?_))
     refine .cs (fun h2 => ?_) (fun h2 => ?_)
     · refine .seq (.region ?_); refine .o (.nil (.xseq (.ret (.rseq (.done ?_))))); refine .mk ?_; (try simp only [Hb_iff] at *); cases x; cases y; simp at *; simp [*]
     · refine .skip (.xseq (.seq (.seq (.region ?_)))); (iterate 4 refine .o ?_); refine .o (.nil (.xseq ?_)); refine .cs (fun h3 => ?_) (fun h3 => ?_)
       · refine .seq (.region ?_); refine .o (.nil (.xseq (.ret (.rseq (.done ?_))))); refine .mk ?_; (try simp only [Hb_iff] at *); cases x; cases y; simp at *; simp [*]
       · refine .skip (.xseq (.seq (.seq (.region ?_)))); (iterate 3 refine .o ?_); refine .o ?_; refine .cl (c_laws_eqItemS x.trace y.trace) ?_; refine .o (.nil (.xseq ?_))
         refine .cs (fun h4 => ?_) (fun h4 => ?_)
         · refine .seq (.region ?_); refine .o (.nil (.xseq (.ret (.rseq (.done ?_))))); refine .mk ?_; (try simp only [Hb_iff] at *); cases x; cases y; simp at *; simp [*]
         · refine .skip (.xseq (.seq (.region ?_))); refine .o (.nil (.xseq (.ret (.done ?_)))); refine .mk ?_; (try simp only [Hb_iff] at *); cases x; cases y; simp at *; simp [*]

theorem c_laws_eqChan (x y : Chan) : FnC Tryz.prog TA false 183 [.agg (eChanI x), .agg (eChanI y)] [] (.sc (.bool (decide (x = y)))) [] := by
 refine .ini Tryz.ntmps183 Tryz.results183 ?_; refine .seq (.region ?_); (iterate 2 refine .o ?_); refine .o (.nil (.xseq (.seq (.seq (.region ?_))))); (iterate 4 refine .o ?_)
 refine .o (.nil (.xseq ?_)); refine .cs (fun h0 => ?_) (fun h0 => ?_)
 · refine .seq (.region ?_); refine .o (.nil (.xseq (.ret (.rseq (.done ?_))))); refine .mk ?_; (try simp only [Hb_iff] at *); cases x; cases y; simp at *; simp [*]
 · refine .skip (.xseq (.seq (.seq (.region ?_)))); (iterate 3 refine .o ?_); refine .o ?_; refine .cl (c_laws_eqIntS x.buf y.buf) ?_; refine .o (.nil (.xseq ?_))
   refine .cs (fun h1 => ?_) (fun h1 => ?_)
   · refine .seq (.region ?_); refine .o (.nil (.xseq (.ret (.rseq (.done ?_))))); refine .mk ?_; (try simp only [Hb_iff] at *); cases x; cases y; simp at *; simp [*]
   · refine .skip (.xseq (.seq (.seq (.region ?_)))); (iterate 3 refine .o ?_); refine .o ?_; refine .cl (c_laws_eqWaiterS x.sends y.sends) ?_; refine .o (.nil (.xseq ?_))
     refine .cs (fun h2 => ?_) (fun h2 => ?_)
     · refine .seq (.region ?_); refine .o (.nil (.xseq (.ret (.rseq (.done ?_))))); refine .mk ?_; (try simp only [Hb_iff] at *); cases x; cases y; simp at *; simp [*]
     · refine .skip (.xseq (.seq (.seq (.region ?_)))); (iterate 3 refine .o ?_); refine .o ?_; refine .cl (c_laws_eqWaiterS x.recvs y.recvs) ?_; refine .o (.nil (.xseq ?_))
       refine .cs (fun h3 => ?_) (fun h3 => ?_)
       · refine .seq (.region ?_); refine .o (.nil (.xseq (.ret (.rseq (.done ?_))))); refine .mk ?_; (try simp only [Hb_iff] at *); cases x; cases y; simp at *; simp [*]
       · refine .skip (.xseq (.seq (.seq (.region ?_)))); (iterate 4 refine .o ?_); refine .o (.nil (.xseq ?_)); refine .cs (fun h4 => ?_) (fun h4 => ?_)
         · refine .seq (.region ?_); refine .o (.nil (.xseq (.ret (.rseq (.done ?_))))); refine .mk ?_; (try simp only [Hb_iff] at *); cases x; cases y; simp at *; simp [*]
         · refine .skip (.xseq (.seq (.region ?_))); refine .o (.nil (.xseq (.ret (.done ?_)))); refine .mk ?_; (try simp only [Hb_iff] at *); cases x; cases y; simp at *; simp [*]

theorem c_laws_eqSelectS (xs ys : List Select) : FnC Tryz.prog TA false 98 [.ls .o 144 (xs.map eSelI), .ls .o 144 (ys.map eSelI)] [] (.sc (.bool (decide (xs = ys)))) [] := by
 refine .ini Tryz.ntmps98 Tryz.results98 ?_; refine .bound 0 rfl fun hb => ?_; rw [List.length_map, mxl] at hb; refine .seq (.region ?_)
 refine .o (.nil (.xseq (.seq (.seq (.region ?_))))); (iterate 4 refine .o ?_); refine .o (.nil (.xseq ?_)); refine .cs (fun h0 => ?_) (fun h0 => ?_)
 · refine .seq (.region ?_); refine .o (.nil (.xseq (.ret (.rseq (.done ?_))))); refine .mk ?_; (try simp only [Hb_iff] at *); have : ¬ xs = ys := by rintro rfl; simp at h0
   simp [this]
 · have hlen : ys.length = xs.length := by simp at h0; omega
   refine .skip (.xseq (.seq (.seq (.region ?_)))); refine .o (.nil (.xseq (.block (.loop ?_)))); refine .cut [0, 1, 5] 0 (Nat.zero_le _) ?_
   refine .eq ?_ (Go.iterH (fun i => ⟨[.ls .a 144 (xs.map eSelI), .ls .a 144 (ys.map eSelI), .un, .un, .un, .sc (.int .i64 (i : Nat)), .un, .un, .un, .un, .un, .un, .un, .un, .un, .un, .un, .un, .un, .un, .un, .un, .un, .un, .un, .un, .un], [], 0, 0, []⟩) (fun i => decide (xs = ys) = decide (xs.drop i = ys.drop i)) xs.length (fun i hi hH ih => ?_) 0 (Nat.zero_le _) (rfl))
   · (simp only [go_sem]; try rfl)
   refine .seq (.seq (.region ?_)); (iterate 3 refine .o ?_); refine .o (.nil (.xseq ?_)); refine .cs (fun h1 => ?_) (fun h1 => ?_)
   · have hlt : i < xs.length := by simpa using h1
     obtain ⟨x, hx, hdx⟩ := drop_cons hlt; obtain ⟨y, hy, hdy⟩ := drop_cons (show i < ys.length by omega)
     have hi0 : (0 : Int) ≤ (i : Int) := Int.natCast_nonneg i; have hw : IntKind.i64.wrap ((i : Int) + 1) = ((i + 1 : Nat) : Int) := by rw [w64 (by omega) (by omega)]; rfl
     refine .skip (.xseq (.seq (.block (.seq ?_))))
     refine .drawnK 10 [(0, false), (1, false), (2, false), (3, false), (4, false), (5, false), (6, false), (7, false), (8, false), (9, false)] mixed (by kernel_rfl) ?_
     (iterate 7 refine .o ?_); refine .o ?_; refine .cl (c_laws_eqSelect x y) ?_; refine .o (.nil (.nil (.xseq ?_))); refine .cs (fun h2 => ?_) (fun h2 => ?_)
     · refine .seq (.region ?_); refine .o (.nil (.xseq (.ret (.rblk (.rseq (.rlp (.rblk (.rseq (.done ?_))))))))); refine .mk ?_; clear ih; (try simp only [Hb_iff] at *)
       rw [hH, hdx, hdy]; simp at h2; simp [h2]
     · refine .skip (.xblk (.xseq (.region ?_))); (iterate 2 refine .o ?_); refine .o (.nil ?_); refine .xlp (.cut [0, 1, 5] 0 (Nat.zero_le _) (.eq ?_ (ih (by assumption) ?_)))
       · (simp only [go_sem, Nat.reduceEqDiff, Nat.reduceLT, Nat.reduceLeDiff, Nat.reduceAdd, Nat.reduceSub, reduceCtorEq, *]; try rfl)
       · (rw [hH, hdx, hdy]; simp at h2; simp [h2])
   · refine .exit (.eseq (.elp (.eblk (.xseq (.seq (.region ?_)))))); refine .o (.nil (.xseq (.ret (.done ?_)))); refine .mk ?_; (try simp only [Hb_iff] at *)
     have : xs.length ≤ i := by simpa using h1
     rw [hH, List.drop_of_length_le this, List.drop_of_length_le (by omega)]; rfl

theorem c_laws_eqProcS (xs ys : List Proc) : FnC Tryz.prog TA false 99 [.ls .o 204 (xs.map eProcI), .ls .o 204 (ys.map eProcI)] [] (.sc (.bool (decide (xs = ys)))) [] := by
 refine .ini Tryz.ntmps99 Tryz.results99 ?_; refine .bound 0 rfl fun hb => ?_; rw [List.length_map, mxl] at hb; refine .seq (.region ?_)
 refine .o (.nil (.xseq (.seq (.seq (.region ?_))))); (iterate 4 refine .o ?_); refine .o (.nil (.xseq ?_)); refine .cs (fun h0 => ?_) (fun h0 => ?_)
 · refine .seq (.region ?_); refine .o (.nil (.xseq (.ret (.rseq (.done ?_))))); refine .mk ?_; (try simp only [Hb_iff] at *); have : ¬ xs = ys := by rintro rfl; simp at h0
   simp [this]
 · have hlen : ys.length = xs.length := by simp at h0; omega
   refine .skip (.xseq (.seq (.seq (.region ?_)))); refine .o (.nil (.xseq (.block (.loop ?_)))); refine .cut [0, 1, 5] 0 (Nat.zero_le _) ?_
   refine .eq ?_ (Go.iterH (fun i => ⟨[.ls .a 204 (xs.map eProcI), .ls .a 204 (ys.map eProcI), .un, .un, .un, .sc (.int .i64 (i : Nat)), .un, .un, .un, .un, .un, .un, .un, .un, .un, .un, .un, .un, .un, .un, .un, .un, .un, .un, .un, .un, .un], [], 0, 0, []⟩) (fun i => decide (xs = ys) = decide (xs.drop i = ys.drop i)) xs.length (fun i hi hH ih => ?_) 0 (Nat.zero_le _) (rfl))
   · (simp only [go_sem]; try rfl)
   refine .seq (.seq (.region ?_)); (iterate 3 refine .o ?_); refine .o (.nil (.xseq ?_)); refine .cs (fun h1 => ?_) (fun h1 => ?_)
   · have hlt : i < xs.length := by simpa using h1
     obtain ⟨x, hx, hdx⟩ := drop_cons hlt; obtain ⟨y, hy, hdy⟩ := drop_cons (show i < ys.length by omega)
     have hi0 : (0 : Int) ≤ (i : Int) := Int.natCast_nonneg i; have hw : IntKind.i64.wrap ((i : Int) + 1) = ((i + 1 : Nat) : Int) := by rw [w64 (by omega) (by omega)]; rfl
     refine .skip (.xseq (.seq (.block (.seq ?_))))
     refine .drawnK 10 [(0, false), (1, false), (2, false), (3, false), (4, false), (5, false), (6, false), (7, false), (8, false), (9, false)] mixed (by kernel_rfl) ?_
     (iterate 7 refine .o ?_); refine .o ?_; refine .cl (c_laws_eqProc x y) ?_; refine .o (.nil (.nil (.xseq ?_))); refine .cs (fun h2 => ?_) (fun h2 => ?_)
     · refine .seq (.region ?_); refine .o (.nil (.xseq (.ret (.rblk (.rseq (.rlp (.rblk (.rseq (.done ?_))))))))); refine .mk ?_; clear ih; (try simp only [Hb_iff] at *)
       rw [hH, hdx, hdy]; simp at h2; simp [h2]
     · refine .skip (.xblk (.xseq (.region ?_))); (iterate 2 refine .o ?_); refine .o (.nil ?_); refine .xlp (.cut [0, 1, 5] 0 (Nat.zero_le _) (.eq ?_ (ih (by assumption) ?_)))
       · (simp only [go_sem, Nat.reduceEqDiff, Nat.reduceLT, Nat.reduceLeDiff, Nat.reduceAdd, Nat.reduceSub, reduceCtorEq, *]; try rfl)
       · (rw [hH, hdx, hdy]; simp at h2; simp [h2])
   · refine .exit (.eseq (.elp (.eblk (.xseq (.seq (.region ?_)))))); refine .o (.nil (.xseq (.ret (.done ?_)))); refine .mk ?_; (try simp only [Hb_iff] at *)
     have : xs.length ≤ i := by simpa using h1
     rw [hH, List.drop_of_length_le this, List.drop_of_length_le (by omega)]; rfl

theorem c_laws_eqMutexS (xs ys : List Mutex) : FnC Tryz.prog TA false 102 [.ls .o 141 (xs.map eMutexI), .ls .o 141 (ys.map eMutexI)] [] (.sc (.bool (decide (xs = ys)))) [] := by
 refine .ini Tryz.ntmps102 Tryz.results102 ?_; refine .bound 0 rfl fun hb => ?_; rw [List.length_map, mxl] at hb; refine .seq (.region ?_)
 refine .o (.nil (.xseq (.seq (.seq (.region ?_))))); (iterate 4 refine .o ?_); refine .o (.nil (.xseq ?_)); refine .cs (fun h0 => ?_) (fun h0 => ?_)
 · refine .seq (.region ?_); refine .o (.nil (.xseq (.ret (.rseq (.done ?_))))); refine .mk ?_; (try simp only [Hb_iff] at *); have : ¬ xs = ys := by rintro rfl; simp at h0
   simp [this]
 · have hlen : ys.length = xs.length := by simp at h0; omega
   refine .skip (.xseq (.seq (.seq (.region ?_)))); refine .o (.nil (.xseq (.block (.loop ?_)))); refine .cut [0, 1, 5] 0 (Nat.zero_le _) ?_
   refine .eq ?_ (Go.iterH (fun i => ⟨[.ls .a 141 (xs.map eMutexI), .ls .a 141 (ys.map eMutexI), .un, .un, .un, .sc (.int .i64 (i : Nat)), .un, .un, .un, .un, .un, .un, .un, .un, .un, .un, .un, .un, .un, .un, .un, .un, .un, .un, .un, .un, .un], [], 0, 0, []⟩) (fun i => decide (xs = ys) = decide (xs.drop i = ys.drop i)) xs.length (fun i hi hH ih => ?_) 0 (Nat.zero_le _) (rfl))
   · (simp only [go_sem]; try rfl)
   refine .seq (.seq (.region ?_)); (iterate 3 refine .o ?_); refine .o (.nil (.xseq ?_)); refine .cs (fun h1 => ?_) (fun h1 => ?_)
   · have hlt : i < xs.length := by simpa using h1
     obtain ⟨x, hx, hdx⟩ := drop_cons hlt; obtain ⟨y, hy, hdy⟩ := drop_cons (show i < ys.length by omega)
     have hi0 : (0 : Int) ≤ (i : Int) := Int.natCast_nonneg i; have hw : IntKind.i64.wrap ((i : Int) + 1) = ((i + 1 : Nat) : Int) := by rw [w64 (by omega) (by omega)]; rfl
     refine .skip (.xseq (.seq (.block (.seq ?_))))
     refine .drawnK 10 [(0, false), (1, false), (2, false), (3, false), (4, false), (5, false), (6, false), (7, false), (8, false), (9, false)] mixed (by kernel_rfl) ?_
     (iterate 7 refine .o ?_); refine .o ?_; refine .cl (c_laws_eqMutex x y) ?_; refine .o (.nil (.nil (.xseq ?_))); refine .cs (fun h2 => ?_) (fun h2 => ?_)
     · refine .seq (.region ?_); refine .o (.nil (.xseq (.ret (.rblk (.rseq (.rlp (.rblk (.rseq (.done ?_))))))))); refine .mk ?_; clear ih; (try simp only [Hb_iff] at *)
       rw [hH, hdx, hdy]; simp at h2; simp [h2]
     · refine .skip (.xblk (.xseq (.region ?_))); (iterate 2 refine .o ?_); refine .o (.nil ?_); refine .xlp (.cut [0, 1, 5] 0 (Nat.zero_le _) (.eq ?_ (ih (by assumption) ?_)))
       · (simp only [go_sem, Nat.reduceEqDiff, Nat.reduceLT, Nat.reduceLeDiff, Nat.reduceAdd, Nat.reduceSub, reduceCtorEq, *]; try rfl)
       · (rw [hH, hdx, hdy]; simp at h2; simp [h2])
   · refine .exit (.eseq (.elp (.eblk (.xseq (.seq (.region ?_)))))); refine .o (.nil (.xseq (.ret (.done ?_)))); refine .mk ?_; (try simp only [Hb_iff] at *)
     have : xs.length ≤ i := by simpa using h1
     rw [hH, List.drop_of_length_le this, List.drop_of_length_le (by omega)]; rfl

theorem c_laws_eqGorS (xs ys : List Gor) : FnC Tryz.prog TA false 100 [.ls .o 136 (xs.map eGorI), .ls .o 136 (ys.map eGorI)] [] (.sc (.bool (decide (xs = ys)))) [] := by
 refine .ini Tryz.ntmps100 Tryz.results100 ?_; refine .bound 0 rfl fun hb => ?_; rw [List.length_map, mxl] at hb; refine .seq (.region ?_)
 refine .o (.nil (.xseq (.seq (.seq (.region ?_))))); (iterate 4 refine .o ?_); refine .o (.nil (.xseq ?_)); refine .cs (fun h0 => ?_) (fun h0 => ?_)
 · refine .seq (.region ?_); refine .o (.nil (.xseq (.ret (.rseq (.done ?_))))); refine .mk ?_; (try simp only [Hb_iff] at *); have : ¬ xs = ys := by rintro rfl; simp at h0
   simp [this]
 · have hlen : ys.length = xs.length := by simp at h0; omega
   refine .skip (.xseq (.seq (.seq (.region ?_)))); refine .o (.nil (.xseq (.block (.loop ?_)))); refine .cut [0, 1, 5] 0 (Nat.zero_le _) ?_
   refine .eq ?_ (Go.iterH (fun i => ⟨[.ls .a 136 (xs.map eGorI), .ls .a 136 (ys.map eGorI), .un, .un, .un, .sc (.int .i64 (i : Nat)), .un, .un, .un, .un, .un, .un, .un, .un, .un, .un, .un, .un, .un, .un, .un, .un, .un, .un, .un, .un, .un], [], 0, 0, []⟩) (fun i => decide (xs = ys) = decide (xs.drop i = ys.drop i)) xs.length (fun i hi hH ih => ?_) 0 (Nat.zero_le _) (rfl))
   · (simp only [go_sem]; try rfl)
   refine .seq (.seq (.region ?_)); (iterate 3 refine .o ?_); refine .o (.nil (.xseq ?_)); refine .cs (fun h1 => ?_) (fun h1 => ?_)
   · have hlt : i < xs.length := by simpa using h1
     obtain ⟨x, hx, hdx⟩ := drop_cons hlt; obtain ⟨y, hy, hdy⟩ := drop_cons (show i < ys.length by omega)
     have hi0 : (0 : Int) ≤ (i : Int) := Int.natCast_nonneg i; have hw : IntKind.i64.wrap ((i : Int) + 1) = ((i + 1 : Nat) : Int) := by rw [w64 (by omega) (by omega)]; rfl
     refine .skip (.xseq (.seq (.block (.seq ?_))))
     refine .drawnK 10 [(0, false), (1, false), (2, false), (3, false), (4, false), (5, false), (6, false), (7, false), (8, false), (9, false)] mixed (by kernel_rfl) ?_
     (iterate 7 refine .o ?_); refine .o ?_; refine .cl (c_laws_eqGor x y) ?_; refine .o (.nil (.nil (.xseq ?_))); refine .cs (fun h2 => ?_) (fun h2 => ?_)
     · refine .seq (.region ?_); refine .o (.nil (.xseq (.ret (.rblk (.rseq (.rlp (.rblk (.rseq (.done ?_))))))))); refine .mk ?_; clear ih; (try simp only [Hb_iff] at *)
       rw [hH, hdx, hdy]; simp at h2; simp [h2]
     · refine .skip (.xblk (.xseq (.region ?_))); (iterate 2 refine .o ?_); refine .o (.nil ?_); refine .xlp (.cut [0, 1, 5] 0 (Nat.zero_le _) (.eq ?_ (ih (by assumption) ?_)))
       · (simp only [go_sem, Nat.reduceEqDiff, Nat.reduceLT, Nat.reduceLeDiff, Nat.reduceAdd, Nat.reduceSub, reduceCtorEq, *]; try rfl)
       · (rw [hH, hdx, hdy]; simp at h2; simp [h2])
   · refine .exit (.eseq (.elp (.eblk (.xseq (.seq (.region ?_)))))); refine .o (.nil (.xseq (.ret (.done ?_)))); refine .mk ?_; (try simp only [Hb_iff] at *)
     have : xs.length ≤ i := by simpa using h1
     rw [hH, List.drop_of_length_le this, List.drop_of_length_le (by omega)]; rfl

theorem c_laws_eqChanS (xs ys : List Chan) : FnC Tryz.prog TA false 101 [.ls .o 209 (xs.map eChanI), .ls .o 209 (ys.map eChanI)] [] (.sc (.bool (decide (xs = ys)))) [] := by
 refine .ini Tryz.ntmps101 Tryz.results101 ?_; refine .bound 0 rfl fun hb => ?_; rw [List.length_map, mxl] at hb; refine .seq (.region ?_)
 refine .o (.nil (.xseq (.seq (.seq (.region ?_))))); (iterate 4 refine .o ?_); refine .o (.nil (.xseq ?_)); refine .cs (fun h0 => ?_) (fun h0 => ?_)
 · refine .seq (.region ?_); refine .o (.nil (.xseq (.ret (.rseq (.done ?_))))); refine .mk ?_; (try simp only [Hb_iff] at *); have : ¬ xs = ys := by rintro rfl; simp at h0
   simp [this]
 · have hlen : ys.length = xs.length := by simp at h0; omega
   refine .skip (.xseq (.seq (.seq (.region ?_)))); refine .o (.nil (.xseq (.block (.loop ?_)))); refine .cut [0, 1, 5] 0 (Nat.zero_le _) ?_
   refine .eq ?_ (Go.iterH (fun i => ⟨[.ls .a 209 (xs.map eChanI), .ls .a 209 (ys.map eChanI), .un, .un, .un, .sc (.int .i64 (i : Nat)), .un, .un, .un, .un, .un, .un, .un, .un, .un, .un, .un, .un, .un, .un, .un, .un, .un, .un, .un, .un, .un], [], 0, 0, []⟩) (fun i => decide (xs = ys) = decide (xs.drop i = ys.drop i)) xs.length (fun i hi hH ih => ?_) 0 (Nat.zero_le _) (rfl))
   · (simp only [go_sem]; try rfl)
   refine .seq (.seq (.region ?_)); (iterate 3 refine .o ?_); refine .o (.nil (.xseq ?_)); refine .cs (fun h1 => ?_) (fun h1 => ?_)
   · have hlt : i < xs.length := by simpa using h1
     obtain ⟨x, hx, hdx⟩ := drop_cons hlt; obtain ⟨y, hy, hdy⟩ := drop_cons (show i < ys.length by omega)
     have hi0 : (0 : Int) ≤ (i : Int) := Int.natCast_nonneg i; have hw : IntKind.i64.wrap ((i : Int) + 1) = ((i + 1 : Nat) : Int) := by rw [w64 (by omega) (by omega)]; rfl
     refine .skip (.xseq (.seq (.block (.seq ?_))))
     refine .drawnK 10 [(0, false), (1, false), (2, false), (3, false), (4, false), (5, false), (6, false), (7, false), (8, false), (9, false)] mixed (by kernel_rfl) ?_
     (iterate 7 refine .o ?_); refine .o ?_; refine .cl (c_laws_eqChan x y) ?_; refine .o (.nil (.nil (.xseq ?_))); refine .cs (fun h2 => ?_) (fun h2 => ?_)
     · refine .seq (.region ?_); refine .o (.nil (.xseq (.ret (.rblk (.rseq (.rlp (.rblk (.rseq (.done ?_))))))))); refine .mk ?_; clear ih; (try simp only [Hb_iff] at *)
       rw [hH, hdx, hdy]; simp at h2; simp [h2]
     · refine .skip (.xblk (.xseq (.region ?_))); (iterate 2 refine .o ?_); refine .o (.nil ?_); refine .xlp (.cut [0, 1, 5] 0 (Nat.zero_le _) (.eq ?_ (ih (by assumption) ?_)))
       · (simp only [go_sem, Nat.reduceEqDiff, Nat.reduceLT, Nat.reduceLeDiff, Nat.reduceAdd, Nat.reduceSub, reduceCtorEq, *]; try rfl)
       · (rw [hH, hdx, hdy]; simp at h2; simp [h2])
   · refine .exit (.eseq (.elp (.eblk (.xseq (.seq (.region ?_)))))); refine .o (.nil (.xseq (.ret (.done ?_)))); refine .mk ?_; (try simp only [Hb_iff] at *)
     have : xs.length ≤ i := by simpa using h1
     rw [hH, List.drop_of_length_le this, List.drop_of_length_le (by omega)]; rfl

theorem c_laws_eqProg (x y : Prog) : FnC Tryz.prog TA false 25 [.agg (eProgI x), .agg (eProgI y)] [] (.sc (.bool (decide (x = y)))) [] := by
 refine .ini Tryz.ntmps25 Tryz.results25 ?_; refine .seq (.region ?_); (iterate 2 refine .o ?_); refine .o (.nil (.xseq (.seq (.seq (.region ?_))))); (iterate 3 refine .o ?_)
 refine .o ?_; refine .cl (c_laws_eqIntS x.caps y.caps) ?_; refine .o (.nil (.xseq ?_)); refine .cs (fun h0 => ?_) (fun h0 => ?_)
 · refine .seq (.region ?_); refine .o (.nil (.xseq (.ret (.rseq (.done ?_))))); refine .mk ?_; (try simp only [Hb_iff] at *); cases x; cases y; simp at *; simp [*]
 · refine .skip (.xseq (.seq (.seq (.region ?_)))); (iterate 4 refine .o ?_); refine .o (.nil (.xseq ?_)); refine .cs (fun h1 => ?_) (fun h1 => ?_)
   · refine .seq (.region ?_); refine .o (.nil (.xseq (.ret (.rseq (.done ?_))))); refine .mk ?_; (try simp only [Hb_iff] at *); cases x; cases y; simp at *; simp [*]
   · refine .skip (.xseq (.seq (.seq (.region ?_)))); (iterate 3 refine .o ?_); refine .o ?_; refine .cl (c_laws_eqSelectS x.sels y.sels) ?_; refine .o (.nil (.xseq ?_))
     refine .cs (fun h2 => ?_) (fun h2 => ?_)
     · refine .seq (.region ?_); refine .o (.nil (.xseq (.ret (.rseq (.done ?_))))); refine .mk ?_; (try simp only [Hb_iff] at *); cases x; cases y; simp at *; simp [*]
     · refine .skip (.xseq (.seq (.seq (.region ?_)))); (iterate 3 refine .o ?_); refine .o ?_; refine .cl (c_laws_eqProcS x.procs y.procs) ?_; refine .o (.nil (.xseq ?_))
       refine .cs (fun h3 => ?_) (fun h3 => ?_)
       · refine .seq (.region ?_); refine .o (.nil (.xseq (.ret (.rseq (.done ?_))))); refine .mk ?_; (try simp only [Hb_iff] at *); cases x; cases y; simp at *; simp [*]
       · refine .skip (.xseq (.seq (.region ?_))); refine .o (.nil (.xseq (.ret (.done ?_)))); refine .mk ?_; (try simp only [Hb_iff] at *); cases x; cases y; simp at *; simp [*]

theorem c_laws_eqEng (x y : Eng) : FnC Tryz.prog TA false 26 [.agg (eEngI x), .agg (eEngI y)] [] (.sc (.bool (decide (x = y)))) [] := by
 refine .ini Tryz.ntmps26 Tryz.results26 ?_; refine .seq (.region ?_); (iterate 2 refine .o ?_); refine .o (.nil (.xseq (.seq (.seq (.region ?_))))); (iterate 3 refine .o ?_)
 refine .o ?_; refine .cl (c_laws_eqGorS x.gs y.gs) ?_; refine .o (.nil (.xseq ?_)); refine .cs (fun h0 => ?_) (fun h0 => ?_)
 · refine .seq (.region ?_); refine .o (.nil (.xseq (.ret (.rseq (.done ?_))))); refine .mk ?_; (try simp only [Hb_iff] at *); cases x; cases y; simp at *; simp [*]
 · refine .skip (.xseq (.seq (.seq (.region ?_)))); (iterate 3 refine .o ?_); refine .o ?_; refine .cl (c_laws_eqChanS x.chans y.chans) ?_; refine .o (.nil (.xseq ?_))
   refine .cs (fun h1 => ?_) (fun h1 => ?_)
   · refine .seq (.region ?_); refine .o (.nil (.xseq (.ret (.rseq (.done ?_))))); refine .mk ?_; (try simp only [Hb_iff] at *); cases x; cases y; simp at *; simp [*]
   · refine .skip (.xseq (.seq (.seq (.region ?_)))); (iterate 3 refine .o ?_); refine .o ?_; refine .cl (c_laws_eqMutexS x.mus y.mus) ?_; refine .o (.nil (.xseq ?_))
     refine .cs (fun h2 => ?_) (fun h2 => ?_)
     · refine .seq (.region ?_); refine .o (.nil (.xseq (.ret (.rseq (.done ?_))))); refine .mk ?_; (try simp only [Hb_iff] at *); cases x; cases y; simp at *; simp [*]
     · refine .skip (.xseq (.seq (.region ?_))); refine .o (.nil (.xseq (.ret (.done ?_)))); refine .mk ?_; (try simp only [Hb_iff] at *); cases x; cases y; simp at *; simp [*]
end Go.Proofs.AM
