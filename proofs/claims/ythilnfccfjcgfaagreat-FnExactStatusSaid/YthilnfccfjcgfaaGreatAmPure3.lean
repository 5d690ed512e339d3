/- A part of the proof: the walk of functions of the program, or the rules of the walk. -/
import Derived.Test.YthilnfccfjcgfaaGreatAmPure2
set_option linter.unusedSimpArgs false
set_option linter.unusedVariables false
namespace Go.Proofs.AM
def idxFP (xs : List Int) (q : Int → Bool) : Int := if xs.any q then (xs.findIdx q : Int) else -1
theorem idxF_found {xs : List Int} {q : Int → Bool} {i : Nat} {x : Int} (h : (xs.take i).all (fun v => !q v) = true) (hx : xs[i]? = some x) (hq : q x = true) : idxFP xs q = i := by
  have hm := List.mem_of_getElem? hx
  have hany : xs.any q = true := List.any_eq_true.2 ⟨x, hm, hq⟩
  unfold idxFP; rw [if_pos hany]
  have hlt : i < xs.length := (List.getElem?_eq_some_iff.1 hx).1
  have hxi : xs[i] = x := (List.getElem?_eq_some_iff.1 hx).2
  have : xs.findIdx q = i := by
    rw [List.findIdx_eq hlt]
    refine ⟨by rw [hxi]; exact hq, fun j hj => ?_⟩
    have h2 := List.all_eq_true.1 h (xs[j]) (List.mem_take_iff_getElem.2 ⟨j, by omega, rfl⟩)
    simpa using h2
  rw [this]
theorem idxF_none {xs : List Int} {q : Int → Bool} (h : xs.all (fun v => !q v) = true) : idxFP xs q = -1 := by
  have : xs.any q = false := by rw [List.any_eq_false]; intro x hx; have := List.all_eq_true.1 h x hx; simpa using this
  unfold idxFP; rw [this]; rfl
theorem idxF_has {xs : List Int} {q : Int → Bool} : decide (0 ≤ idxFP xs q) = xs.any q := by unfold idxFP; split <;> simp_all
theorem any_val (xs : List Int) : (xs.any fun v => !isValP v) = !xs.all isValP := by rw [List.not_all_eq_any_not]
theorem lastKind_nil : lastKindP [] = 0 := rfl
theorem lastKind_at {l : List Item} {i : Nat} {x : Item} (h : l[i]? = some x) : lastKindP (l.take (i + 1)) = x.kind := by rw [take_snoc h]; simp [lastKindP]
theorem selGo_case {p : Prog} {n : Int} {ys xs : List Case} {k : Nat} {x : Case} (h : selGoP p n ys xs = true) (hx : xs[k]? = some x) : caseOkP p n x = true := by
  induction xs generalizing ys k with
  | nil => simp at hx
  | cons y xs ih =>
    simp only [selGoP, Bool.and_eq_true] at h
    cases k with
    | zero => simp at hx; subst hx; exact h.1.1
    | succ k => exact ih h.2 (by simpa using hx)
theorem sel_case_reg {p : Prog} {s : Select} {k : Nat} {x : Case} (h : selTopOkP p s = true) (hx : s.cases[k]? = some x) : 0 ≤ x.reg ∧ x.reg < 6 := by
  simp only [selTopOkP, Bool.and_eq_true, selectOkP] at h
  have := selGo_case h.2.1 hx
  simp [caseOkP, isRegP] at this
  omega
theorem regP_in {g : Gor} {r : Int} (hl : g.regs.length = 6) (h0 : 0 ≤ r) (h6 : r < 6) : g.regs[r.toNat]? = some (regP g r) := by
  have hw : withinP r 0 g.regs.length = true := by simp [withinP, hl, h0, h6]
  unfold regP; rw [if_pos hw]
  exact getD_get 0 h0 (by omega)
/-- what Places answers -/
def placesQ (p : Prog) (g : Gor) (n : Int) : List Place := if gorOkP p g && decide (g.state = 2) && decide (0 ≤ n) then placesP p g n else []
theorem gor_regs {p : Prog} {g : Gor} (h : gor1OkP p g = true) : g.regs.length = 6 := by simp only [gor1OkP, Bool.and_eq_true, decide_eq_true_eq] at h; exact h.1.1.1.1.2
theorem gor_split {p : Prog} {g : Gor} (h : gorOkP p g = true) : progOkP p = true ∧ gor1OkP p g = true := by simpa [gorOkP] using h
theorem ok_reg8 {p : Prog} {n : Int} {i : Instr} (h : instrOkP p n i = true) (h8 : i.op = 8) : 0 ≤ i.b ∧ i.b < 6 := by simp [instrOkP, h8, isRegP] at h; omega
end Go.Proofs.AM
