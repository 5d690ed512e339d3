/- A part of the proof: the walk of functions of the program, or the rules of the walk. -/
import Derived.Test.YthilnfccfjcgfaaGreatA1To
import Derived.Test.YthilnfccfjcgfaaGreatAmPure2
set_option linter.unusedSimpArgs false
set_option linter.unusedVariables false
namespace Go.Proofs.AM
open Go
theorem sz2_fit {l : Int} {f : Int → Int} (h : ¬ sz2 l f < 0) : 0 ≤ l ∧ ¬ f l < 0 := by unfold sz2 at h; split at h <;> omega
theorem sz1_fit {l : Int} (h : ¬ sz1 l < 0) : ¬ l < 0 := by unfold sz1 at h; split at h <;> omega
theorem szLen_fit {n : Nat} {l : Int} (h : ¬ szLen n l < 0) : (n : Int) ≤ l := by unfold szLen at h; split at h <;> omega
theorem szFold_fit {α : Type} {f : α → Int → Int} (hf : ∀ x k, 0 ≤ k → SzOk (f x k) k) {xs : List α} {l : Int} (h0 : 0 ≤ l) (h : ¬ szFold f xs l < 0) : ∀ x ∈ xs, ∃ k, 0 ≤ k ∧ k ≤ l ∧ ¬ f x k < 0 := by
  induction xs generalizing l with
  | nil => simp
  | cons y ys ih =>
    unfold szFold at h
    split at h
    · omega
    · rename_i hn
      have h1 := hf y l h0
      unfold SzOk at h1
      intro x hx
      rcases List.mem_cons.1 hx with rfl | hx
      · exact ⟨l, h0, Int.le_refl _, hn⟩
      · obtain ⟨k, k1, k2, k3⟩ := ih (by omega) h x hx
        exact ⟨k, k1, by omega, k3⟩
theorem szList_fit {α : Type} {f : α → Int → Int} (hf : ∀ x k, 0 ≤ k → SzOk (f x k) k) {xs : List α} {l : Int} (h : ¬ szList f xs l < 0) : (xs.length : Int) ≤ l ∧ ∀ x ∈ xs, ∃ k, 0 ≤ k ∧ k ≤ l ∧ ¬ f x k < 0 := by
  unfold szList at h
  split at h
  · omega
  · refine ⟨by omega, fun x hx => ?_⟩
    obtain ⟨k, k1, k2, k3⟩ := szFold_fit hf (by omega) h x hx
    exact ⟨k, k1, by omega, k3⟩
theorem fit_prog {p : Prog} {l : Int} (h0 : 0 ≤ l) (hl : l ≤ 1048576) (h : ¬ szProg p l < 0) : fitProg p := by
  unfold szProg at h
  obtain ⟨a1, a2⟩ := sz2_fit h
  obtain ⟨b1, b2⟩ := sz2_fit a2
  have c2 := sz1_fit b2
  have h1 := szLen_fit (n := p.caps.length) (l := l) (by omega)
  have o1 := szLen_ok (n := p.caps.length) h0
  obtain ⟨h2, h3⟩ := szList_fit szSelect_ok (Int.not_lt.2 b1)
  have o2 := szList_ok szSelect_ok p.sels (l := szLen p.caps.length l) a1
  obtain ⟨h4, h5⟩ := szList_fit szProc_ok c2
  unfold SzOk at o1 o2
  refine ⟨by omega, by omega, fun y hy => ?_, by omega, fun y hy => ?_⟩
  · obtain ⟨k, k1, k2, k3⟩ := h3 y hy
    have := szLen_fit (sz1_fit k3); unfold fitSelect; omega
  · obtain ⟨k, k1, k2, k3⟩ := h5 y hy
    have := szLen_fit (sz1_fit k3); unfold fitProc; omega
theorem fit_eng {e : Eng} {l : Int} (h0 : 0 ≤ l) (hl : l ≤ 1048576) (h : ¬ szEng e l < 0) : fitEng e := by
  unfold szEng at h
  obtain ⟨a1, a2⟩ := sz2_fit h
  obtain ⟨b1, b2⟩ := sz2_fit a2
  have c2 := sz1_fit b2
  obtain ⟨h1, h1'⟩ := szList_fit szGor_ok (show ¬ szList szGor e.gs l < 0 by omega)
  have o1 := szList_ok szGor_ok e.gs h0
  obtain ⟨h2, h3⟩ := szList_fit szChan_ok (Int.not_lt.2 b1)
  have o2 := szList_ok szChan_ok e.chans a1
  obtain ⟨h4, h5⟩ := szList_fit szMutex_ok c2
  unfold SzOk at o1 o2
  refine ⟨by omega, fun y hy => ?_, by omega, fun y hy => ?_, by omega, fun y hy => ?_⟩
  · obtain ⟨k, k1, k2, k3⟩ := h1' y hy
    obtain ⟨d1, d2⟩ := sz2_fit k3
    have d3 := szLen_fit (n := y.regs.length) (l := k) (by omega)
    have d4 := szLen_fit (sz1_fit d2)
    have d5 := szLen_ok (n := y.regs.length) k1
    unfold SzOk at d5
    exact ⟨by omega, by omega⟩
  · obtain ⟨k, k1, k2, k3⟩ := h3 y hy
    obtain ⟨d1, d2⟩ := sz2_fit k3
    obtain ⟨e1, e2⟩ := sz2_fit d2
    have d3 := szLen_fit (n := y.buf.length) (l := k) (by omega)
    have d5 := szLen_ok (n := y.buf.length) k1
    have d4 := szLen_fit (n := y.sends.length) (Int.not_lt.2 e1)
    have d6 := szLen_ok (n := y.sends.length) d1
    have d7 := szLen_fit (sz1_fit e2)
    unfold SzOk at d5 d6
    exact ⟨by omega, by omega, by omega⟩
  · obtain ⟨k, k1, k2, k3⟩ := h5 y hy
    have := szLen_fit (sz1_fit k3); unfold fitMutex; omega
theorem fit_g {e : Eng} (h : fitEng e) : FitG e := by
  obtain ⟨h1, h2, h3, h4, h5, h6⟩ := h
  exact ⟨fun c hc => (h4 c hc).2.1, fun c hc => (h4 c hc).2.2, fun m hm => h6 m hm, h1⟩
end Go.Proofs.AM
