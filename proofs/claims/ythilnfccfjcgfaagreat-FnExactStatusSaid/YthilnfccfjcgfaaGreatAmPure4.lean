/- A part of the proof: the walk of functions of the program, or the rules of the walk. -/
import Derived.Test.YthilnfccfjcgfaaGreatAmPure3
import Derived.Test.YthilnfccfjcgfaaGreatAmMap5
set_option linter.unusedSimpArgs false
set_option linter.unusedVariables false
namespace Go.Proofs.AM
open Go
theorem same_perm {a b : List Place} (h1 : ∀ x ∈ a, a.count x = b.count x) (h2 : a.length = b.length) : ∀ x, a.count x = b.count x := by
  induction a generalizing b with
  | nil => intro x; have : b = [] := List.eq_nil_of_length_eq_zero (by simpa using h2.symm); subst this; rfl
  | cons y a ih =>
    have hy := h1 y (by simp)
    have hc : 0 < b.count y := by rw [← hy]; simp
    have hm : y ∈ b := List.count_pos_iff.1 hc
    have key : ∀ x, b.count x = (b.erase y).count x + (if y = x then 1 else 0) := by
      intro x
      by_cases e : y = x
      · subst e; rw [List.count_erase_self]; simp; omega
      · rw [List.count_erase_of_ne (fun h => e h.symm)]; simp [e]
    have ih2 := ih (b := b.erase y) (fun x hx => by
      have := h1 x (by simp [hx])
      rw [List.count_cons, key x] at this
      by_cases e : y = x
      · subst e; rw [List.count_erase_self]; simp at this; omega
      · simp [e] at this; exact this) (by rw [List.length_erase_of_mem hm]; simp at h2; omega)
    intro x
    rw [List.count_cons, ih2 x, key x]
    by_cases e : y = x <;> simp [e]
theorem sameP_iff {a b : List Place} : sameP a b = true ↔ ∀ x, a.count x = b.count x := by
  unfold sameP
  simp only [Bool.and_eq_true, List.all_eq_true, decide_eq_true_eq]
  exact ⟨fun h => same_perm h.1 h.2, fun h => ⟨fun x _ => h x, (List.perm_iff_count.2 h).length_eq⟩⟩
theorem placesQ_want {p : Prog} {g : Gor} (h : gorOkP p g = true) (i : Nat) : placesQ p g (i : Nat) = gorWant p i g := by
  unfold placesQ gorWant
  rw [h]
  by_cases hs : g.state = 2 <;> simp [hs]
theorem gorWant_len4 {p : Prog} {g : Gor} (h : gorOkP p g = true) (i : Nat) : (gorWant p i g).length ≤ 4 := by
  have := placesP_len (i : Int) (atOk (gor_split h).1 (gor_split h).2)
  unfold gorWant
  split
  · exact this
  · simp
theorem upK_at (d : Int) {M : List (Place × Int)} {xs : List Place} {i : Nat} {x : Place} (h : xs[i]? = some x) : upK d M (xs.take (i + 1)) = putK (upK d M (xs.take i)) x (IntKind.i64.wrap (lk (upK d M (xs.take i)) x + d)) := by
  rw [take_snoc h, upK_one]
theorem upK_dn {M : List (Place × Int)} {xs ys : List Place} {x : Place} (h : ys = xs ++ [x]) : upK (-1) M ys = putK (upK (-1) M xs) x (IntKind.i64.wrap (lk (upK (-1) M xs) x - 1)) := by
  rw [h, upK_one]; rfl
theorem allPlaces_len {e : Eng} (hf : FitE e) : (allPlaces e).length ≤ 10000000000 := by
  have := chansPlaces_len 0 hf.sends hf.recvs
  have := musPlaces_len 0 hf.wait
  have := hf.chans
  have := hf.mus
  simp only [allPlaces, List.length_append]; omega
theorem same_yes {W A : List Place} {M : List (Place × Int)} (hM : M = upK (-1) (upK 1 [] W) A) (hW : W.length ≤ 4000000) (hA : A.length ≤ 10000000000) {seen : Array Nat}
    (h1 : ∀ j, j < M.length → seen.contains j = true) (h2 : ∀ j p, M[j]? = some p → seen.contains j = true → p.2 = 0) : sameP W A = true := by
  rw [sameP_iff, ← zero_count hW hA, ← hM]
  intro p hp
  obtain ⟨j, hj⟩ := List.getElem?_of_mem hp
  exact h2 j p hj (h1 j (lt_of_get hj))
theorem same_no {W A : List Place} {M : List (Place × Int)} (hM : M = upK (-1) (upK 1 [] W) A) (hW : W.length ≤ 4000000) (hA : A.length ≤ 10000000000) {j : Nat} {x : Place} {n : Int} (hj : M[j]? = some (x, n)) (hn : ¬ n = 0) : sameP W A = false := by
  cases h : sameP W A with
  | false => rfl
  | true =>
    rw [sameP_iff, ← zero_count hW hA, ← hM] at h
    exact absurd (h _ (List.mem_of_getElem? hj)) hn
end Go.Proofs.AM
