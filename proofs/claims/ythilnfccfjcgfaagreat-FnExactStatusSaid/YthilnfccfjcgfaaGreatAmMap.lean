/- A part of the proof: the walk of functions of the program, or the rules of the walk. -/
import Derived.Test.YthilnfccfjcgfaaGreatAmFast
import Derived.MapKept
set_option linter.unusedSimpArgs false
set_option linter.unusedVariables false
namespace Go.Proofs.AM
open Go

section
variable {Z : SzF} {w w' : World} {S S' : Nat → Prop}
theorem RepW.monoC {x : AV} {v : Value} (h : RepW Z w S x v) (hS : ∀ b, S b → S' b ∧ ∀ cur E fz, w.heap[b]? = some (.cells cur E fz) → w'.heap[b]? = some (.cells cur E fz)) : RepW Z w' S' x v := by
  refine RepW.rec (motive_1 := fun x v _ => RepW Z w' S' x v) (motive_2 := fun xs vs _ => RepWs Z w' S' xs vs)
    ?_ ?_ ?_ ?_ ?_ ?_ ?_ ?_ ?_ ?_ ?_ ?_ ?_ h
  · intro v h; exact .sc h
  · exact .nl
  · exact .ud
  · exact .un
  · intro v h; exact .uc h
  · intro cs vs _ h1 ih; exact .agg ih h1
  · intro cs vs _ ih; exact .tup ih
  · exact .ls0
  · intro fl E E' xs g o cap cur fz hg hb hc hm hz ho h1 _ ih
    exact .ls (hS g hg).1 ((hS g hg).2 _ _ _ hb) hc hm hz ho h1 ih
  · intro fl cs g o E' cur fz hg hb ho h1 _ ih
    exact .vp (hS g hg).1 ((hS g hg).2 _ _ _ hb) ho h1 ih
  · intro f cs vs _ ih; exact .fn ih
  · exact .nil
  · intro x v xs vs _ _ h hs; exact .cons h hs
variable {Sf Sf' : Fl → Nat → Prop} {φ φ' : Nat → Option Hd}
theorem RepX.monoC {x : AV} {v : Value} {F : List Nat} (h : RepX Z w Sf φ x v F)
    (hS : ∀ fl b, Sf fl b → Sf' fl b ∧ ∀ cur E fz, w.heap[b]? = some (.cells cur E fz) → w'.heap[b]? = some (.cells cur E fz)) (hF : ∀ b ∈ F, w'.heap[b]? = w.heap[b]?) : RepX Z w' Sf' φ x v F := by
  refine RepX.rec (motive_1 := fun φ x v F _ => (∀ b ∈ F, w'.heap[b]? = w.heap[b]?) → RepX Z w' Sf' φ x v F)
    (motive_2 := fun φ xs vs F _ => (∀ b ∈ F, w'.heap[b]? = w.heap[b]?) → RepXs Z w' Sf' φ xs vs F)
    ?_ ?_ ?_ ?_ ?_ ?_ ?_ ?_ ?_ ?_ ?_ ?_ ?_ ?_ ?_ ?_ ?_ h hF
  · intro φ v h _; exact .sc h
  · intro φ _; exact .nl
  · intro φ _; exact .ud
  · intro φ v _; exact .un
  · intro φ v h _; exact .uc h
  · intro φ cs vs F _ h1 ih hF; exact .agg (ih hF) h1
  · intro φ cs vs F _ ih hF; exact .tup (ih hF)
  · intro φ E A _; exact .own0
  · intro φ E xs g o cap cur F hb hc hm hz ho h1 _ ih hF
    exact .own ((hF g (by simp)).trans hb) hc hm hz ho h1 (ih fun b hb => hF b (by simp [hb]))
  · intro φ E xs v h _; exact .va (h.monoC (hS .a))
  · intro φ E xs v h _; exact .vn (h.monoC (hS .n))
  · intro φ fl cs v h _; exact .vp (h.monoC (hS fl))
  · intro φ id off len h v hp hv _; exact .rf hp hv
  · intro φ id i j n E g o cap hp _; exact .pt hp
  · intro φ f cs vs _ ih _; exact .fn (ih (by simp))
  · intro φ _; exact .nil
  · intro φ x v xs vs F G _ _ h hs hF
    exact .cons (h fun b hb => hF b (by simp [hb])) (hs fun b hb => hF b (by simp [hb]))
theorem RepXs.monoC {xs : List AV} {vs : List Value} {F : List Nat} (h : RepXs Z w Sf φ xs vs F)
    (hS : ∀ fl b, Sf fl b → Sf' fl b ∧ ∀ cur E fz, w.heap[b]? = some (.cells cur E fz) → w'.heap[b]? = some (.cells cur E fz)) (hF : ∀ b ∈ F, w'.heap[b]? = w.heap[b]?) : RepXs Z w' Sf' φ xs vs F := by
  induction xs generalizing vs F with
  | nil => cases h; exact .nil
  | cons x xs ih =>
    cases h with
    | cons h hs => exact .cons (h.monoC hS fun b hb => hF b (by simp [hb])) (ih hs fun b hb => hF b (by simp [hb]))
end

section
variable {c : Cx} {st : St} {a : Act} {w : World} {φ : Nat → Option Hd} {fp : Nat → List Nat}
theorem RelX.obLt (h : RelX c st a w φ fp) {p : Nat × Obj} (hp : p ∈ st.ob) : p.1 < w.heap.size := by
  rcases Nat.lt_or_ge p.1 w.heap.size with hh | hh
  · exact hh
  · have := (h.obs p hp).1; rw [Array.getElem?_eq_none hh] at this; cases this
/-- a kept object is turned -/
theorem RelX.obSet (h : RelX c st a w φ fp) {r : Nat} {o : Obj} (o' : Obj) (ob' : List (Nat × Obj)) (hr : (r, o) ∈ st.ob) (hc : ∀ cur E fz, o ≠ .cells cur E fz)
    (hob : ∀ p ∈ ob', p = (r, o') ∨ (p ∈ st.ob ∧ p.1 ≠ r)) : RelX c { st with ob := ob' } a { w with heap := w.heap.setIfInBounds r o' } φ fp := by
  obtain ⟨q1, q2, q3⟩ := h.obs _ hr
  have hlt := h.obLt hr
  have hoth : ∀ b, b ≠ r → (w.heap.setIfInBounds r o')[b]? = w.heap[b]? := fun b hb => by
    rw [Array.getElem?_setIfInBounds_ne (fun e => hb e.symm)]
  have hS : ∀ fl b, c.Sf w φ fl b → c.Sf { w with heap := w.heap.setIfInBounds r o' } φ fl b ∧ ∀ cur E fz, w.heap[b]? = some (.cells cur E fz) → (w.heap.setIfInBounds r o')[b]? = some (.cells cur E fz) := by
    intro fl b hb
    refine ⟨Cx.Sf_mono (by simp) (fun id hd b h1 h2 => .inl ⟨id, hd, h1, h2⟩) hb, fun cur E fz hh => ?_⟩
    rw [hoth b (fun e => by subst e; rw [hh] at q1; cases q1; exact hc _ _ _ rfl), hh]
  exact {
    dz := h.dz
    tm := h.tm.monoC hS (by simp)
    rows := fun id rr hrr => by
      obtain ⟨hd, h1, h2⟩ := h.rows id rr hrr
      refine ⟨hd, h1, ?_⟩
      have hF : ∀ b ∈ fp id, (w.heap.setIfInBounds r o')[b]? = w.heap[b]? := fun b hb => hoth b (fun e => by subst e; exact q2 id hb)
      obtain ⟨k1, k2, k3⟩ := h2
      refine ⟨k1, k2, ?_⟩
      split at k3
      · exact k3
      · obtain ⟨cur, F', z1, z2, z3, z4, z5, z6, z7, z8⟩ := k3
        rw [z8] at hF
        exact ⟨cur, F', (hF _ (by simp)).trans z1, z2, z3, z4, z5, z6, z7.monoC hS (fun b hb => hF b (by simp [hb])), z8⟩
    dead := h.dead
    fresh := h.fresh
    kept := h.kept
    kpn := h.kpn
    disj := h.disj
    nod := h.nod
    rng := fun i b hb => by have := h.rng i b hb; simpa using this
    os := h.os
    tape := h.tape
    out := h.out
    grow := by have := h.grow; simpa using this
    same := fun b h1 h2 => by rw [← h.same b h1 h2]; exact hoth b (by omega)
    obs := fun p hp => by
      rcases hob p hp with rfl | ⟨h1, h2⟩
      · exact ⟨by simp [hlt], q2, q3⟩
      · obtain ⟨z1, z2, z3⟩ := h.obs p h1
        exact ⟨(hoth _ h2).trans z1, z2, z3⟩ }
/-- a new object is kept -/
theorem RelX.obNew (hG : c.Good) (h : RelX c st a w φ fp) (o : Obj) : RelX c { st with ob := (w.heap.size, o) :: st.ob } a (w.alloc o) φ fp := by
  have hoth : ∀ b, b < w.heap.size → (w.alloc o).heap[b]? = w.heap[b]? := fun b hb => heap_alloc_old w _ hb
  have hS : ∀ fl b, c.Sf w φ fl b → c.Sf (w.alloc o) φ fl b ∧ (w.alloc o).heap[b]? = w.heap[b]? := fun fl b hb =>
    ⟨Cx.Sf_mono (by simp) (fun id hd b h1 h2 => .inl ⟨id, hd, h1, h2⟩) hb, hoth b (h.slt hG hb)⟩
  exact {
    dz := h.dz
    tm := h.tm.mono (fun _ _ h => h) hS (by simp)
    rows := fun id rr hrr => by
      obtain ⟨hd, h1, h2⟩ := h.rows id rr hrr
      exact ⟨hd, h1, h2.mono (fun _ _ h => h) hS (fun b hb => hoth b (h.rng id b hb).1)⟩
    dead := h.dead
    fresh := h.fresh
    kept := h.kept
    kpn := h.kpn
    disj := h.disj
    nod := h.nod
    rng := fun i b hb => ⟨Nat.lt_of_lt_of_le (h.rng i b hb).1 (by simp), (h.rng i b hb).2⟩
    os := h.os
    tape := h.tape
    out := h.out
    grow := Nat.le_trans h.grow (by simp)
    same := fun b h1 h2 => by rw [← h.same b h1 h2]; exact hoth b (Nat.lt_of_lt_of_le h1 h.grow)
    obs := fun p hp => by
      rcases List.mem_cons.1 hp with rfl | hp
      · exact ⟨heap_alloc_new w o, fun i hi => by have := (h.rng i _ hi).1; simp at this, h.grow⟩
      · obtain ⟨z1, z2, z3⟩ := h.obs p hp
        exact ⟨(hoth _ (h.obLt hp)).trans z1, z2, z3⟩ }
end
end Go.Proofs.AM
