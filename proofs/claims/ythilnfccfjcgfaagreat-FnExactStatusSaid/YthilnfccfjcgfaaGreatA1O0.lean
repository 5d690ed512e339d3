/- A part of the proof: the walk of functions of the program, or the rules of the walk. -/
import Derived.Test.YthilnfccfjcgfaaGreatAmCall2
import GoSem.ClaimChange
set_option linter.unusedSimpArgs false
set_option linter.unusedVariables false
namespace Go.Proofs.AM
open Go

/-! ### arguments opened -/
/-- what the tour of a value tells of its cells -/
def Opens (P : Program) (Z : SzF) (t : TypeId) (R : List AV → Prop) : Prop :=
  ∀ (H : Type) (enc : TypeId × Value → H) (W : World) (spare : Nat → Bool) (held : Bool) (fuel : Nat) (cs : List Value) (d : DataW H) (p : List MemPlace),
    DataW.trod enc P W 0 spare held fuel t cs = some (d, p) → (∃ y, R y ∧ RepWs Z W (fun b => b < W.heap.size) y cs) ∧ (∀ v ∈ cs, v.oneCell' = true) ∧ cs.length = P.cellsOf t
theorem RepWs.len {Z : SzF} {w : World} {S : Nat → Prop} {xs : List AV} {vs : List Value} (h : RepWs Z w S xs vs) : xs.length = vs.length := by
  induction xs generalizing vs with
  | nil => cases h; rfl
  | cons x xs ih => cases h with | cons _ h => simp [ih h]
theorem RepWs.app {Z : SzF} {w : World} {S : Nat → Prop} {xs ys : List AV} {us vs : List Value} (h : RepWs Z w S xs us) (k : RepWs Z w S ys vs) : RepWs Z w S (xs ++ ys) (us ++ vs) := by
  induction xs generalizing us with
  | nil => cases h; exact k
  | cons x xs ih => cases h with | cons h1 h2 => exact .cons h1 (ih h2)
section
variable {P : Program} {Z : SzF} {t : TypeId}
theorem opens_int (hu : P.underlying t = some (.int .i64)) (hc : P.cellsOf t = 1) : Opens P Z t fun y => ∃ n : Int, y = [.sc (.int .i64 n)] := by
  intro H enc W spare held fuel cs d p h
  cases fuel with
  | zero => simp [DataW.trod] at h
  | succ fuel =>
    unfold DataW.trod at h
    simp only [hu] at h
    split at h <;> first | (rename_i e; cases e; done) | skip
    all_goals first | (cases h; done) | skip
    rename_i k k' n hh
    split at h <;> try cases h
    rename_i hk
    obtain ⟨rfl, _⟩ := hk
    simp at hh
    subst hh
    exact ⟨⟨_, ⟨n, rfl⟩, .cons (.sc rfl) .nil⟩, by simp [Value.oneCell'], by simp [hc]⟩
theorem opens_bool (hu : P.underlying t = some .bool) (hc : P.cellsOf t = 1) : Opens P Z t fun y => ∃ b : Bool, y = [.sc (.bool b)] := by
  intro H enc W spare held fuel cs d p h
  cases fuel with
  | zero => simp [DataW.trod] at h
  | succ fuel =>
    unfold DataW.trod at h
    simp only [hu] at h
    split at h <;> first | (rename_i e; cases e; done) | skip
    all_goals first | (cases h; done) | skip
    exact ⟨⟨_, ⟨_, rfl⟩, .cons (.sc rfl) .nil⟩, by simp [Value.oneCell'], by simp [hc]⟩
theorem mapM_some {α β : Type} {f : α → Option β} : ∀ {l : List α} {ys : List β}, l.mapM f = some ys → ∀ x ∈ l, ∃ y, f x = some y
  | [], _, _, x, hx => by cases hx
  | a :: l, ys, h, x, hx => by
    rw [List.mapM_cons] at h
    cases ha : f a with
    | none => rw [ha] at h; simp at h
    | some b =>
      rw [ha] at h
      cases hl : l.mapM f with
      | none => rw [hl] at h; simp at h
      | some bs =>
        rcases List.mem_cons.1 hx with rfl | hx
        · exact ⟨b, ha⟩
        · exact mapM_some hl x hx
theorem mapM_get {α β : Type} {f : α → Option β} : ∀ {l : List α} {ys : List β}, l.mapM f = some ys → ys.length = l.length ∧ ∀ (j : Nat) x, l[j]? = some x → ∃ y, ys[j]? = some y ∧ f x = some y
  | [], ys, h => by simp at h; subst h; simp
  | a :: l, ys, h => by
    rw [List.mapM_cons] at h
    cases ha : f a with
    | none => rw [ha] at h; simp at h
    | some b =>
      rw [ha] at h
      cases hl : l.mapM f with
      | none => rw [hl] at h; simp at h
      | some bs =>
        rw [hl] at h
        simp at h
        subst h
        obtain ⟨h1, h2⟩ := mapM_get hl
        refine ⟨by simp [h1], fun j x hx => ?_⟩
        cases j with
        | zero => simp at hx; subst hx; exact ⟨b, rfl, ha⟩
        | succ j => simp at hx; obtain ⟨y, k1, k2⟩ := h2 j x hx; exact ⟨y, by simpa using k1, k2⟩
/-- the cells of a part of a block -/
theorem cells_of {W : World} {a : Addr} {n : Nat} {u : List Value} (h : W.cells? 0 a n = some u) : u.length = n ∧ ∀ j v, u[j]? = some v → W.cell? (a.add j) = some v := by
  unfold World.cells? at h
  rw [if_pos (Nat.zero_le _)] at h
  obtain ⟨h1, h2⟩ := mapM_get h
  rw [List.length_range] at h1
  refine ⟨h1, fun j v hv => ?_⟩
  have hj : j < n := by rw [← h1]; exact (List.getElem?_eq_some_iff.1 hv).1
  obtain ⟨y, k1, k2⟩ := h2 j j (by rw [List.getElem?_eq_getElem (by simpa using hj)]; simp)
  rw [hv] at k1
  cases k1
  exact k2
theorem cell_block {W : World} {a : Addr} {v : Value} (h : W.cell? a = some v) : ∃ cur E fz, W.heap[a.block]? = some (.cells cur E fz) ∧ a.spot = none ∧ cur[a.off]? = some v := by
  unfold World.cell? at h
  split at h
  · rename_i c E fz hb
    split at h
    · cases h
    · rename_i hs; exact ⟨c, E, fz, hb, by simpa using hs, h⟩
  · cases h
theorem opens_slice {e : TypeId} {R : List AV → Prop} (hu : P.underlying t = some (.slice e)) (hc : P.cellsOf t = 1) (hZ : P.cellsOf e = Z e) (hp : 0 < Z e) (hR : Opens P Z e R) :
    Opens P Z t fun y => ∃ zs : List (List AV), (∀ z ∈ zs, R z) ∧ y = [.ls .o e zs] := by
  intro H enc W spare held fuel cs d p h
  cases fuel with
  | zero => simp [DataW.trod] at h
  | succ fuel =>
    unfold DataW.trod at h
    simp only [hu] at h
    split at h <;> first | (rename_i e; cases e; done) | skip
    all_goals first | (cases h; done) | skip
    · exact ⟨⟨_, ⟨[], by simp, rfl⟩, .cons .ls0 .nil⟩, by simp [Value.oneCell'], by simp [hc]⟩
    · rename_i e' a len cap hh
      simp at hh
      subst hh
      split at h <;> try cases h
      rename_i hb
      obtain ⟨_, hlc, hcm⟩ := hb
      cases hm : (List.range len).mapM (fun i => (W.cells? 0 (a.add (i * P.cellsOf e)) (P.cellsOf e)).bind (DataW.trod enc P W 0 spare held fuel e)) with
      | none => rw [hm] at h; cases h
      | some elems =>
        refine ⟨?_, by simp [Value.oneCell'], by simp [hc]⟩
        by_cases h0 : len = 0
        · subst h0; exact ⟨_, ⟨[], by simp, rfl⟩, .cons .ls0 .nil⟩
        · have hel : ∀ i, i < len → ∃ u y, W.cells? 0 (a.add (i * Z e)) (Z e) = some u ∧ R y ∧ RepWs Z W (fun b => b < W.heap.size) y u ∧ (∀ v ∈ u, v.oneCell' = true) := by
            intro i hi
            obtain ⟨y, hy⟩ := mapM_some hm i (List.mem_range.2 hi)
            rw [hZ] at hy
            cases hcl : W.cells? 0 (a.add (i * Z e)) (Z e) with
            | none => rw [hcl] at hy; cases hy
            | some u =>
              rw [hcl] at hy
              obtain ⟨dd, pp⟩ := y
              obtain ⟨⟨y, k1, k2⟩, k3, _⟩ := hR H enc W spare held fuel u dd pp hy
              exact ⟨u, y, rfl, k1, k2, k3⟩
          -- the block
          obtain ⟨u0, y0, hu0, _⟩ := hel 0 (by omega)
          obtain ⟨hl0, hc0⟩ := cells_of hu0
          obtain ⟨v0, hv0⟩ : ∃ v, u0[0]? = some v := ⟨u0[0]'(by omega), List.getElem?_eq_getElem (by omega)⟩
          obtain ⟨cur, E', fz, hblk, hspot, _⟩ := cell_block (hc0 0 v0 hv0)
          obtain ⟨g, off, spot⟩ := a
          have hspot' : spot = none := by simpa [Addr.add] using hspot
          subst hspot'
          have hblk' : W.heap[g]? = some (.cells cur E' fz) := by simpa [Addr.add] using hblk
          have hg : g < W.heap.size := by
            rcases Nat.lt_or_ge g W.heap.size with q | q
            · exact q
            · rw [Array.getElem?_eq_none q] at hblk'; cases hblk'
          have hu : ∀ i u, W.cells? 0 ((⟨g, off, none⟩ : Addr).add (i * Z e)) (Z e) = some u → u = (cur.toList.drop (off + i * Z e)).take (Z e) ∧ off + i * Z e + Z e ≤ cur.size := by
            intro i u hcl
            obtain ⟨k1, k2⟩ := cells_of hcl
            have hcell : ∀ j v, u[j]? = some v → cur[off + i * Z e + j]? = some v := by
              intro j v hv
              have := k2 j v hv
              rw [Addr.add_mid, Addr.add_mid] at this
              simpa [World.cell?, hblk'] using this
            have hsz : off + i * Z e + Z e ≤ cur.size := by
              have : ∃ v, u[Z e - 1]? = some v := ⟨u[Z e - 1]'(by omega), List.getElem?_eq_getElem (by omega)⟩
              obtain ⟨v, hv⟩ := this
              have h2 := hcell _ v hv
              have := (Array.getElem?_eq_some_iff.1 h2).1
              omega
            refine ⟨?_, hsz⟩
            apply List.ext_getElem?
            intro j
            rcases Nat.lt_or_ge j (Z e) with hj | hj
            · rw [List.getElem?_take_of_lt hj, List.getElem?_drop]
              have h3 : u[j]? = some (u[j]'(by omega)) := List.getElem?_eq_getElem (by omega)
              have h4 := hcell j _ h3
              rw [← Array.getElem?_toList] at h4
              rw [h3, h4]
            · rw [List.getElem?_eq_none (by omega), List.getElem?_eq_none (by simp; omega)]
          have key : ∀ k, k ≤ len → ∃ zs : List (List AV), zs.length = k ∧ (∀ z ∈ zs, R z ∧ z.length = Z e) ∧ RepWs Z W (fun b => b < W.heap.size) zs.flatten ((cur.toList.drop off).take (k * Z e)) ∧ (∀ v ∈ (cur.toList.drop off).take (k * Z e), v.oneCell' = true) ∧ off + k * Z e ≤ cur.size := by
            intro k
            induction k with
            | zero =>
              intro _
              obtain ⟨_, q⟩ := hu 0 u0 hu0
              exact ⟨[], rfl, by simp, by simpa using RepWs.nil, by simp, by omega⟩
            | succ k ih =>
              intro hk
              obtain ⟨zs, z1, z2, z3, z4, z5⟩ := ih (by omega)
              obtain ⟨u, y, a1, a2, a3, a4⟩ := hel k (by omega)
              obtain ⟨b1, b2⟩ := hu k u a1
              have e1 : (cur.toList.drop off).take ((k + 1) * Z e) = (cur.toList.drop off).take (k * Z e) ++ u := by
                rw [b1, Nat.add_mul, Nat.one_mul, List.take_add, List.drop_drop]
              have hul := (cells_of a1).1
              refine ⟨zs ++ [y], by simp [z1], ?_, ?_, ?_, by rw [Nat.add_mul, Nat.one_mul]; omega⟩
              · intro z hz
                rcases List.mem_append.1 hz with hz | hz
                · exact z2 z hz
                · rw [List.mem_singleton.1 hz]; exact ⟨a2, by rw [a3.len, hul]⟩
              · rw [e1]; simpa using z3.app a3
              · rw [e1]; intro v hv
                rcases List.mem_append.1 hv with hv | hv
                · exact z4 v hv
                · exact a4 v hv
          obtain ⟨zs, z1, z2, z3, z4, z5⟩ := key len (Nat.le_refl _)
          refine ⟨_, ⟨zs, fun z hz => (z2 z hz).1, rfl⟩, .cons ?_ .nil⟩
          have := RepW.ls (Z := Z) (w := W) (S := fun b => b < W.heap.size) (fl := .o) (E := e) (E' := E') (xs := zs) (g := g) (o := off) (cap := cap) (cur := cur) (fz := fz) hg hblk' (by omega) hcm (fun c hc => (z2 c hc).2) (by rw [z1]; exact z5) (by rw [z1]; exact z4) (by rw [z1]; exact z3)
          rw [z1] at this
          exact this
def CatR : List (List AV → Prop) → List AV → Prop
  | [], y => y = []
  | R :: Rs, y => ∃ y1, R y1 ∧ ∃ y2, CatR Rs y2 ∧ y = y1 ++ y2
def contig (P : Program) : Nat → List Field → Nat → Bool
  | o, [], n => o == n
  | o, f :: fs, n => f.offset == o && contig P (o + P.cellsOf f.type) fs n
inductive FldR (P : Program) (Z : SzF) : List Field → List (List AV → Prop) → Prop where
  | nil : FldR P Z [] []
  | cons {f : Field} {fs : List Field} {R : List AV → Prop} {Rs : List (List AV → Prop)} (h : Opens P Z f.type R) (hs : FldR P Z fs Rs) : FldR P Z (f :: fs) (R :: Rs)
theorem opens_struct {fs : Array Field} {Rs : List (List AV → Prop)} (hu : P.underlying t = some (.struct fs)) (hc : contig P 0 fs.toList (P.cellsOf t) = true) (hR : FldR P Z fs.toList Rs) : Opens P Z t (CatR Rs) := by
  intro H enc W spare held fuel cs d p h
  cases fuel with
  | zero => simp [DataW.trod] at h
  | succ fuel =>
    unfold DataW.trod at h
    simp only [hu] at h
    split at h <;> first | (rename_i e; cases e; done) | skip
    all_goals first | (cases h; done) | skip
    rename_i hlen
    cases hm : fs.toList.mapM (fun f => DataW.trod enc P W 0 spare held fuel f.type ((cs.drop f.offset).take (P.cellsOf f.type))) with
    | none => rw [hm] at h; cases h
    | some elems =>
      have key : ∀ (l : List Field) (Rs : List (List AV → Prop)) (o : Nat), contig P o l (P.cellsOf t) = true → FldR P Z l Rs → (∀ f ∈ l, ∃ y, DataW.trod enc P W 0 spare held fuel f.type ((cs.drop f.offset).take (P.cellsOf f.type)) = some y) →
          o ≤ P.cellsOf t ∧ (∃ y, CatR Rs y ∧ RepWs Z W (fun b => b < W.heap.size) y (cs.drop o)) ∧ ∀ v ∈ cs.drop o, v.oneCell' = true := by
        intro l
        induction l with
        | nil =>
          intro Rs o hcg hF _
          cases hF
          have e : o = P.cellsOf t := by simpa [contig] using hcg
          subst e
          rw [List.drop_of_length_le (by omega)]
          exact ⟨Nat.le_refl _, ⟨[], rfl, .nil⟩, by simp⟩
        | cons f l ih =>
          intro Rs o hcg hF hall
          cases hF with
          | @cons _ _ R Rs h1 h2 =>
            simp only [contig, Bool.and_eq_true, beq_iff_eq] at hcg
            obtain ⟨ho, hcg⟩ := hcg
            obtain ⟨⟨dd, pp⟩, hy⟩ := hall f (by simp)
            rw [ho] at hy
            obtain ⟨⟨y1, a1, a2⟩, a3, a4⟩ := h1 H enc W spare held fuel _ dd pp hy
            obtain ⟨b0, ⟨y2, b1, b2⟩, b3⟩ := ih Rs _ hcg h2 (fun g hg => hall g (by simp [hg]))
            have e : cs.drop o = (cs.drop o).take (P.cellsOf f.type) ++ cs.drop (o + P.cellsOf f.type) := by
              rw [← List.drop_drop, List.take_append_drop]
            refine ⟨by omega, ⟨y1 ++ y2, ⟨y1, a1, y2, b1, rfl⟩, by rw [e]; exact a2.app b2⟩, ?_⟩
            rw [e]
            intro v hv
            rcases List.mem_append.1 hv with hv | hv
            · exact a3 v hv
            · exact b3 v hv
      obtain ⟨_, k2, k3⟩ := key fs.toList Rs 0 hc hR (fun f hf => mapM_some hm f hf)
      exact ⟨by simpa using k2, by simpa using k3, hlen⟩
theorem Opens.mono {R R' : List AV → Prop} (h : Opens P Z t R) (hR : ∀ y, R y → R' y) : Opens P Z t R' := fun H enc W spare held fuel cs d p ht => by
  obtain ⟨⟨y, a, b⟩, c⟩ := h H enc W spare held fuel cs d p ht
  exact ⟨⟨y, hR y a, b⟩, c⟩
theorem list_of {α : Type} {f : α → List AV} {zs : List (List AV)} (h : ∀ z ∈ zs, ∃ x, z = f x) : ∃ xs : List α, zs = xs.map f := by
  induction zs with
  | nil => exact ⟨[], rfl⟩
  | cons z zs ih =>
    obtain ⟨x, rfl⟩ := h z (by simp)
    obtain ⟨xs, rfl⟩ := ih (fun z hz => h z (by simp [hz]))
    exact ⟨x :: xs, rfl⟩
theorem opens_list {α : Type} {f : α → List AV} {e : TypeId} {n : Nat} (hu : P.underlying t = some (.slice e)) (hc : P.cellsOf t = 1) (h1 : P.cellsOf e = n + 1) (h2 : Z e = n + 1) (hR : Opens P Z e fun y => ∃ x, y = f x) :
    Opens P Z t fun y => ∃ xs : List α, y = [.ls .o e (xs.map f)] := by
  refine (opens_slice hu hc (h1.trans h2.symm) (by omega) hR).mono fun y hy => ?_
  obtain ⟨zs, h1, rfl⟩ := hy
  obtain ⟨xs, rfl⟩ := list_of h1
  exact ⟨xs, rfl⟩
end
end Go.Proofs.AM
