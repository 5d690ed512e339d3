/- A part of the proof: the walk of functions of the program, or the rules of the walk. -/
import Derived.Test.YthilnfccfjcgfaaGreatAmEq
set_option linter.unusedSimpArgs false
set_option linter.unusedVariables false
namespace Go.Proofs.AM
open Go

section
variable {P : Program} (w : World)
/-- a key that can be compared passes as a key -/
theorem ckC_ok (em : Bool) (d : Nat) : ∀ (m : Nat) (t : TypeId) (xs : List Value) (r : Bool) (a : Value), eqC P m t xs xs = some r → a.formed P t = true → a.cells.toList = xs → (Instr.checkKey em (d + m) t a).run P w = .ok () w
  | 0, _, _, _, _, h, _, _ => by simp [eqC] at h
  | m + 1, t, xs, r, a, h, fa, ha => by
    subst ha
    unfold eqC at h
    cases hu : P.underlying t with
    | none => simp [hu] at h
    | some k =>
      simp only [hu] at h
      cases k <;> simp only at h
      case bool =>
        split at h
        · rename_i p q e1 e2
          have : a = .bool p := by cases a <;> simp_all [Value.cells, Value.formed]
          subst a
          rw [show d + (m + 1) = (d + m) + 1 from rfl, Instr.checkKey]
          simp [run_underlying hu]
        · cases h
      case int q =>
        split at h
        · rename_i k1 p k2 q e1 e2
          have : a = .int k1 p := by cases a <;> simp_all [Value.cells, Value.formed]
          subst a
          rw [show d + (m + 1) = (d + m) + 1 from rfl, Instr.checkKey]
          simp [run_underlying hu]
        · cases h
      case struct fs =>
        split at h
        · rename_i hh
          obtain ⟨l1, l2, l3, l4⟩ := hh
          cases a <;> simp only [Value.formed, hu, Bool.false_eq_true] at fa
          rename_i A
          simp only [Value.cells] at h
          rw [show d + (m + 1) = (d + m) + 1 from rfl, Instr.checkKey]
          simp only [Sem.run_bind, run_underlying hu, Result.andThen_ok]
          rw [← Array.forIn_toList]
          have hn : ∀ f ∈ fs.toList, f.name ≠ "_" := fun f hf => by have := List.all_eq_true.1 l4 f hf; simpa using this
          clear l4
          generalize fs.toList = L at h hn
          induction L generalizing r with
          | nil => simp
          | cons f L ih =>
            rw [List.foldr_cons] at h
            split at h
            · rename_i x y e1 e2
              obtain ⟨p, p1, p2, p3⟩ := eqC_part w (xs := A) (.inl e1)
              have p4 := ckC_ok em d m f.type _ x p e1 p2 p3
              simp only [List.forIn_cons, Sem.run_bind, hn f (by simp), ne_eq, not_false_eq_true, if_true, Result.andThen_ok, p1, p4, Sem.run_pure]
              exact ih y e2 (fun g hg => hn g (by simp [hg]))
            · cases h
        · cases h
      all_goals (cases h)
end

/-- a type of maps from places to numbers -/
structure MapT (P : Program) (t : TypeId) : Prop where
  ty : ∃ K E, P.underlying t = some (.map K E) ∧ (∃ fs, P.underlying K = some (.struct fs)) ∧ (∀ x y w, (Op.equal K (pV x) (pV y)).run P w = .ok (decide (x = y)) w) ∧
    (∀ e x w, (Instr.checkKey e 10000 K (pV x)).run P w = .ok () w) ∧ ∀ w, (zeroValue E).run P w = .ok (.int .i64 0) w

def posK : List (Place × Int) → Place → Nat → Option (Nat × Int)
  | [], _, _ => none
  | p :: l, x, i => if x = p.1 then some (i, p.2) else posK l x (i + 1)
def addK (M : List (Place × Int)) (x : Place) : List (Place × Int) := if (posK M x 0).isSome then M else M ++ [(x, 0)]
theorem posK_lk {M : List (Place × Int)} {x : Place} (i : Nat) : ((posK M x i).map (·.2)).getD 0 = lk M x := by
  induction M generalizing i with
  | nil => rfl
  | cons p l ih => unfold posK lk; split <;> simp [ih]
theorem posK_spec {M : List (Place × Int)} {x : Place} {i j : Nat} {n : Int} (h : posK M x i = some (j, n)) : i ≤ j ∧ M[j - i]? = some (x, n) := by
  induction M generalizing i with
  | nil => cases h
  | cons p l ih =>
    unfold posK at h
    split at h
    · rename_i e; cases h; subst e; simp
    · obtain ⟨h1, h2⟩ := ih h
      refine ⟨by omega, ?_⟩
      rw [show j - i = (j - (i + 1)) + 1 by omega, List.getElem?_cons_succ]; exact h2
theorem mE_get {M : List (Place × Int)} {s j : Nat} : (mE s M)[j]? = (M[j]?).map fun p => ⟨pV p.1, .int .i64 p.2, s + j⟩ := by
  induction M generalizing s j with
  | nil => simp [mE]
  | cons p l ih =>
    cases j with
    | zero => simp [mE]
    | succ j => simp only [mE, List.getElem?_cons_succ, ih]; congr 1; funext q; congr 1; omega
theorem mE_len {M : List (Place × Int)} {s : Nat} : (mE s M).length = M.length := by
  induction M generalizing s with
  | nil => rfl
  | cons p l ih => simp [mE, ih]
theorem mE_snoc {M : List (Place × Int)} {s : Nat} {p : Place × Int} : mE s (M ++ [p]) = mE s M ++ [⟨pV p.1, .int .i64 p.2, s + M.length⟩] := by
  induction M generalizing s with
  | nil => simp [mE]
  | cons q l ih => simp only [List.cons_append, mE, ih, List.length_cons]; congr 4; omega
theorem addK_pos (M : List (Place × Int)) (x : Place) : ∃ j, posK (addK M x) x 0 = some (j, lk M x) ∧ j < (addK M x).length := by
  unfold addK
  split
  · rename_i h
    obtain ⟨⟨j, n⟩, hj⟩ := Option.isSome_iff_exists.1 h
    have e := posK_lk (M := M) (x := x) 0
    rw [hj] at e
    simp at e
    subst e
    have := (posK_spec hj).2
    exact ⟨j, hj, by rw [Nat.sub_zero] at this; exact (List.getElem?_eq_some_iff.1 this).1⟩
  · rename_i h
    have h : posK M x 0 = none := by simpa using h
    have e := posK_lk (M := M) (x := x) 0
    rw [h] at e
    simp at e
    have key : ∀ (l : List (Place × Int)) (i : Nat), posK l x i = none → posK (l ++ [(x, 0)]) x i = some (i + l.length, 0) := by
      intro l
      induction l with
      | nil => intro i _; simp [posK]
      | cons p l ih =>
        intro i hi
        unfold posK at hi
        split at hi
        · cases hi
        · rename_i hne
          simp only [List.cons_append, posK, if_neg hne, ih _ hi, List.length_cons]; congr 2; omega
    exact ⟨M.length, by rw [key M 0 h, ← e]; simp, by simp⟩

section
variable {P : Program} {w : World} {t : TypeId} {r : Nat} {M : List (Place × Int)}
theorem run_findAsk {K : TypeId} (heq : ∀ x y w, (Op.equal K (pV x) (pV y)).run P w = .ok (decide (x = y)) w) (x : Place) : ∀ (M : List (Place × Int)) (s i : Nat),
    (Instr.findAsking K (pV x) (mE s M) i).run P w = .ok ((posK M x i).map fun p => (p.1, .int .i64 p.2)) w
  | [], s, i => by simp [mE, Instr.findAsking, posK]
  | p :: l, s, i => by
    simp only [mE, Instr.findAsking, Sem.run_bind, heq, Result.andThen_ok, posK]
    by_cases h : x = p.1
    · simp [h]
    · simp only [decide_eq_false h, if_neg h, Bool.false_eq_true, if_false]
      exact run_findAsk heq x l (s + 1) (i + 1)
theorem run_findK {K : TypeId} (hs : ∃ fs, P.underlying K = some (.struct fs)) (heq : ∀ x y w, (Op.equal K (pV x) (pV y)).run P w = .ok (decide (x = y)) w) (x : Place) (M : List (Place × Int)) :
    (Instr.findKey K (pV x) (mE 0 M)).run P w = .ok ((posK M x 0).map fun p => (p.1, .int .i64 p.2)) w := by
  obtain ⟨fs, hs⟩ := hs
  unfold Instr.findKey
  simp only [Sem.run_bind, run_underlying hs, Result.andThen_ok]
  cases M with
  | nil => simp [mE, Instr.findNow, posK]
  | cons p l =>
    have : Instr.findNow (.struct fs) (pV x) (mE 0 (p :: l)) 0 = none := by simp [mE, Instr.findNow, Instr.sameNow, pV]
    rw [this]
    exact run_findAsk heq x (p :: l) 0 0
theorem run_lookupM (hT : MapT P t) (hb : w.heap[r]? = some (mO M)) (x : Place) : (Instr.lookup t (.map (some r)) (pV x) false).run P w = .ok (.int .i64 (lk M x)) w := by
  obtain ⟨K, E, ty, st, eq, ck, zero⟩ := hT.ty
  have e := posK_lk (M := M) (x := x) 0
  have hg : (getObj r).run P w = .ok (.map (mE 0 M).toArray M.length) w := by simp [getObj, Sem.run, hb, mO]
  simp only [Instr.lookup, Sem.run_bind, run_underlying ty, Result.andThen_ok, hg, ck, run_findK st eq, Sem.run_pure]
  cases hp : posK M x 0 with
  | none => rw [hp] at e; simp at e; simp [zero, ← e]
  | some p => rw [hp] at e; simp at e; simp [← e]
theorem run_mapEntryM (hT : MapT P t) (hb : w.heap[r]? = some (mO M)) (x : Place) : ∃ j, posK (addK M x) x 0 = some (j, lk M x) ∧ j < (addK M x).length ∧
    (Instr.mapEntry t (.map (some r)) (pV x)).run P w = .ok (.tuple #[.int .i64 (lk M x), .int .i64 (j : Nat)]) { w with heap := w.heap.setIfInBounds r (mO (addK M x)) } := by
  obtain ⟨K, E, ty, st, eq, ck, zero⟩ := hT.ty
  obtain ⟨j, hj, hjl⟩ := addK_pos M x
  refine ⟨j, hj, hjl, ?_⟩
  have hg : (getObj r).run P w = .ok (.map (mE 0 M).toArray M.length) w := by simp [getObj, Sem.run, hb, mO]
  have hset : ∀ o, (setObj r o).run P w = .ok () { w with heap := w.heap.setIfInBounds r o } := fun o => by simp [setObj, Sem.run, hb, mO]
  simp only [Instr.mapEntry, Sem.run_bind, run_underlying ty, Result.andThen_ok, hg, ck, run_findK st eq, Sem.run_pure]
  cases hp : posK M x 0 with
  | none =>
    have ha : addK M x = M ++ [(x, 0)] := by unfold addK; rw [hp]; rfl
    have e := posK_lk (M := M) (x := x) 0
    rw [hp] at e
    simp at e
    have hjn : j = M.length := by
      have h1 := posK_spec hj
      rw [Nat.sub_zero, ha] at h1
      rcases Nat.lt_or_ge j M.length with hlt | hge
      · rw [List.getElem?_append_left hlt] at h1
        have h2 : ∀ (l : List (Place × Int)) (i : Nat), posK l x i = none → ∀ p ∈ l, p.1 ≠ x := by
          intro l
          induction l with
          | nil => simp
          | cons q l ih =>
            intro i hi p hp
            unfold posK at hi
            split at hi
            · cases hi
            · rename_i hne
              rcases List.mem_cons.1 hp with rfl | hp
              · exact fun e => hne e.symm
              · exact ih _ hi p hp
        exact absurd rfl (h2 M 0 hp _ (List.mem_of_getElem? h1.2))
      · rw [ha] at hjl; simp at hjl; omega
    simp only [Option.map_none, Sem.run_bind, zero, Result.andThen_ok, hset, Sem.run_pure]
    rw [ha, ← e, hjn]
    have : mO (M ++ [(x, 0)]) = .map ((mE 0 M).toArray.push { key := pV x, val := .int .i64 0, born := M.length }) (M.length + 1) := by
      unfold mO; rw [mE_snoc]; simp
    rw [this]
    rfl
  | some q =>
    obtain ⟨j0, n⟩ := q
    have ha : addK M x = M := by unfold addK; rw [hp]; rfl
    rw [ha] at hj
    rw [hp] at hj
    cases hj
    have h1 := (posK_spec hp).2
    rw [Nat.sub_zero] at h1
    have h2 : (mE 0 M)[j]? = some ⟨pV x, .int .i64 (lk M x), 0 + j⟩ := by rw [mE_get, h1]; rfl
    have h3 : (mE 0 M).toArray[j]? = some ⟨pV x, .int .i64 (lk M x), 0 + j⟩ := by rw [List.getElem?_toArray]; exact h2
    have hk : (Instr.keyThatStays (pV x) (pV x)).run P w = .ok (pV x) w := by
      unfold Instr.keyThatStays
      have : Instr.sameBits 10000 (pV x) (pV x) = true := by
        rw [show (10000 : Nat) = 9999 + 1 from rfl]
        simp [Instr.sameBits, pV]
      rw [this]; rfl
    have hm : (mE 0 M).toArray.modify j (fun e => { e with key := pV x }) = (mE 0 M).toArray := by
      apply Array.ext_getElem?
      intro i
      rw [Array.getElem?_modify]
      split
      · rename_i e; subst e; rw [h3]; rfl
      · rfl
    simp only [Option.map_some, Sem.run_bind, h3, Option.getD_some, hk, Result.andThen_ok, hset, Sem.run_pure, hm]
    rw [ha]
    have : (j : Int) = ((0 + j : Nat) : Int) := by omega
    rw [this]
    rfl
theorem run_entryStoreM (hb : w.heap[r]? = some (mO M)) {j : Nat} {x : Place} {n : Int} (hj : M[j]? = some (x, n)) (v : Int) (t : TypeId) :
    (Instr.entryStore t (.map (some r)) (.int .i64 (j : Nat)) (.int .i64 v)).run P w = .ok () { w with heap := w.heap.setIfInBounds r (mO (M.set j (x, v))) } := by
  have hg : (getObj r).run P w = .ok (.map (mE 0 M).toArray M.length) w := by simp [getObj, Sem.run, hb, mO]
  have hset : ∀ o, (setObj r o).run P w = .ok () { w with heap := w.heap.setIfInBounds r o } := fun o => by simp [setObj, Sem.run, hb, mO]
  have hlt : j < M.length := (List.getElem?_eq_some_iff.1 hj).1
  have h3 : ∀ i, (mE 0 M).toArray[i]? = (M[i]?).map fun p => (⟨pV p.1, .int .i64 p.2, 0 + i⟩ : MapEntry) := fun i => by rw [List.getElem?_toArray]; exact mE_get
  have hf : (mE 0 M).toArray.findIdx? (fun e => (e.born : Int) == (j : Int)) = some j := by
    rw [Array.findIdx?_eq_some_iff_findIdx_eq]
    have hsz : (mE 0 M).toArray.size = M.length := by simp [mE_len]
    refine ⟨by rw [hsz]; exact hlt, ?_⟩
    rw [Array.findIdx_eq (by rw [hsz]; exact hlt)]
    have gb : ∀ i (hi : i < (mE 0 M).toArray.size), ((mE 0 M).toArray[i]).born = i := by
      intro i hi
      have := h3 i
      rw [Array.getElem?_eq_getElem hi] at this
      cases hq : M[i]? with
      | none => rw [hq] at this; cases this
      | some q => rw [hq, Option.map_some] at this; rw [Option.some.inj this]; simp
    refine ⟨by rw [gb]; simp, fun i hi => ?_⟩
    rw [gb]; simp; omega
  have hm : (mE 0 M).toArray.modify j (fun e => { e with val := .int .i64 v }) = (mE 0 (M.set j (x, v))).toArray := by
    apply Array.ext_getElem?
    intro i
    rw [Array.getElem?_modify, h3, List.getElem?_toArray, mE_get, List.getElem?_set]
    by_cases e : j = i
    · subst e; rw [if_pos rfl, if_pos rfl, hj]; simp [hlt]
    · rw [if_neg e, if_neg e]
  have hai : (asInt (.int .i64 (j : Nat)) : Sem Int).run P w = .ok (j : Int) w := by simp [asInt, asIntOf, Sem.run_bind]
  simp only [Instr.entryStore, Sem.run_bind, hg, Result.andThen_ok, hai, hf, hset, hm]
  unfold mO
  rw [List.length_set]
end
end Go.Proofs.AM
