/- A part of the proof: the walk of functions of the program, or the rules of the walk. -/
import Derived.Test.YthilnfccfjcgfaaGreatAmApp
import Derived.Great.BuildSlice
import Derived.Laws.OwnMore
set_option linter.unusedSimpArgs false
set_option linter.unusedVariables false
namespace Go.Proofs.AM
open Go

section
variable {c : Cx} {st st' : St} {a : Act} {w w' : World} {φ φ' : Nat → Option Hd} {fp : Nat → List Nat} {o : Oper} {K : Act → World → Prop} {Q : Exit → Act → World → Prop}

/-! ### structs and literals of slices -/
theorem fold_set (off : Nat) (vs : List Value) (k : Nat) (cells : Array Value) (h : off + k + vs.length ≤ cells.size) :
    ((vs.zipIdx k).foldl (fun cs (p : Value × Nat) => cs.setIfInBounds (off + p.2) p.1) cells).toList = cells.toList.take (off + k) ++ (vs ++ cells.toList.drop (off + k + vs.length)) := by
  induction vs generalizing k cells with
  | nil => simp
  | cons v vs ih =>
    simp only [List.length_cons] at h
    rw [List.zipIdx_cons, List.foldl_cons, ih (k + 1) _ (by simp; omega)]
    rw [Array.toList_setIfInBounds, ← Nat.add_assoc]
    rw [List.take_set, List.drop_set_of_lt (by omega), List.take_succ_eq_append_getElem (by simp; omega), List.set_append_right _ _ (by simp; exact Nat.min_le_left _ _)]
    simp only [List.length_take, Array.length_toList, Nat.min_eq_left (show off + k ≤ cells.size by omega), Nat.sub_self, List.set_cons_zero, List.append_assoc, List.cons_append, List.nil_append, List.length_cons]
    rw [show off + k + 1 + vs.length = off + k + (vs.length + 1) by omega]
theorem fold_cells (off : Nat) (v : Value) (cells : Array Value) (h : off + v.cells.size ≤ cells.size) :
    (v.cells.zipIdx.foldl (fun cs (p : Value × Nat) => cs.setIfInBounds (off + p.2) p.1) cells).toList = cells.toList.take off ++ (v.cells.toList ++ cells.toList.drop (off + v.cells.size)) := by
  have e : v.cells.zipIdx.foldl (fun cs (p : Value × Nat) => cs.setIfInBounds (off + p.2) p.1) cells = (v.cells.toList.zipIdx 0).foldl (fun cs (p : Value × Nat) => cs.setIfInBounds (off + p.2) p.1) cells := by
    rw [← Array.foldl_toList, Array.toList_zipIdx]
  rw [e, fold_set off v.cells.toList 0 cells (by simpa using h)]
  simp

theorem fillA_fill {Z : SzF} {Sf : Fl → Nat → Prop} {fs : List (Nat × Nat)} {ps : List (Nat × AV)} {qs : List (Nat × Value)} {cs cs' : List AV} {cells : Array Value}
    (hf : fillA fs cs ps = some cs') (hr : RepXs Z w Sf φ cs cells.toList []) (h1 : ∀ v ∈ cells.toList, v.oneCell' = true) (hp : ∀ (j : Nat) (p : Nat × AV), ps[j]? = some p → ∃ v : Value, qs[j]? = some (p.1, v) ∧ RepX Z w Sf φ p.2 v []) (hl : ps.length = qs.length) :
    ∃ cells', Instr.fill (fs.toArray[·]?) cells qs = some cells' ∧ RepXs Z w Sf φ cs' cells'.toList [] ∧ ∀ v ∈ cells'.toList, v.oneCell' = true := by
  induction ps generalizing qs cs cells with
  | nil =>
    simp only [fillA, Option.some.injEq] at hf
    subst hf
    cases qs with
    | nil => exact ⟨cells, rfl, hr, h1⟩
    | cons q qs => simp at hl
  | cons p ps ih =>
    cases qs with
    | nil => simp at hl
    | cons q qs =>
      obtain ⟨f, x⟩ := p
      obtain ⟨v, hv, hxv⟩ := hp 0 (f, x) rfl
      simp at hv
      subst hv
      replace hxv : RepX Z w Sf φ x v [] := hxv
      unfold fillA at hf
      split at hf
      · rename_i off sz hfs
        split at hf
        · rename_i hc
          obtain ⟨k1, k2⟩ := hxv.cells hc.2.2
          have hcl : v.cells.size = sz := by have := k1.length; simp at this; omega
          have hcs : cells.size = cs.length := by have := hr.length; simpa using this
          have hr2 : RepXs Z w Sf φ (putAt cs off x.cells) (v.cells.zipIdx.foldl (fun cs (p : Value × Nat) => cs.setIfInBounds (off + p.2) p.1) cells).toList [] := by
            rw [putAt_eq _ _ _ (by omega), fold_cells off v cells (by omega)]
            obtain ⟨F1, F2, F3, hF, hs⟩ := hr.splice k1 (q := off) (by omega)
            have e1 : F1 = [] ∧ F3 = [] := by
              have := congrArg List.length hF
              simp at this
              exact ⟨List.eq_nil_of_length_eq_zero (by omega), List.eq_nil_of_length_eq_zero (by omega)⟩
            rw [e1.1, e1.2] at hs
            rw [hcl, ← hc.1]
            simpa using hs
          have h2 : ∀ u ∈ (v.cells.zipIdx.foldl (fun cs (p : Value × Nat) => cs.setIfInBounds (off + p.2) p.1) cells).toList, u.oneCell' = true := by
            rw [fold_cells off v cells (by omega)]
            intro u hu
            simp only [List.mem_append] at hu
            rcases hu with hu | hu | hu
            · exact h1 u (List.mem_of_mem_take hu)
            · exact k2 u hu
            · exact h1 u (List.mem_of_mem_drop hu)
          obtain ⟨cells', g1, g2, g3⟩ := ih hf hr2 h2 (fun j p hj => hp (j + 1) p (by simpa using hj)) (by simpa using hl)
          refine ⟨cells', ?_, g2, g3⟩
          rw [Instr.fill]
          have e2 : fs.toArray[f]? = some (off, sz) := by simpa using hfs
          simp only [e2]
          rw [if_neg (by
            simp only [Bool.or_eq_true, decide_eq_true_eq]
            omega)]
          exact g1
        · cases hf
      · cases hf

theorem mapM_fields {P : Program} {l : List Field} {fs : List (Nat × Nat)} (hl : l.length = fs.length)
    (h : ∀ (j : Nat) (f : Field), l[j]? = some f → ∃ (n : Nat) (i : TypeInfo), fs[j]? = some (f.offset, n) ∧ P.info? f.type = some i ∧ i.size = n ∧ 0 < n) :
    l.mapM (fun f => (P.info? f.type).map fun i => (f.offset, i.size)) = some fs := by
  induction l generalizing fs with
  | nil => cases fs with
    | nil => rfl
    | cons => simp at hl
  | cons f l ih =>
    cases fs with
    | nil => simp at hl
    | cons p fs =>
      obtain ⟨n, i, h1, h2, h3, h4⟩ := h 0 f rfl
      simp at h1
      have := ih (fs := fs) (by simpa using hl) (fun j f hj => by simpa using h (j + 1) f (by simpa using hj))
      simp [List.mapM_cons, h2, this, h1, h3]

theorem wp_build {t : TypeId} {parts : Array (Nat × Operand)} {i : TI} {fs : List (Nat × Nat)} {cs : List AV} (ho : o.op = .build t parts) (hT : TOk c.P c.T) (h : RelX c st a w φ fp) (hi : c.T.get t = some i) (hd : i.d = .struct fs)
    (hf : fillA fs i.zero (parts.toList.map fun p => (p.1, evo st p.2)) = some cs) (hK : ∀ a' w', Rel c (st.put o.dst (.agg cs)) a' w' → K a' w') : o.wp c.P a w K Q := by
  obtain ⟨⟨inf, z, q1, q2, q3, q4, q5, q6⟩, hpos, hdd⟩ := hT t i hi
  rw [hd] at hdd
  obtain ⟨fields, u1, u2, u3⟩ := hdd
  have hm := mapM_fields (P := c.P) (l := fields.toList) (fs := fs) (by simpa using u2) (fun j f hj => u3 j f (by simpa using hj))
  obtain ⟨cells', g1, g2, g3⟩ := fillA_fill (qs := parts.toList.map fun p => (p.1, a.eval p.2)) hf (q5.rep c.T.Z w (c.Sf w φ) φ) q5.one (fun j p hj => by
    simp only [List.getElem?_map, Option.map_eq_some_iff] at hj
    obtain ⟨q, hq, rfl⟩ := hj
    exact ⟨a.eval q.2, by simp [hq], h.ev q.2⟩) (by simp)
  refine wp_value (w' := w) (v := .agg cells') ?_ (hK _ _ ⟨φ, fp, h.put _ ?_⟩)
  · have hb : c.P.built t (parts.map fun (i, x) => (i, a.eval x)).toList = some cells' := by
      unfold Program.built
      rw [q1, u1]
      simp only [q2, hm]
      rw [Array.toList_map]
      exact g1
    have := run_build (P := c.P) w t (parts.map fun (i, x) => (i, a.eval x)) cells' hb
    simp only [execOp, ho, Sem.run_bind, this, Result.andThen_ok]
    rfl
  · have := RepX.agg g2 g3
    simpa using this

theorem chunk_len (n k : Nat) (l : List AV) : (chunk n k l).length = k := by
  induction k generalizing l with
  | zero => rfl
  | succ k ih => simp [chunk, ih]
theorem chunk_flat (n k : Nat) (l : List AV) (h : l.length = k * n) : (chunk n k l).flatten = l := by
  induction k generalizing l with
  | zero => have : l = [] := List.eq_nil_of_length_eq_zero (by omega); subst this; rfl
  | succ k ih => rw [chunk, List.flatten_cons, ih _ (by simp [h, Nat.add_mul]), List.take_append_drop]
theorem chunk_each (n k : Nat) (l : List AV) (h : l.length = k * n) : ∀ x ∈ chunk n k l, x.length = n := by
  induction k generalizing l with
  | zero => intro x hx; simp [chunk] at hx
  | succ k ih =>
    intro x hx
    simp only [chunk, List.mem_cons] at hx
    rcases hx with rfl | hx
    · simp [h, Nat.add_mul]
    · exact ih _ (by simp [h, Nat.add_mul]) x hx

theorem fill_seq (s : Nat) (qs : List (Nat × Value)) (k : Nat) (cells : Array Value) (h1 : qs.map (·.1) = List.range' k qs.length) (h2 : ∀ q ∈ qs, q.2.cells.size = s) (h3 : cells.size = (k + qs.length) * s) :
    ∃ cells', Instr.fill (fun i => some (i * s, s)) cells qs = some cells' ∧ cells'.toList = cells.toList.take (k * s) ++ (qs.flatMap fun q => q.2.cells.toList) := by
  induction qs generalizing k cells with
  | nil => refine ⟨cells, rfl, ?_⟩; simp at h3; rw [List.take_of_length_le (by simp; omega)]; simp
  | cons q qs ih =>
    obtain ⟨j, v⟩ := q
    simp only [List.map_cons, List.length_cons, List.range'_succ, List.cons.injEq] at h1
    obtain ⟨rfl, h1⟩ := h1
    have hv : v.cells.size = s := h2 (j, v) (by simp)
    simp only [List.length_cons] at h3
    have hle : j * s + s ≤ cells.size := by
      rw [h3, Nat.add_mul, Nat.add_mul]; omega
    obtain ⟨cells', g1, g2⟩ := ih (j + 1) (v.cells.zipIdx.foldl (fun cs (p : Value × Nat) => cs.setIfInBounds (j * s + p.2) p.1) cells) h1 (fun q hq => h2 q (by simp [hq])) (by
      have := congrArg List.length (fold_cells (j * s) v cells (by omega))
      simp only [Array.length_toList, List.length_append, List.length_take, List.length_drop] at this
      rw [this, hv]
      rw [show j + 1 + qs.length = j + (qs.length + 1) by omega, ← h3]
      omega)
    refine ⟨cells', ?_, ?_⟩
    · rw [Instr.fill]
      simp only
      rw [if_neg (by simp only [Bool.or_eq_true, decide_eq_true_eq]; omega)]
      exact g1
    · rw [g2, fold_cells (j * s) v cells (by omega)]
      have e1 : (j + 1) * s = j * s + s := by rw [Nat.add_mul]; omega
      have e2 : (cells.toList.take (j * s)).take (j * s + s) = cells.toList.take (j * s) := List.take_of_length_le (by simp; omega)
      have e3 : v.cells.toList.take s = v.cells.toList := List.take_of_length_le (by simp; omega)
      rw [e1, List.take_append, e2, List.length_take, Array.length_toList, Nat.min_eq_left (by omega)]
      rw [show j * s + s - j * s = s by omega, List.take_append, e3]
      simp [hv]

theorem RepXs.flat {Z : SzF} {Sf : Fl → Nat → Prop} {st : St} {a : Act} (parts : List (Nat × Operand)) (h : ∀ p ∈ parts, RepX Z w Sf φ (evo st p.2) (a.eval p.2) []) (hl : (parts.flatMap fun p => (evo st p.2).cells).all leafB = true) :
    RepXs Z w Sf φ (parts.flatMap fun p => (evo st p.2).cells) (parts.flatMap fun p => (a.eval p.2).cells.toList) [] ∧ (∀ u ∈ parts.flatMap fun p => (a.eval p.2).cells.toList, u.oneCell' = true) := by
  induction parts with
  | nil => exact ⟨.nil, by simp⟩
  | cons p ps ih =>
    simp only [List.flatMap_cons, List.all_append, Bool.and_eq_true] at hl
    obtain ⟨k1, k2⟩ := (h p (by simp)).cells hl.1
    obtain ⟨i1, i2⟩ := ih (fun p hp => h p (by simp [hp])) hl.2
    refine ⟨by simpa using k1.append i1, ?_⟩
    intro u hu
    simp only [List.flatMap_cons, List.mem_append] at hu
    rcases hu with hu | hu
    · exact k2 u hu
    · exact i2 u hu

theorem close_leaf : ∀ (l : List AV) (m : List AV) (q : List Nat), close st l = some (m, q) → l.all leafB = true := by
  intro l
  induction l with
  | nil => intro _ _ _; rfl
  | cons z l ih =>
    intro m q hh
    unfold close at hh
    split at hh
    · rename_i y' p' m' q' e1 e2
      simp only [List.all_cons, Bool.and_eq_true]
      refine ⟨?_, ih _ _ e2⟩
      cases z <;> first | rfl | (simp [close1] at e1)
    · cases hh

theorem wp_buildSlice' {t E : TypeId} {len : Nat} {parts : Array (Nat × Operand)} {i ie : TI} {cs : List AV} {ks : List Nat} (ho : o.op = .buildSlice t len parts) (hT : TOk c.P c.T) (hG : c.Good) (h : RelX c st a w φ fp) (hi : c.T.get t = some i) (hd : i.d = .slice E) (hie : c.T.get E = some ie)
    (hc : close st (parts.toList.flatMap fun p => (evo st p.2).cells) = some (cs, ks)) (hdup : dup ks = false) (hp1 : parts.toList.map (·.1) = List.range len) (hp2 : ∀ p ∈ parts.toList, (evo st p.2).cells.length = ie.size) (hp3 : len * ie.size ≤ 16777216)
    (hK : ∀ a' w', Rel c ({ (st.sweep ks) with hp := (st.nx, ⟨E, false, chunk ie.size len cs⟩) :: (st.sweep ks).hp, nx := st.nx + 1 }.put o.dst (.rf st.nx 0 len)) a' w' → K a' w') : o.wp c.P a w K Q := by
  have hTi := hT t i hi
  have hu := hTi.d
  rw [hd] at hu
  obtain ⟨⟨inf, z, q1, q2, q3, q4, q5, q6⟩, hpos, _⟩ := hT E ie hie
  have hZ := hT.z hie
  obtain ⟨r1, r2⟩ := RepXs.flat (Z := c.T.Z) (w := w) (Sf := c.Sf w φ) (φ := φ) (st := st) (a := a) parts.toList (fun p _ => h.ev p.2) (close_leaf _ _ _ hc)
  obtain ⟨Fn, i1, i2, i3, i4, i5⟩ := close_rep h r1 hc hdup
  have hlen : parts.toList.length = len := by have := congrArg List.length hp1; simpa using this
  have hvl : (parts.toList.flatMap fun p => (a.eval p.2).cells.toList).length = len * ie.size := by
    rw [← hlen]
    have key : ∀ l : List (Nat × Operand), (∀ p ∈ l, (evo st p.2).cells.length = ie.size) → (l.flatMap fun p => (evo st p.2).cells).length = l.length * ie.size := by
      intro l
      induction l with
      | nil => simp
      | cons p l ih => intro hh; simp [ih (fun p hp => hh p (by simp [hp])), hh p (by simp), Nat.add_mul, Nat.add_comm]
    rw [r1.length, key _ hp2]
  have hcl : cs.length = len * ie.size := by rw [i5, ← r1.length, hvl]
  have hsize : ∀ q ∈ parts.toList.map (fun p => (p.1, a.eval p.2)), q.2.cells.size = ie.size := by
    intro q hq
    obtain ⟨p, hp, rfl⟩ := List.mem_map.1 hq
    have hlf : (evo st p.2).cells.all leafB = true := by
      have := close_leaf _ _ _ hc
      rw [List.all_eq_true] at this ⊢
      intro x hx
      exact this x (List.mem_flatMap.2 ⟨p, hp, hx⟩)
    have := ((h.ev p.2).cells hlf).1.length
    simp at this
    rw [this, hp2 p hp]
  have hmap : (parts.map fun (i, x) => (i, a.eval x)).toList = parts.toList.map (fun p => (p.1, a.eval p.2)) := by simp
  -- the run
  have hrun : ∃ cells : Array Value, cells.toList = (parts.toList.flatMap fun p => (a.eval p.2).cells.toList) ∧ (Instr.buildSlice t len (parts.map fun (i, x) => (i, a.eval x))).run c.P w = .ok (.slice (some ⟨w.heap.size, 0, none⟩) len len) (w.alloc (.cells cells E)) := by
    by_cases h0 : len = 0
    · subst h0
      have hp0 : parts = #[] := by
        have : parts.toList = [] := List.eq_nil_of_length_eq_zero hlen
        cases parts; simp_all
      subst hp0
      refine ⟨#[], by simp, ?_⟩
      simp [Instr.buildSlice, run_underlying hu, run_sizeO q1, Instr.fill, newRow, Array.range_zero']
    · obtain ⟨cells', g1, g2⟩ := fill_seq ie.size (parts.toList.map fun p => (p.1, a.eval p.2)) 0 ((Array.range (len * inf.size)).map (z.cells[· % z.cells.size]!)) (by
        rw [List.map_map]
        have e : ((fun x : Nat × Value => x.1) ∘ fun p : Nat × Operand => (p.1, a.eval p.2)) = (·.1) := rfl
        rw [e, hp1, List.length_map, hlen, List.range_eq_range']) hsize (by simp [hlen, q3])
      refine ⟨cells', ?_, ?_⟩
      · rw [g2]; simp [List.flatMap_map]
      · have := run_buildSlice (P := c.P) w t E len (parts.map fun (i, x) => (i, a.eval x)) cells' inf z hu q1 q2 (by rw [q3]; omega) (by rw [q3]; exact Nat.mul_ne_zero h0 (by omega)) (by rw [hmap, q3]; rw [q3] at g1; exact g1)
        exact this
  obtain ⟨cells, hc1, hc2⟩ := hrun
  have hks : ∀ k ∈ ks, st.kp ≤ k := fun k hk => (i4 k hk).1
  have hcsz : cells.size = len * ie.size := by rw [← Array.length_toList, hc1, hvl]
  obtain ⟨φ', fp', e1, e2⟩ := h.relay (w' := w.alloc (.cells cells E)) hG ks st.nx E (chunk ie.size len cs) (some (w.heap.size, 0, len)) (w.heap.size :: Fn) (st.nx + 1) (.inr ⟨rfl, rfl⟩) hks (by simp) rfl rfl rfl
    (fun b hb _ => heap_alloc_old w _ hb) (fun b hb => by simp at hb; exact .inr (by omega)) (by
      rw [List.nodup_cons]
      refine ⟨fun hh => ?_, i2⟩
      obtain ⟨k, p1, p2⟩ := i3 _ hh
      have := (h.rng k _ p2).1; omega) (fun b hb => by
      simp only [List.mem_cons] at hb
      simp only [World.size_alloc]
      rcases hb with rfl | hb
      · exact ⟨by omega, .inr (Nat.le_refl _)⟩
      · obtain ⟨k, p1, p2⟩ := i3 _ hb
        have := (h.rng k _ p2).1
        exact ⟨by omega, .inl ⟨k, p1, p2⟩⟩) (fun Sf hSf => by
      refine ⟨rfl, rfl, cells, Fn, heap_alloc_new w _, by simp [chunk_len], ?_, ?_, ?_, ?_, ?_, rfl⟩
      · have : len ≤ len * ie.size := Nat.le_mul_of_pos_right _ hpos
        unfold maxLen; omega
      · rw [hZ]; exact chunk_each _ _ _ hcl
      · rw [hZ, hcsz]; omega
      · rw [hc1]; exact r2
      · show RepXs _ _ _ _ (chunk ie.size len cs).flatten _ _
        rw [chunk_flat _ _ _ hcl]
        have e3 : ((cells.toList.drop 0).take ((chunk ie.size len cs).length * c.T.Z E)) = cells.toList := by
          rw [List.drop_zero, chunk_len, hZ, List.take_of_length_le (by simp [hcsz])]
        show RepXs _ _ _ _ _ ((cells.toList.drop 0).take ((chunk ie.size len cs).length * c.T.Z E)) _
        rw [e3, hc1]
        exact i1.mono (fun _ _ h => h) hSf (fun b hb => by
          obtain ⟨k, p1, p2⟩ := i3 _ hb
          exact heap_alloc_old w _ (h.rng k _ p2).1))
  refine wp_value ?_ (hK _ _ ⟨φ', fp', e2.put o.dst (.rf e1 (?_ : RfVal _ _ _ _ (.slice (some ⟨w.heap.size, 0, none⟩) len len)))⟩)
  · simp only [execOp, ho, Sem.run_bind, hc2, Result.andThen_ok]; rfl
  · exact ⟨by simp [chunk_len], .inl ⟨.inl rfl, by simp⟩⟩


theorem madeCells_flat (z : Array Value) (n s : Nat) (hs : z.size = s) : (madeCells z (n * s)).toList = (List.replicate n z.toList).flatten := by
  subst hs
  unfold madeCells
  rw [Array.toList_map, Array.toList_range]
  induction n with
  | zero => simp
  | succ n ih =>
    rw [Nat.add_mul, Nat.one_mul, List.range_add, List.map_append, ih, List.replicate_succ', List.flatten_append]
    congr 1
    rw [List.map_map]
    simp only [List.flatten_cons, List.flatten_nil, List.append_nil]
    apply List.ext_getElem
    · simp
    · intro i h1 h2
      simp at h1
      simp only [List.getElem_map, List.getElem_range, Function.comp, Array.getElem_toList]
      rw [Nat.mul_add_mod_self_right, Nat.mod_eq_of_lt h1, getElem!_pos z i h1]

theorem RepXs.replicate {Z : SzF} {Sf : Fl → Nat → Prop} {xs : List AV} {vs : List Value} (h : RepXs Z w Sf φ xs vs []) (n : Nat) : RepXs Z w Sf φ (List.replicate n xs).flatten (List.replicate n vs).flatten [] := by
  induction n with
  | zero => simpa using RepXs.nil
  | succ n ih => rw [List.replicate_succ, List.replicate_succ, List.flatten_cons, List.flatten_cons]; simpa using h.append ih

theorem wp_makeSlice {t E : TypeId} {l cp : Operand} {i ie : TI} {k k' : IntKind} {n : Int} (ho : o.op = .makeSlice t l cp) (hT : TOk c.P c.T) (hG : c.Good) (h : RelX c st a w φ fp) (hi : c.T.get t = some i) (hd : i.d = .slice E) (hie : c.T.get E = some ie)
    (hl : evo st l = .sc (.int k n)) (hc : evo st cp = .sc (.int k' n)) (h0 : 0 ≤ n) (hby : n * ie.bytes ≤ 140737488355328) (hm : n ≤ maxLen)
    (hK : ∀ a' w', Rel c { (st.put o.dst (.rf st.nx 0 n.toNat)) with hp := (st.nx, ⟨E, false, rep0 n.toNat ie.zero⟩) :: st.hp, nx := st.nx + 1 } a' w' → K a' w') : o.wp c.P a w K Q := by
  have hu := (hT t i hi).d
  rw [hd] at hu
  obtain ⟨⟨inf, z, q1, q2, q3, q4, q5, q6⟩, hpos, _⟩ := hT E ie hie
  have hZ := hT.z hie
  have hzl : z.cells.size = ie.size := by have := (q5.rep c.T.Z w (c.Sf w φ) φ).length; simp at this; omega
  have hml : maxLen = 9223372036854775807 := rfl
  have hrun := run_make (P := c.P) w t E inf z hu q1 q2 k k' n n h0 (Int.le_refl _) (by rw [q4, Int.mul_comm]; omega) (by rw [hml] at hm; exact hm)
  have hcells : (madeCells z.cells (n.toNat * inf.size)).toList = (List.replicate n.toNat z.cells.toList).flatten := madeCells_flat _ _ _ (by omega)
  have hlr : (rep0 n.toNat ie.zero).length = n.toNat := by simp [rep0]
  have hcsz : (madeCells z.cells (n.toNat * inf.size)).size = n.toNat * ie.size := by rw [size_madeCells, q3]
  obtain ⟨φ', fp', hr, hφ⟩ := h.new hG E false (rep0 n.toNat ie.zero) (madeCells z.cells (n.toNat * inf.size)) n.toNat o.dst (by rw [hlr]; exact Nat.le_refl _) (by omega)
    (by intro x hx; rw [hZ, List.eq_of_mem_replicate hx, q6]) (by rw [hcsz, hZ]; exact Nat.le_refl _)
    (by rw [hcells]; intro v hv; obtain ⟨l, hl1, hl2⟩ := List.mem_flatten.1 hv; rw [List.eq_of_mem_replicate hl1] at hl2; exact q5.one v hl2)
    (by
      rw [hlr, hZ, List.take_of_length_le (by rw [Array.length_toList, hcsz]; exact Nat.le_refl _), hcells]
      exact (q5.rep _ _ _ _).replicate _)
  refine wp_value (w' := w.alloc (.cells (madeCells z.cells (n.toNat * inf.size)) E)) (v := .slice (some ⟨w.heap.size, 0, none⟩) n.toNat n.toNat) ?_ (hK _ _ ⟨φ', fp', ?_⟩)
  · simp only [execOp, ho, h.scv hl, h.scv hc, Sem.run_bind, hrun, Result.andThen_ok]; rfl
  · have := hr.put o.dst (x := .rf st.nx 0 n.toNat) (v := .slice (some ⟨w.heap.size, 0, none⟩) n.toNat n.toNat) (.rf hφ ⟨by show 0 + n.toNat ≤ (rep0 n.toNat ie.zero).length; rw [hlr]; omega, .inl ⟨.inl rfl, by simp⟩⟩)
    cases hd : o.dst <;> rw [hd] at this <;> exact this

theorem run_indexS {P : Program} {t e : TypeId} {inf : TypeInfo} (ht : P.underlying t = some (.slice e)) (hi : P.info? e = some inf) (ad : Addr) (len cap : Nat) (k : IntKind) (i : Int) (h0 : 0 ≤ i) (h1 : i < len) :
    (Instr.indexAt t (.slice (some ad) len cap) (.int k i)).run P w = .ok (.pointer (some (ad.add (i.toNat * inf.size)))) w := by
  simp [Instr.indexAt, run_underlying ht, asIntOf, run_sizeO hi, h0, h1]

theorem wp_indexA_ls {t E : TypeId} {x ix : Operand} {i : TI} {k : IntKind} {n : Int} {fl : Fl} {xs : List (List AV)} {y : List AV} {ie : TI} (ho : o.op = .indexAddr t x ix) (hT : TOk c.P c.T) (h : RelX c st a w φ fp) (hi : c.T.get t = some i) (hd : i.d = .slice E) (hie : c.T.get E = some ie)
    (hix : evo st ix = .sc (.int k n)) (hx : evo st x = .ls fl E xs) (h0 : 0 ≤ n) (hy : xs[n.toNat]? = some y) (hK : ∀ a' w', Rel c (st.put o.dst (.vp fl y)) a' w' → K a' w') : o.wp c.P a w K Q := by
  have hu := (hT t i hi).d
  rw [hd] at hu
  obtain ⟨⟨inf, z, q1, q2, q3, q4, q5, q6⟩, hpos, _⟩ := hT E ie hie
  have hZ := hT.z hie
  have hv := h.ev x
  rw [hx] at hv
  generalize hval : a.eval x = v at hv
  have hlt : n.toNat < xs.length := (List.getElem?_eq_some_iff.1 hy).1
  have fin : RepW c.T.Z w (c.Sf w φ fl) (.ls fl E xs) v → o.wp c.P a w K Q := by
    intro hv
    cases hv with
    | ls0 => simp at hlt
    | @ls _ _ E' _ g o' cap cur fz hS hb hc hm hz hoo h1 hs =>
      obtain ⟨k1, k2, k3⟩ := flatten_at hz hy
      have hle : (n.toNat + 1) * c.T.Z E ≤ xs.length * c.T.Z E := Nat.mul_le_mul_right _ hlt
      rw [Nat.add_mul, Nat.one_mul] at hle
      rw [k1] at hs
      have e1 : (xs.take n.toNat).flatten.length = n.toNat * c.T.Z E := k2
      have h3 := (hs.drop (n.toNat * c.T.Z E)).take y.length
      rw [List.drop_append, List.drop_of_length_le (by omega), List.nil_append, e1, Nat.sub_self, List.drop_zero, List.take_append_of_le_length (Nat.le_refl _), List.take_length] at h3
      rw [List.drop_take, List.take_take, List.drop_drop, Nat.min_eq_left (by omega)] at h3
      refine wp_value (w' := w) (v := .pointer (some ⟨g, o' + n.toNat * c.T.Z E, none⟩)) ?_ (hK _ _ ⟨φ, fp, h.put _ (.vp (.vp hS hb ?_ (fun v hv => h1 v (sub_win (by rw [k3]; exact hle) hv)) h3))⟩)
      · have := run_indexS (P := c.P) (w := w) hu q1 ⟨g, o', none⟩ xs.length cap k n h0 (by omega)
        simp only [execOp, ho, hval, h.scv hix, Sem.run_bind, this, Result.andThen_ok, Addr.add_mid]
        rw [hZ, q3]; rfl
      · omega
  generalize hF : ([] : List Nat) = F at hv
  cases hv with
  | own0 => simp at hlt
  | own => cases hF
  | va hv => exact fin hv
  | vn hv => exact fin hv

theorem wp_indexA_rf {t E : TypeId} {x ix : Operand} {i : TI} {k : IntKind} {n : Int} {id off len : Nat} {ie : TI} {r : Row} (ho : o.op = .indexAddr t x ix) (hT : TOk c.P c.T) (h : RelX c st a w φ fp) (hi : c.T.get t = some i) (hd : i.d = .slice E) (hie : c.T.get E = some ie)
    (hix : evo st ix = .sc (.int k n)) (hx : evo st x = .rf id off len) (h0 : 0 ≤ n) (h1 : n < len) (hr : hget st.hp id = some r) (hrE : r.E = E) (hK : ∀ a' w', Rel c (st.put o.dst (.pt id (off + n.toNat) 0)) a' w' → K a' w') : o.wp c.P a w K Q := by
  have hu := (hT t i hi).d
  rw [hd] at hu
  obtain ⟨⟨inf, z, q1, q2, q3, q4, q5, q6⟩, hpos, _⟩ := hT E ie hie
  have hZ := hT.z hie
  have hv := h.ev x
  rw [hx] at hv
  generalize hval : a.eval x = v at hv
  cases hv with
  | @rf _ _ _ _ hd' _ hφ hv =>
    obtain ⟨hd2, q, hE, hn, _⟩ := h.rows id r hr
    rw [hφ] at q; cases q
    obtain ⟨E0, n0, loc⟩ := hd'
    simp only at hE hn
    cases loc with
    | none => simp only [RfVal] at hv; omega
    | some loc =>
      obtain ⟨g, o', cap⟩ := loc
      simp only [RfVal] at hv
      obtain ⟨hle, hv⟩ := hv
      rcases hv with ⟨hoc, rfl⟩ | ⟨_, _, hl, _⟩
      · have e0 : E0 = E := by rw [hE, hrE]
        subst e0
        refine wp_value (w' := w) (v := .pointer (some ⟨g, o' + (off + n.toNat) * c.T.Z E0 + 0, none⟩)) ?_ (hK _ _ ⟨φ, fp, h.put _ (.pt hφ)⟩)
        have := run_indexS (P := c.P) (w := w) hu q1 ⟨g, o' + off * c.T.Z E0, none⟩ len (cap - off) k n h0 h1
        simp only [execOp, ho, hval, h.scv hix, Sem.run_bind, this, Result.andThen_ok, Addr.add_mid]
        rw [Nat.add_zero, Nat.add_mul, ← Nat.add_assoc, hZ, q3]; rfl
      · omega

theorem wp_indexStr {t : TypeId} {x ix : Operand} {i : TI} {k : IntKind} {n : Int} {s : ByteArray} {b : UInt8} (ho : o.op = .index t x ix) (hT : TOk c.P c.T) (h : RelX c st a w φ fp) (hi : c.T.get t = some i) (hd : i.d = .str)
    (hix : evo st ix = .sc (.int k n)) (hx : evo st x = .sc (.string s)) (h0 : 0 ≤ n) (hb : s.data.toList[n.toNat]? = some b) (hK : ∀ a' w', Rel c (st.put o.dst (.sc (.int .u8 b.toNat))) a' w' → K a' w') : o.wp c.P a w K Q := by
  have hu := (hT t i hi).d
  rw [hd] at hu
  have hlt : n.toNat < s.size := by have := (List.getElem?_eq_some_iff.1 hb).1; simpa using this
  have hbb : s[n.toNat] = b := by
    have := (List.getElem?_eq_some_iff.1 hb).2
    rw [← this]; rfl
  refine wp_value (w' := w) (v := .int .u8 b.toNat) ?_ (hK _ _ ⟨φ, fp, h.put _ (.sc rfl)⟩)
  have := run_index_string (P := c.P) (w := w) t s k n hu
  rw [dif_pos (by omega)] at this
  simp only [execOp, ho, h.scv hx, h.scv hix, Sem.run_bind, this, Result.andThen_ok]
  rw [hbb]; rfl

theorem repX_len {Z : SzF} {Sf : Fl → Nat → Prop} {x : AV} {v : Value} {n : Nat} (h : RepX Z w Sf φ x v []) (hl : lenA x = some n) : ∃ A cap, v = .slice A n cap := by
  generalize hF : ([] : List Nat) = F at h
  cases h with
  | nl => simp [lenA] at hl; subst hl; exact ⟨_, _, rfl⟩
  | own0 => simp [lenA] at hl; subst hl; exact ⟨_, _, rfl⟩
  | own => cases hF
  | va h => simp [lenA] at hl; subst hl; cases h <;> exact ⟨_, _, rfl⟩
  | vn h => simp [lenA] at hl; subst hl; cases h <;> exact ⟨_, _, rfl⟩
  | rf hφ hv =>
    simp [lenA] at hl; subst hl
    unfold RfVal at hv
    split at hv
    · obtain ⟨_, rfl, A, rfl⟩ := hv; exact ⟨_, _, rfl⟩
    · rcases hv.2 with ⟨_, e⟩ | ⟨_, _, rfl, A, e⟩ <;> exact ⟨_, _, e⟩
  | _ => simp [lenA] at hl

theorem wp_len {x : Operand} {t E : TypeId} {i : TI} {n : Nat} (ho : o.op = .call { callee := .builtin .len, args := #[x], argTypes := #[t] }) (hT : TOk c.P c.T) (h : RelX c st a w φ fp) (hi : c.T.get t = some i) (hl : lenA (evo st x) = some n)
    (hd : i.d = .slice E) (hK : ∀ a' w', Rel c (st.put o.dst (.sc (.int .i64 n))) a' w' → K a' w') : o.wp c.P a w K Q := by
  have hu := (hT t i hi).d
  rw [hd] at hu
  have hu' : c.P.underlying t = some (.slice E) := hu
  obtain ⟨A, cap, hv⟩ := repX_len (h.ev x) hl
  refine wp_value (w' := w) (v := .int .i64 n) ?_ (hK _ _ ⟨φ, fp, h.put _ (.sc rfl)⟩)
  simp [execOp, ho, resolve, invoke, builtin, hv, Builtin.len_, run_underlying hu', goInt]
theorem wp_lenS {x : Operand} {t : TypeId} {i : TI} {s : ByteArray} (ho : o.op = .call { callee := .builtin .len, args := #[x], argTypes := #[t] }) (hT : TOk c.P c.T) (h : RelX c st a w φ fp) (hi : c.T.get t = some i) (hl : evo st x = .sc (.string s))
    (hd : i.d = .str) (hK : ∀ a' w', Rel c (st.put o.dst (.sc (.int .i64 s.size))) a' w' → K a' w') : o.wp c.P a w K Q := by
  have hu := (hT t i hi).d
  rw [hd] at hu
  have hu' : c.P.underlying t = some .string := hu
  refine wp_value (w' := w) (v := .int .i64 s.size) ?_ (hK _ _ ⟨φ, fp, h.put _ (.sc rfl)⟩)
  simp [execOp, ho, resolve, invoke, builtin, h.scv hl, Builtin.len_, run_underlying hu', goInt]

theorem wp_max {x y : Operand} {k : IntKind} {p q : Int} {ts : Array TypeId} (ho : o.op = .call { callee := .builtin .max, args := #[x, y], argTypes := ts }) (h : RelX c st a w φ fp) (hx : evo st x = .sc (.int k p)) (hy : evo st y = .sc (.int k q))
    (hK : ∀ a' w', Rel c (st.put o.dst (.sc (.int k (if q > p then q else p)))) a' w' → K a' w') : o.wp c.P a w K Q := by
  refine wp_value (w' := w) (v := .int k (if q > p then q else p)) ?_ (hK _ _ ⟨φ, fp, h.put _ (.sc rfl)⟩)
  have := run_max_int2 (P := c.P) (w := w) ts o.type k k p q
  simp [execOp, ho, resolve, invoke, builtin, h.scv hx, h.scv hy, this]
theorem wp_min {x y : Operand} {k : IntKind} {p q : Int} {ts : Array TypeId} (ho : o.op = .call { callee := .builtin .min, args := #[x, y], argTypes := ts }) (h : RelX c st a w φ fp) (hx : evo st x = .sc (.int k p)) (hy : evo st y = .sc (.int k q))
    (hK : ∀ a' w', Rel c (st.put o.dst (.sc (.int k (if q < p then q else p)))) a' w' → K a' w') : o.wp c.P a w K Q := by
  refine wp_value (w' := w) (v := .int k (if q < p then q else p)) ?_ (hK _ _ ⟨φ, fp, h.put _ (.sc rfl)⟩)
  have := run_min_int2 (P := c.P) (w := w) ts o.type k k p q
  simp [execOp, ho, resolve, invoke, builtin, h.scv hx, h.scv hy, this]

theorem bndA_val (h : RelX c st a w φ fp) {x : Operand} {d n : Nat} (hb : bndA st (some x) d = some n) : ∃ k m, a.eval x = .int k m ∧ 0 ≤ m ∧ m.toNat = n := by
  simp only [bndA] at hb
  split at hb
  · rename_i k m hx
    split at hb
    · rename_i h0; exact ⟨k, m, h.scv hx, h0, Option.some.inj hb⟩
    · cases hb
  · cases hb
theorem run_sliceB {P : Program} {k : IntKind} {m : Int} {n y : Nat} {code : BoundsCode} (h0 : 0 ≤ m) (hn : m.toNat = n) (hy : n ≤ y) : (Instr.sliceBound (.int k m) y code).run P w = .ok n w := by
  have : 0 ≤ m ∧ m ≤ (y : Int) := ⟨h0, by omega⟩
  simp [Instr.sliceBound, asIntOf, this, hn]
theorem run_bounds (h : RelX c st a w φ fp) {lo hi : Option Operand} {l hh len cap : Nat} {isS : Bool} (h1 : bndA st lo 0 = some l) (h2 : bndA st hi len = some hh) (h3 : l ≤ hh) (h4 : hh ≤ len) (h5 : len ≤ cap) :
    (Instr.sliceBounds isS len cap (lo.map a.eval) (hi.map a.eval) none).run c.P w = .ok (l, hh, cap) w := by
  cases lo with
  | none =>
    obtain rfl : 0 = l := by simpa [bndA] using h1
    cases hi with
    | none =>
      obtain rfl : len = hh := by simpa [bndA] using h2
      simp [Instr.sliceBounds]
    | some y =>
      obtain ⟨k, m, e1, e2, e3⟩ := bndA_val h h2
      simp [Instr.sliceBounds, e1, run_sliceB e2 e3 (show hh ≤ cap by omega)]
  | some x =>
    obtain ⟨k', m', f1, f2, f3⟩ := bndA_val h h1
    cases hi with
    | none =>
      obtain rfl : len = hh := by simpa [bndA] using h2
      simp [Instr.sliceBounds, f1, run_sliceB f2 f3 h3]
    | some y =>
      obtain ⟨k, m, e1, e2, e3⟩ := bndA_val h h2
      simp [Instr.sliceBounds, e1, run_sliceB e2 e3 (show hh ≤ cap by omega), f1, run_sliceB f2 f3 h3]

theorem run_sliceV {P : Program} {t E : TypeId} {i : TypeInfo} {A : Option Addr} {len cap l hh m : Nat} {lo hi mx : Option Value} (hu : P.underlying t = some (.slice E)) (hi' : P.info? E = some i)
    (hb : (Instr.sliceBounds true len cap lo hi mx).run P w = .ok (l, hh, m) w) : (Instr.sliceAt t (.slice A len cap) lo hi mx).run P w = .ok (.slice (if m = l then A else A.map (·.add (l * i.size))) (hh - l) (m - l)) w := by
  simp [Instr.sliceAt, Instr.slice, run_underlying hu, hb, run_sizeO hi']

theorem RepW.cut {Z : SzF} {S : Nat → Prop} {fl : Fl} {E : TypeId} {xs : List (List AV)} {A : Option Addr} {len cap l hh s : Nat} (h : RepW Z w S (.ls fl E xs) (.slice A len cap)) (hs : s = Z E) (h1 : l ≤ hh) (h2 : hh ≤ xs.length) :
    RepW Z w S (.ls fl E ((xs.drop l).take (hh - l))) (.slice (if cap = l then A else A.map (·.add (l * s))) (hh - l) (cap - l)) := by
  by_cases he : hh - l = 0
  · rw [he]; simpa using RepW.ls0
  cases h with
  | ls0 => simp at h2; omega
  | @ls _ _ E' _ g o' _ cur fz hS hb hc hmx hz ho h1' hs' =>
    have hlen : ((xs.drop l).take (hh - l)).length = hh - l := by simp; omega
    rw [if_neg (by omega)]
    have hm : l * Z E + (hh - l) * Z E ≤ xs.length * Z E := by rw [← Nat.add_mul]; exact Nat.mul_le_mul_right _ (by omega)
    have hk := (hs'.drop (l * Z E)).take ((hh - l) * Z E)
    rw [List.drop_take, List.drop_drop, List.take_take, Nat.min_eq_left (by omega)] at hk
    have := RepW.ls (Z := Z) (w := w) (S := S) (fl := fl) (E := E) (E' := E') (xs := (xs.drop l).take (hh - l)) (g := g) (o := o' + l * Z E) (cap := cap - l) (cur := cur) (fz := fz) hS hb (by rw [hlen]; omega) (by omega)
      (fun c hc' => hz c (List.mem_of_mem_drop (List.mem_of_mem_take hc'))) (by rw [hlen]; omega) (fun v hv => h1' v (sub_win (by rw [hlen]; exact hm) hv)) (by rw [flatten_sub hz, hlen]; exact hk)
    rw [hlen] at this
    simpa [Addr.add_lit, hs] using this

theorem slice_len (h : RelX c st a w φ fp) {x : AV} {v : Value} (hx : RepX c.T.Z w (c.Sf w φ) φ x v []) (hl : sliceL x = true) : ∃ A cap, v = .slice A (lenC x) cap ∧ lenC x ≤ cap := by
  generalize hF : ([] : List Nat) = F at hx
  cases hx with
  | nl => exact ⟨_, _, rfl, Nat.le_refl _⟩
  | own0 => exact ⟨_, _, rfl, Nat.le_refl _⟩
  | own => cases hF
  | va h => cases h with
    | ls0 => exact ⟨_, _, rfl, Nat.zero_le _⟩
    | ls hS hb hc => exact ⟨_, _, rfl, hc⟩
  | vn h => cases h with
    | ls0 => exact ⟨_, _, rfl, Nat.zero_le _⟩
    | ls hS hb hc => exact ⟨_, _, rfl, hc⟩
  | @rf _ id off len hd _ hφ hv =>
    obtain ⟨r, hr', hE, hn, g2⟩ := h.row hφ
    obtain ⟨E0, n0, loc⟩ := hd
    cases loc with
    | none =>
      simp only [RfVal] at hv
      obtain ⟨_, rfl, A, rfl⟩ := hv; exact ⟨_, _, rfl, Nat.le_refl _⟩
    | some loc =>
      obtain ⟨g, o', cap⟩ := loc
      obtain ⟨cur, F', k1, k2, k3, k4, k5, k6, k7, k8⟩ := g2
      simp only [RfVal] at hv
      simp only at hn
      rcases hv.2 with ⟨_, e⟩ | ⟨_, _, rfl, A, e⟩
      · exact ⟨_, _, e, by simp only [lenC]; omega⟩
      · exact ⟨_, _, e, Nat.le_refl _⟩
  | _ => simp [sliceL] at hl

theorem cutA_rep (h : RelX c st a w φ fp) {E : TypeId} {l hh s cap : Nat} {A : Option Addr} {x v : AV} (hx : RepX c.T.Z w (c.Sf w φ) φ x (.slice A (lenC x) cap) []) (hs : s = c.T.Z E) (hv : cutA st E l hh x = some v) :
    RepX c.T.Z w (c.Sf w φ) φ v (.slice (if cap = l then A else A.map (·.add (l * s))) (hh - l) (cap - l)) [] := by
  unfold cutA at hv
  split at hv
  · rename_i fl E' xs
    split at hv
    · rename_i hc
      obtain ⟨rfl, hc1, hc2⟩ := hc
      obtain rfl := Option.some.inj hv
      generalize hF : ([] : List Nat) = F at hx
      generalize hvv : Value.slice A (lenC (AV.ls fl E' xs)) cap = vv at hx
      cases hx with
      | own0 =>
        cases hvv
        have e1 : l = 0 := by simp at hc2; omega
        have e2 : hh = 0 := by simp at hc2; omega
        subst e1 e2
        simpa using RepX.own0
      | own => cases hF
      | va k => subst hvv; exact .va (k.cut hs hc1 hc2)
      | vn k => subst hvv; exact .vn (k.cut hs hc1 hc2)
    · cases hv
  · split at hv
    · rename_i hc
      obtain ⟨rfl, rfl⟩ := hc
      obtain rfl := Option.some.inj hv
      cases hx
      exact .nl
    · cases hv
  · rename_i id off len
    split at hv
    · rename_i r hr'
      split at hv
      · rename_i hc
        obtain ⟨hrE, hc1, hc2⟩ := hc
        obtain rfl := Option.some.inj hv
        generalize hF : ([] : List Nat) = F at hx
        generalize hvv : Value.slice A (lenC (AV.rf id off len)) cap = vv at hx
        cases hx with
        | @rf _ _ _ _ hd _ hφ hrv =>
          refine .rf hφ ?_
          obtain ⟨r', hr2, hE, hn, g2⟩ := h.row hφ
          rw [hr'] at hr2
          cases hr2
          obtain ⟨E0, n0, loc⟩ := hd
          cases loc with
          | none =>
            simp only [RfVal] at hrv ⊢
            obtain ⟨rfl, rfl, A', rfl⟩ := hrv
            cases hvv
            have e1 : l = 0 := by omega
            have e2 : hh = 0 := by omega
            subst e1 e2
            exact ⟨rfl, rfl, A, by simp⟩
          | some loc =>
            obtain ⟨g, o', cp⟩ := loc
            obtain ⟨cur, F', k1, k2, k3, k4, k5, k6, k7, k8⟩ := g2
            simp only [RfVal] at hrv ⊢
            simp only at hn hE
            obtain ⟨hle, hrv⟩ := hrv
            refine ⟨by omega, ?_⟩
            rcases hrv with ⟨hoc, rfl⟩ | ⟨h0, hoc, rfl, A', rfl⟩
            · cases hvv
              by_cases hcl : cp - off = l
              · have hh2 : hh - l = 0 := by omega
                rw [if_pos hcl, hh2, show cp - off - l = 0 by omega]
                by_cases h0 : off + l = 0
                · have e1 : off = 0 := by omega
                  have e2 : l = 0 := by omega
                  subst e1 e2
                  refine .inl ⟨.inl rfl, ?_⟩
                  rw [show cp - (0 + 0) = 0 by omega]
                · exact .inr ⟨by omega, by omega, rfl, _, rfl⟩
              · rw [if_neg hcl]
                refine .inl ⟨.inr (by omega), ?_⟩
                have e : o' + off * c.T.Z E0 + l * s = o' + (off + l) * c.T.Z E0 := by rw [hs, hE, hrE, Nat.add_mul]; omega
                simp only [Option.map_some, Addr.add_lit, e]
                rw [show cp - off - l = cp - (off + l) by omega]
            · cases hvv
              have e1 : l = 0 := by omega
              have e2 : hh = 0 := by omega
              subst e1 e2
              exact .inr ⟨by omega, by omega, rfl, A, by simp⟩
      · cases hv
    · cases hv
  · cases hv

theorem wp_slice {t : TypeId} {x : Operand} {lo hi mx : Option Operand} {v : AV} (ho : o.op = .slice t x lo hi mx) (hT : TOk c.P c.T) (h : RelX c st a w φ fp) (hv : evSlice c.T st t (evo st x) lo hi mx = some v)
    (hK : ∀ a' w', Rel c (st.put o.dst v) a' w' → K a' w') : o.wp c.P a w K Q := by
  have fin : ∀ u, (Instr.sliceAt t (a.eval x) (lo.map a.eval) (hi.map a.eval) (mx.map a.eval)).run c.P w = .ok u w → RepX c.T.Z w (c.Sf w φ) φ v u [] → o.wp c.P a w K Q := by
    intro u hu hr
    exact wp_value (w' := w) (v := u) (by simp [execOp, ho, hu]) (hK _ _ ⟨φ, fp, h.put _ hr⟩)
  unfold evSlice at hv
  split at hv
  · rename_i i hi'
    have hu := (hT t i hi').d
    split at hv
    · rename_i E hd
      rw [hd] at hu
      have hu' : c.P.underlying t = some (.slice E) := hu
      split at hv
      · cases hv
      · rename_i hE
        obtain ⟨ie, hie⟩ : ∃ ie, c.T.get E = some ie := by cases hh : c.T.get E <;> simp_all
        obtain ⟨⟨inf, z, q1, q2, q3, q4, q5, q6⟩, _, _⟩ := hT E ie hie
        have hsz : inf.size = c.T.Z E := by rw [hT.z hie]; exact q3
        split at hv
        · rename_i hl
          obtain ⟨A, cap, hev, hcap⟩ := slice_len h (h.ev x) hl
          split at hv
          · split at hv
            · rename_i l hh h1 h2
              have hle : l ≤ hh ∧ hh ≤ lenC (evo st x) := by
                unfold cutA at hv
                split at hv
                · rename_i hx
                  split at hv
                  · rename_i hc; rw [hx]; exact ⟨hc.2.1, hc.2.2⟩
                  · cases hv
                · rename_i hx
                  split at hv
                  · rename_i hc; rw [hx]; simp only [lenC]; omega
                  · cases hv
                · rename_i hx
                  split at hv
                  · split at hv
                    · rename_i hc; rw [hx]; exact ⟨hc.2.1, hc.2.2⟩
                    · cases hv
                  · cases hv
                · cases hv
              refine fin (.slice (if cap = l then A else A.map (·.add (l * inf.size))) (hh - l) (cap - l)) ?_ ?_
              · rw [hev]; exact run_sliceV hu' q1 (run_bounds h h1 h2 hle.1 hle.2 hcap)
              · have hx := h.ev x
                rw [hev] at hx
                exact cutA_rep h hx hsz hv
            · cases hv
          · rename_i m
            split at hv
            · rename_i h1 h2 h3
              obtain rfl := Option.some.inj hv
              obtain ⟨km, m3, em, e3, e3'⟩ := bndA_val h h3
              have hb : (Instr.sliceBounds true (lenC (evo st x)) cap (lo.map a.eval) (hi.map a.eval) (some (a.eval m))).run c.P w = .ok (0, 0, 0) w := by
                cases hi with
                | none => simp [bndA] at h2
                | some y =>
                  obtain ⟨ky, my, ey, f3, f3'⟩ := bndA_val h h2
                  cases lo with
                  | none => simp [Instr.sliceBounds, em, run_sliceB e3 e3' (Nat.zero_le _), ey, run_sliceB f3 f3' (Nat.zero_le _)]
                  | some z =>
                    obtain ⟨kz, mz, ez, g3, g3'⟩ := bndA_val h h1
                    simp [Instr.sliceBounds, em, run_sliceB e3 e3' (Nat.zero_le _), ey, run_sliceB f3 f3' (Nat.zero_le _), ez, run_sliceB g3 g3' (Nat.zero_le _)]
              refine fin (.slice (if 0 = 0 then A else A.map (·.add (0 * inf.size))) (0 - 0) (0 - 0)) ?_ ?_
              · rw [hev]; exact run_sliceV hu' q1 hb
              · simpa using RepX.own0
            · cases hv
        · cases hv
    · rename_i hd
      rw [hd] at hu
      have hu' : c.P.underlying t = some .string := hu
      split at hv
      · rename_i hs
        obtain ⟨s, hse⟩ : ∃ s, evo st x = .sc (.string s) := by
          unfold strA at hs
          split at hs
          · rename_i s hh; exact ⟨s, hh⟩
          · cases hs
        split at hv
        · split at hv
          · rename_i l hh h1 h2
            rw [hse] at hv h2
            simp only [cutT] at hv
            split at hv
            · rename_i hc
              obtain rfl := Option.some.inj hv
              refine fin (.string (s.extract l hh)) ?_ (.sc rfl)
              have hb := run_bounds (isS := false) h h1 h2 hc.1 hc.2 (Nat.le_refl _)
              simp only [lenC] at hb
              simp [Instr.sliceAt, Instr.slice, run_underlying hu', h.scv hse, hb]
            · cases hv
          · cases hv
        · cases hv
      · cases hv
    · cases hv
  · cases hv

theorem wp_append {s x : Operand} {t : TypeId} (ho : o.op = .call { callee := .builtin .append, args := #[s, x], argTypes := #[t, t] }) (hT : TOk c.P c.T) (hG : c.Good) (h : RelX c st a w φ fp) (he : evAppend c.T st o t (evo st s) (evo st x) = some st')
    (hK : ∀ a' w', Rel c st' a' w' → K a' w') : o.wp c.P a w K Q := by
  unfold evAppend at he
  split at he
  · rename_i i hi
    have hu := (hT t i hi).d
    split at he
    · rename_i E hd
      rw [hd] at hu
      split at he
      · rename_i ie hie
        split at he
        · rename_i ys ks hsrc
          obtain ⟨hs, hks⟩ := srcA_src h (h.ev x) hsrc
          obtain ⟨s1, s2⟩ := sweep_nx (st := st) ks
          have hv := h.ev s
          have hnew : ∀ {v : Value} {A : Option Addr}, a.eval s = v → v = .slice A 0 0 → ys.length * ie.bytes ≤ 140737488355328 ∧ ys.length ≤ maxLen →
              some { ((st.sweep ks).put o.dst (.rf (st.sweep ks).nx 0 ys.length)) with hp := ((st.sweep ks).nx, (⟨E, false, ys⟩ : Row)) :: (st.sweep ks).hp, nx := (st.sweep ks).nx + 1 } = some st' → o.wp c.P a w K Q := by
            intro v A hval hvA hb hst
            obtain rfl := Option.some.inj hst
            refine wp_appendD (xs := []) (ks0 := ks) (ks := ks) (id0 := st.nx) (nx' := st.nx + 1) ⟨_, ho, rfl⟩ hT hG h hu hie ⟨.inl ⟨A, by rw [hval, hvA], rfl⟩⟩ hs (.inr ⟨rfl, rfl, rfl, rfl⟩) (fun hh => (hks _ hh).2 (h.fresh _ (Nat.le_refl _))) (fun k hk => (hks k hk).1) (by simpa using hb.1) (by simpa using hb.2) ?_
            intro a' w' hh
            refine hK a' w' ?_
            simp only [List.nil_append] at hh
            rw [s1]
            cases hdst : o.dst <;> rw [hdst] at hh <;> exact hh
          split at he
          · rename_i hsx
            split at he
            · rename_i hb
              rw [hsx] at hv
              generalize hval : a.eval s = v at hv
              cases hv
              exact hnew hval rfl hb he
            · cases he
          · rename_i E' hsx
            split at he
            · rename_i hb
              rw [hsx] at hv
              generalize hval : a.eval s = v at hv
              generalize hF : ([] : List Nat) = F at hv
              cases hv with
              | own0 => exact hnew hval rfl hb he
              | own => cases hF
            · cases he
          · rename_i id off len hsx
            split at he
            · rename_i r hr
              split at he
              · cases he
              · rename_i hbx
                split at he
                · cases he
                · rename_i hkp
                  split at he
                  · cases he
                  · rename_i hin
                    split at he
                    · rename_i hb
                      obtain rfl := Option.some.inj he
                      rw [hsx] at hv
                      generalize hval : a.eval s = v at hv
                      cases hv with
                      | rf hφ hv =>
                        obtain ⟨d1, d2⟩ := rf_dst h hφ hv hr hbx
                        obtain ⟨b1, b2, rfl⟩ := hb
                        refine wp_appendD (xs := (r.xs.drop off).take len) (ks0 := ks) (ks := id :: ks) (id0 := id) (nx' := st.nx) ⟨_, ho, rfl⟩ hT hG h hu hie (by rw [hval]; exact d1) hs (.inl ⟨by simp [isIn], rfl, by rw [hφ]; simp, rfl⟩) (by rw [← isIn_iff]; exact hin) ?_ (by rw [d2]; exact b1) (by rw [d2]; exact b2) ?_
                        · intro k hk
                          simp only [List.mem_cons] at hk
                          rcases hk with rfl | hk
                          · omega
                          · exact (hks k hk).1
                        · intro a' w' hh
                          refine hK a' w' ?_
                          have e : ((r.xs.drop off).take len ++ ys).length = len + ys.length := by rw [List.length_append, d2]
                          rw [e] at hh
                          have e2 := (sweep_nx (st := st) (id :: ks)).1
                          cases hdst : o.dst <;> rw [hdst] at hh <;> simpa [St.put, e2] using hh
                    · cases he
            · cases he
          · cases he
        · cases he
      · cases he
    · cases he
  · cases he

end
end Go.Proofs.AM
