/- A part of the proof: the walk of functions of the program, or the rules of the walk. -/
import Derived.Test.YthilnfccfjcgfaaGreatAmOps
set_option linter.unusedSimpArgs false
set_option linter.unusedVariables false
namespace Go.Proofs.AM
open Go

section
variable {c : Cx} {st st' : St} {a : Act} {w w' : World} {φ φ' : Nat → Option Hd} {fp : Nat → List Nat} {o : Oper} {K : Act → World → Prop} {Q : Exit → Act → World → Prop}

theorem putAt_eq (cs : List AV) (j : Nat) (ys : List AV) (h : j + ys.length ≤ cs.length) : putAt cs j ys = cs.take j ++ (ys ++ cs.drop (j + ys.length)) := by
  induction ys generalizing cs j with
  | nil => simp [putAt]
  | cons y ys ih =>
    simp only [List.length_cons] at h
    rw [putAt, ih _ _ (by simp; omega)]
    rw [List.take_set, List.drop_set_of_lt (by omega), List.take_succ_eq_append_getElem (by omega), List.set_append_right _ _ (by simp; exact Nat.min_le_left _ _)]
    simp only [List.length_take, Nat.min_eq_left (show j ≤ cs.length by omega), Nat.sub_self, List.set_cons_zero, List.append_assoc, List.cons_append, List.nil_append, List.length_cons]
    rw [show j + 1 + ys.length = j + (ys.length + 1) by omega]

theorem flat_set {xs : List (List AV)} {z e j : Nat} {cs ys : List AV} (hz : ∀ c ∈ xs, c.length = z) (he : xs[e]? = some cs) (hj : j + ys.length ≤ cs.length) :
    (xs.set e (putAt cs j ys)).flatten = xs.flatten.take (e * z + j) ++ (ys ++ xs.flatten.drop (e * z + j + ys.length)) := by
  obtain ⟨h1, h2, h3⟩ := flatten_at hz he
  have hlt : e < xs.length := (List.getElem?_eq_some_iff.1 he).1
  rw [List.set_eq_take_append_cons_drop, if_pos hlt, List.flatten_append, List.flatten_cons, putAt_eq _ _ _ hj, h1]
  generalize (xs.take e).flatten = A at h2
  generalize (xs.drop (e + 1)).flatten = B
  have t1 : (A ++ (cs ++ B)).take (e * z + j) = A ++ cs.take j := by
    rw [List.take_append, List.take_of_length_le (by rw [h2]; omega), h2, Nat.add_sub_cancel_left, List.take_append_of_le_length (by omega)]
  have t2 : (A ++ (cs ++ B)).drop (e * z + j + ys.length) = cs.drop (j + ys.length) ++ B := by
    rw [List.drop_append, List.drop_of_length_le (by rw [h2]; omega), List.nil_append, h2, show e * z + j + ys.length - e * z = j + ys.length by omega, List.drop_append_of_le_length (by omega)]
  rw [t1, t2]
  simp

theorem RepXs.splice {Z : SzF} {Sf : Fl → Nat → Prop} {fl ys : List AV} {L vs : List Value} {F Fn : List Nat} (h : RepXs Z w Sf φ fl L F) (k : RepXs Z w Sf φ ys vs Fn) {q : Nat} (hq : q + ys.length ≤ fl.length) :
    ∃ F1 F2 F3, F = F1 ++ (F2 ++ F3) ∧ RepXs Z w Sf φ (fl.take q ++ (ys ++ fl.drop (q + ys.length))) (L.take q ++ (vs ++ L.drop (q + ys.length))) (F1 ++ (Fn ++ F3)) := by
  have e : fl = fl.take q ++ ((fl.drop q).take ys.length ++ fl.drop (q + ys.length)) := by
    rw [← List.drop_drop, List.take_append_drop, List.take_append_drop]
  have hL := h.length
  rw [e] at h
  obtain ⟨F1, F', rfl, p1, p2⟩ := h.split
  obtain ⟨F2, F3, rfl, p3, p4⟩ := p2.split
  have l1 : (fl.take q).length = q := by simp; omega
  have l2 : ((fl.drop q).take ys.length).length = ys.length := by simp; omega
  rw [l1] at p1 p3 p4
  rw [l2, List.drop_drop] at p4
  exact ⟨F1, F2, F3, rfl, p1.append (k.append p4)⟩

theorem cells_splice {cur : List Value} {o' q N : Nat} {vs : List Value} (h1 : q + vs.length ≤ N) (h2 : o' + N ≤ cur.length) :
    (((cur.take (o' + q) ++ vs ++ cur.drop (o' + q + vs.length)).drop o').take N) = ((cur.drop o').take N).take q ++ (vs ++ ((cur.drop o').take N).drop (q + vs.length)) := by
  rw [List.append_assoc, List.drop_append, List.length_take, Nat.min_eq_left (by omega), List.drop_take]
  rw [show o' + q - o' = q by omega, show o' - (o' + q) = 0 by omega, List.drop_zero]
  rw [List.take_append, List.length_take, List.length_drop, Nat.min_eq_left (by omega)]
  rw [List.take_of_length_le (by simp; omega), List.take_append, List.take_of_length_le (show vs.length ≤ N - q by omega)]
  rw [List.take_take, Nat.min_eq_left (by omega), List.drop_take, List.drop_drop]
  rw [show N - q - vs.length = N - (q + vs.length) by omega, show o' + q + vs.length = o' + (q + vs.length) by omega]

theorem run_storeT {P : Program} {t : TypeId} {i : TI} (hT : TIOk P t i) {g p : Nat} {E' : TypeId} {cur : Array Value} (hb : w.heap[g]? = some (.cells cur E' (0, 0))) {v : Value} (hl : v.cells.size = i.size) (hp : p + i.size ≤ cur.size)
    (h1 : ∀ u ∈ v.cells.toList, u.oneCell' = true) :
    (Instr.storeAt t (.pointer (some ⟨g, p, none⟩)) v).run P w = .ok () (w.setRow g (cur.toList.take p ++ v.cells.toList ++ cur.toList.drop (p + v.cells.toList.length)).toArray) := by
  obtain ⟨⟨inf, z, q1, q2, q3, q4, q5, q6⟩, _, hd⟩ := hT
  have := run_storeCells_at (P := P) g p E' v.cells.toList 0 cur w hb (by simp; omega) h1
  simp only [Nat.add_zero] at this
  simp [Instr.storeAt, Instr.sureAddr, storeVar, run_sizeO q1, hl, q3, this]

/-! ### what goes into a row: what it owns goes along -/
theorem isIn_iff {l : List Nat} {i : Nat} : isIn l i = true ↔ i ∈ l := by
  induction l with
  | nil => simp [isIn]
  | cons x l ih => simp only [isIn]; split <;> simp_all
theorem isIn_false {l : List Nat} {i : Nat} : isIn l i = false ↔ i ∉ l := by
  rw [← isIn_iff]; simp
theorem dup_iff {l : List Nat} : dup l = false ↔ l.Nodup := by
  induction l with
  | nil => simp [dup]
  | cons x l ih =>
    rw [List.nodup_cons, ← ih, ← isIn_iff, dup]
    cases h : isIn l x <;> simp

theorem RepXs.take_drop {Z : SzF} {Sf : Fl → Nat → Prop} {ψ : Nat → Option Hd} {xs : List AV} {vs : List Value} {F : List Nat} (h : RepXs Z w Sf ψ xs vs F) (p q : Nat) :
    ∃ F1 F2 F3, F = F1 ++ (F2 ++ F3) ∧ RepXs Z w Sf ψ ((xs.drop p).take q) ((vs.drop p).take q) F2 := by
  have hl := h.length
  rcases Nat.lt_or_ge xs.length p with hp | hp
  · refine ⟨F, [], [], by simp, ?_⟩
    rw [List.drop_of_length_le (by omega), List.drop_of_length_le (by omega)]
    simpa using RepXs.nil
  have e : xs = xs.take p ++ ((xs.drop p).take q ++ (xs.drop p).drop q) := by
    rw [List.take_append_drop, List.take_append_drop]
  rw [e] at h
  obtain ⟨F1, F', rfl, p1, p2⟩ := h.split
  obtain ⟨F2, F3, rfl, p3, p4⟩ := p2.split
  have l1 : (xs.take p).length = p := by simp; omega
  rw [l1] at p3
  refine ⟨F1, F2, F3, rfl, ?_⟩
  rw [List.length_take] at p3
  rw [show (vs.drop p).take q = (vs.drop p).take (min q (xs.drop p).length) from ?_]
  · exact p3
  · rcases Nat.le_total q (xs.drop p).length with hq | hq
    · rw [Nat.min_eq_left hq]
    · rw [Nat.min_eq_right hq, List.take_of_length_le (by simp at hq ⊢; omega), List.take_of_length_le (by simp; omega)]

theorem flatten_sub {xs : List (List AV)} {z : Nat} (hz : ∀ c ∈ xs, c.length = z) (off len : Nat) : ((xs.drop off).take len).flatten = (xs.flatten.drop (off * z)).take (len * z) := by
  have hd : ∀ (n : Nat) (l : List (List AV)), (∀ c ∈ l, c.length = z) → (l.drop n).flatten = l.flatten.drop (n * z) := by
    intro n
    induction n with
    | zero => intro l _; simp
    | succ n ih =>
      intro l hl
      cases l with
      | nil => simp
      | cons x l =>
        have e1 : x.drop ((n + 1) * z) = [] := List.drop_of_length_le (by rw [hl x (by simp), Nat.add_mul]; omega)
        have e2 : (n + 1) * z - z = n * z := by rw [Nat.add_mul]; omega
        rw [List.drop_succ_cons, ih l (fun c hc => hl c (by simp [hc])), List.flatten_cons, List.drop_append, hl x (by simp), e1, e2, List.nil_append]
  have ht : ∀ (n : Nat) (l : List (List AV)), (∀ c ∈ l, c.length = z) → (l.take n).flatten = l.flatten.take (n * z) := by
    intro n
    induction n with
    | zero => intro l _; simp
    | succ n ih =>
      intro l hl
      cases l with
      | nil => simp
      | cons x l =>
        have e1 : x.take ((n + 1) * z) = x := List.take_of_length_le (by rw [hl x (by simp), Nat.add_mul]; omega)
        have e2 : (n + 1) * z - z = n * z := by rw [Nat.add_mul]; omega
        rw [List.take_succ_cons, List.flatten_cons, ih l (fun c hc => hl c (by simp [hc])), List.flatten_cons, List.take_append, hl x (by simp), e1, e2]
  rw [ht len _ (fun c hc => hz c (List.mem_of_mem_drop hc)), hd off xs hz]

theorem close1_rf (h : RelX c st a w φ fp) {id off len : Nat} {hd : Hd} {v : Value} (hφ : φ id = some hd) (hv : RfVal c.T.Z hd off len v) {y : AV} {p : List Nat} (e1 : close1 st (.rf id off len) = some (y, p)) :
    p = [id] ∧ st.kp ≤ id ∧ hget st.hp id ≠ none ∧ ∃ F, RepX c.T.Z w (c.Sf w φ) noφ y v F ∧ F.Nodup ∧ ∀ b ∈ F, b ∈ fp id := by
  obtain ⟨r, hr', hE, hn, g2⟩ := h.row hφ
  simp only [close1, hr'] at e1
  split at e1
  · cases e1
  · rename_i hbx
    split at e1
    · cases e1
    · rename_i hkp
      obtain ⟨rfl, rfl⟩ := Prod.mk.inj (Option.some.inj e1)
      refine ⟨rfl, by omega, by rw [hr']; simp, ?_⟩
      obtain ⟨E0, n0, loc⟩ := hd
      cases loc with
      | none =>
        simp only [RfVal] at hv
        obtain ⟨rfl, rfl, A, rfl⟩ := hv
        exact ⟨[], by simpa using RepX.own0, .nil, by simp⟩
      | some loc =>
        obtain ⟨g, o', cap⟩ := loc
        obtain ⟨cur, F', k1, k2, k3, k4, k5, k6, k7, k8⟩ := g2
        simp only [RfVal] at hv
        obtain ⟨hle, hv⟩ := hv
        simp only at hE hn
        have hlen : ((r.xs.drop off).take len).length = len := by simp; omega
        rw [show rφ r φ = noφ by unfold rφ; rw [if_neg hbx]] at k7
        obtain ⟨F1, F2, F3, rfl, k9⟩ := k7.take_drop (off * c.T.Z r.E) (len * c.T.Z r.E)
        have hnf : (fp id).Nodup := h.nod id
        rw [k8] at hnf
        have hsub : ∀ b ∈ F2, b ∈ fp id := fun b hb => by rw [k8]; simp [hb]
        have hg : g ∈ fp id := by rw [k8]; simp
        rcases hv with ⟨hoc, rfl⟩ | ⟨h0, hoc, rfl, A, rfl⟩
        · have hm : off * c.T.Z r.E + len * c.T.Z r.E ≤ r.xs.length * c.T.Z r.E := by rw [← Nat.add_mul]; exact Nat.mul_le_mul_right _ (by omega)
          have hm2 : r.xs.length * c.T.Z r.E ≤ cap * c.T.Z r.E := Nat.mul_le_mul_right _ k2
          have hm3 : off * c.T.Z r.E + (cap - off) * c.T.Z r.E = cap * c.T.Z r.E := by rw [← Nat.add_mul]; congr 1; omega
          have hown : RepX c.T.Z w (c.Sf w φ) noφ (.ls .o r.E ((r.xs.drop off).take len)) (.slice (some ⟨g, o' + off * c.T.Z r.E, none⟩) ((r.xs.drop off).take len).length (cap - off)) (g :: F2) := by
            refine .own k1 (by rw [hlen]; omega) (by omega) (fun cc hcc => k4 cc (List.mem_of_mem_drop (List.mem_of_mem_take hcc))) (by omega) k6 ?_
            rw [flatten_sub k4, hlen]
            rw [List.drop_take, List.drop_drop, List.take_take] at k9
            rwa [Nat.min_eq_left (by omega)] at k9
          rw [hlen] at hown
          subst hE
          refine ⟨g :: F2, hown, ?_, ?_⟩
          · simp only [List.nodup_cons, List.nodup_append, List.mem_append] at hnf ⊢
            exact ⟨fun hh => hnf.1 (.inr (.inl hh)), hnf.2.2.1.1⟩
          · intro b hb
            simp only [List.mem_cons] at hb
            rcases hb with rfl | hb
            · exact hg
            · exact hsub _ hb
        · exact ⟨[], by simpa using RepX.own0, .nil, by simp⟩

theorem close_rep (h : RelX c st a w φ fp) {xs : List AV} {vs : List Value} (hr : RepXs c.T.Z w (c.Sf w φ) φ xs vs []) {ys : List AV} {ks : List Nat} (hc : close st xs = some (ys, ks)) (hd : dup ks = false) :
    ∃ Fn, RepXs c.T.Z w (c.Sf w φ) noφ ys vs Fn ∧ Fn.Nodup ∧ (∀ b ∈ Fn, ∃ k ∈ ks, b ∈ fp k) ∧ (∀ k ∈ ks, st.kp ≤ k ∧ hget st.hp k ≠ none) ∧ ys.length = xs.length := by
  induction xs generalizing vs ys ks with
  | nil => cases hr; simp [close] at hc; obtain ⟨rfl, rfl⟩ := hc; exact ⟨[], .nil, .nil, by simp, by simp, rfl⟩
  | cons x xs ih =>
    cases vs with
    | nil => have := hr.length; simp at this
    | cons v vs =>
      obtain ⟨hx, hxs⟩ := hr.uncons
      unfold close at hc
      split at hc
      · rename_i y p m q e1 e2
        obtain ⟨rfl, rfl⟩ := Prod.mk.inj (Option.some.inj hc)
        have hnd := dup_iff.1 hd
        rw [List.nodup_append] at hnd
        obtain ⟨Fn, i1, i2, i3, i4, i5⟩ := ih hxs e2 (dup_iff.2 hnd.2.1)
        have done : ∀ {y : AV}, RepX c.T.Z w (c.Sf w φ) noφ y v [] → ∃ Fm, RepXs c.T.Z w (c.Sf w φ) noφ (y :: m) (v :: vs) Fm ∧ Fm.Nodup ∧ (∀ b ∈ Fm, ∃ k ∈ ([] : List Nat) ++ q, b ∈ fp k) ∧ (∀ k ∈ ([] : List Nat) ++ q, st.kp ≤ k ∧ hget st.hp k ≠ none) ∧ (y :: m).length = (x :: xs).length :=
          fun hy => ⟨Fn, by simpa using RepXs.cons hy i1, i2, by simpa using i3, by simpa using i4, by simp [i5]⟩
        generalize hF : ([] : List Nat) = F at hx
        cases hx with
        | sc k => simp only [close1] at e1; obtain ⟨rfl, rfl⟩ := Prod.mk.inj (Option.some.inj e1); exact done (.sc k)
        | nl => simp only [close1] at e1; obtain ⟨rfl, rfl⟩ := Prod.mk.inj (Option.some.inj e1); exact done .nl
        | ud => simp [close1] at e1
        | un => simp [close1] at e1
        | uc k => simp only [close1] at e1; obtain ⟨rfl, rfl⟩ := Prod.mk.inj (Option.some.inj e1); exact done (.uc k)
        | agg => simp [close1] at e1
        | tup => simp [close1] at e1
        | own0 => simp only [close1] at e1; obtain ⟨rfl, rfl⟩ := Prod.mk.inj (Option.some.inj e1); exact done .own0
        | own => cases hF
        | va k => simp only [close1] at e1; obtain ⟨rfl, rfl⟩ := Prod.mk.inj (Option.some.inj e1); exact done (.va k)
        | vn k => simp only [close1] at e1; obtain ⟨rfl, rfl⟩ := Prod.mk.inj (Option.some.inj e1); exact done (.vn k)
        | vp k => simp only [close1] at e1; obtain ⟨rfl, rfl⟩ := Prod.mk.inj (Option.some.inj e1); exact done (.vp k)
        | pt => simp [close1] at e1
        | fn => simp [close1] at e1
        | rf hφ hv =>
          obtain ⟨rfl, hkp, hne, F0, g1, g2, g3⟩ := close1_rf h hφ hv e1
          refine ⟨F0 ++ Fn, .cons g1 i1, ?_, ?_, ?_, by simp [i5]⟩
          · rw [List.nodup_append]
            refine ⟨g2, i2, ?_⟩
            rintro b hb b' hb' rfl
            obtain ⟨k, p1, p2⟩ := i3 b hb'
            have e := h.disj _ _ b (g3 b hb) p2
            exact hnd.2.2 _ (by simp) k p1 e
          · intro b hb
            rcases List.mem_append.1 hb with hb | hb
            · exact ⟨_, by simp, g3 b hb⟩
            · obtain ⟨k, p1, p2⟩ := i3 b hb; exact ⟨k, by simp [p1], p2⟩
          · intro k hk
            simp only [List.cons_append, List.nil_append, List.mem_cons] at hk
            rcases hk with rfl | hk
            · exact ⟨hkp, hne⟩
            · exact i4 k hk
      · cases hc


/-! ### sweeping -/
def kφ (ks : List Nat) (φ : Nat → Option Hd) : Nat → Option Hd := fun i => if isIn ks i then none else φ i
theorem kφ_le {ks : List Nat} : ∀ id h, φ id = some h → isIn ks id = false → kφ ks φ id = some h := by
  intro id h hh hk; simp [kφ, hk, hh]
theorem sweep_tm (h : RelX c st a w φ fp) (ks : List Nat) : RepXs c.T.Z w (c.Sf w φ) (kφ ks φ) (st.sweep ks).tm a.tmps.toList [] := by
  cases ks with
  | nil => exact h.tm.mono (fun _ _ h => by simpa [kφ, isIn] using h) (fun _ _ h => ⟨h, rfl⟩) (by simp)
  | cons k ks => exact repXs_sw2 kφ_le h.tm
theorem hget_swHp {k : Nat → Bool} {hp : List (Nat × Row)} {i : Nat} : hget (swHp k hp) i = if k i then none else (hget hp i).map (swRow k) := by
  induction hp with
  | nil => simp [swHp, hget]
  | cons p hp ih =>
    obtain ⟨j, r⟩ := p
    unfold swHp
    by_cases hj : k j = true
    · rw [if_pos hj, ih, hget_cons]
      by_cases e : i = j
      · subst e; simp [hj]
      · simp [e]
    · rw [if_neg hj, hget_cons, hget_cons, ih]
      by_cases e : i = j
      · subst e; simp [hj]
      · simp [e]
theorem flatten_sws (k : Nat → Bool) (xs : List (List AV)) : (xs.map (sws k)).flatten = sws k xs.flatten := by
  have ap : ∀ a b : List AV, sws k (a ++ b) = sws k a ++ sws k b := by
    intro a b; induction a with
    | nil => rfl
    | cons x a ih => simp [sws, ih]
  induction xs with
  | nil => rfl
  | cons x xs ih => simp [ih, ap]
theorem sws_length (k : Nat → Bool) (l : List AV) : (sws k l).length = l.length := by
  induction l with
  | nil => rfl
  | cons x l ih => simp [sws, ih]
theorem RowRep.sw {Z : SzF} {Sf : Fl → Nat → Prop} {ks : List Nat} {r : Row} {hd : Hd} {F : List Nat} (h : RowRep Z w Sf (rφ r φ) r hd F) : RowRep Z w Sf (rφ (swRow (isIn ks) r) (kφ ks φ)) (swRow (isIn ks) r) hd F := by
  unfold swRow
  by_cases hb : r.bx = true
  · rw [if_pos hb]
    obtain ⟨h1, h2, h3⟩ := h
    refine ⟨h1, by simpa using h2, ?_⟩
    split at h3
    · exact ⟨by simp [h3.1], h3.2⟩
    · obtain ⟨cur, F', k1, k2, k3, k4, k5, k6, k7, k8⟩ := h3
      refine ⟨cur, F', k1, by simpa using k2, k3, ?_, k5, k6, ?_, k8⟩
      · intro cc hcc
        obtain ⟨d, hd1, rfl⟩ := List.mem_map.1 hcc
        rw [sws_length]; exact k4 d hd1
      · have e1 : rφ r φ = φ := by unfold rφ; rw [if_pos hb]
        have e2 : rφ { r with xs := r.xs.map (sws (isIn ks)) } (kφ ks φ) = kφ ks φ := by unfold rφ; rw [if_pos hb]
        rw [e1] at k7
        rw [e2]
        simp only [flatten_sws, List.length_map]
        exact repXs_sws kφ_le k7 (fun v hv => k6 v (List.mem_of_mem_drop (List.mem_of_mem_take hv)))
  · rw [if_neg hb]
    have e1 : rφ r φ = noφ := by unfold rφ; rw [if_neg hb]
    have e2 : rφ r (kφ ks φ) = noφ := by unfold rφ; rw [if_neg hb]
    rw [e1] at h; rw [e2]; exact h
/-- the rows behind a sweep -/
theorem sweep_row (ks : List Nat) (i : Nat) (hk : isIn ks i = false) : (hget st.hp i = none ∧ hget (st.sweep ks).hp i = none) ∨
    ∃ r r2, hget st.hp i = some r ∧ hget (st.sweep ks).hp i = some r2 ∧ (r.bx = false → r2 = r) ∧
      ∀ (Z : SzF) (Sf : Fl → Nat → Prop) (hd : Hd) (F : List Nat), RowRep Z w Sf (rφ r φ) r hd F → RowRep Z w Sf (rφ r2 (kφ ks φ)) r2 hd F := by
  cases ks with
  | nil =>
    cases hr : hget st.hp i with
    | none => exact .inl ⟨rfl, hr⟩
    | some r =>
      refine .inr ⟨r, r, rfl, hr, fun _ => rfl, fun Z Sf hd F hh => ?_⟩
      have : kφ [] φ = φ := by funext j; simp [kφ, isIn]
      rw [this]; exact hh
  | cons k ks =>
    have e : hget (st.sweep (k :: ks)).hp i = (hget st.hp i).map (swRow (isIn (k :: ks))) := by
      show hget (swHp _ _) i = _
      rw [hget_swHp, hk]; simp
    cases hr : hget st.hp i with
    | none => exact .inl ⟨rfl, by rw [e, hr]; rfl⟩
    | some r =>
      refine .inr ⟨r, _, rfl, by rw [e, hr]; rfl, fun hb => ?_, fun Z Sf hd F hh => hh.sw⟩
      unfold swRow; rw [if_neg (by simp [hb])]
theorem sweep_gone (ks : List Nat) (i : Nat) (hk : isIn ks i = true) : hget (st.sweep ks).hp i = none := by
  cases ks with
  | nil => simp [isIn] at hk
  | cons k ks => show hget (swHp _ _) i = _; rw [hget_swHp, hk]; simp
theorem sweep_ob (ks : List Nat) : (st.sweep ks).ob = st.ob := by cases ks <;> rfl
theorem sweep_nx (ks : List Nat) : (st.sweep ks).nx = st.nx ∧ (st.sweep ks).kp = st.kp := by cases ks <;> exact ⟨rfl, rfl⟩

/-! ### a store -/
theorem RelX.storeAt (hG : c.Good) (h : RelX c st a w φ fp) {id e j : Nat} {r : Row} {cs ys : List AV} {ks : List Nat} {hd : Hd} {g o' cap : Nat} {vs : List Value} {Fn : List Nat}
    (hr : hget st.hp id = some r) (hφ : φ id = some hd) (hl : hd.loc = some (g, o', cap)) (he : r.xs[e]? = some cs) (hj : j + ys.length ≤ cs.length) (hvl : vs.length = ys.length) (h1 : ∀ v ∈ vs, v.oneCell' = true)
    (hks : r.bx = true → ks = []) (hnk : isIn ks id = false) (hkk : ∀ k ∈ ks, st.kp ≤ k) (hys : RepXs c.T.Z w (c.Sf w φ) (rφ r φ) ys vs Fn) (hFn : Fn.Nodup) (hFk : ∀ b ∈ Fn, ∃ k ∈ ks, b ∈ fp k) :
    ∃ cur, w.heap[g]? = some (.cells cur r.E (0, 0)) ∧ o' + e * c.T.Z r.E + j + ys.length ≤ cur.size ∧
      ∃ fp', RelX c { (st.sweep ks) with hp := hset (st.sweep ks).hp id { r with xs := r.xs.set e (putAt cs j ys) } } a
        (w.setRow g (cur.toList.take (o' + e * c.T.Z r.E + j) ++ vs ++ cur.toList.drop (o' + e * c.T.Z r.E + j + vs.length)).toArray) (kφ ks φ) fp' := by
  obtain ⟨hd2, q1, q2⟩ := h.rows id r hr
  rw [hφ] at q1; cases q1
  have q2' := q2
  obtain ⟨hE, hn, q3⟩ := q2
  rw [hl] at q3
  obtain ⟨cur, F', k1, k2, k3, k4, k5, k6, k7, k8⟩ := q3
  obtain ⟨_, _, _, _, _, _, hcl, _, _, _⟩ := q2'.at_ hl he
  have hlt : e < r.xs.length := (List.getElem?_eq_some_iff.1 he).1
  have hle : (e + 1) * c.T.Z r.E ≤ r.xs.length * c.T.Z r.E := Nat.mul_le_mul_right _ hlt
  rw [Nat.add_mul, Nat.one_mul] at hle
  have hle2 : r.xs.length * c.T.Z r.E ≤ cap * c.T.Z r.E := Nat.mul_le_mul_right _ k2
  refine ⟨cur, k1, by omega, ?_⟩
  have hfl : r.xs.flatten.length = r.xs.length * c.T.Z r.E := flatten_len k4
  obtain ⟨F1, F2, F3, rfl, p1⟩ := k7.splice hys (q := e * c.T.Z r.E + j) (by omega)
  rw [← flat_set k4 he hj] at p1
  rw [← hvl] at p1
  rw [← cells_splice (by omega) (by simp; omega)] at p1
  rw [← Nat.add_assoc] at p1
  have hnf : (fp id).Nodup := h.nod id
  rw [k8] at hnf
  have hdj : ∀ b ∈ Fn, b ∉ fp id := by
    intro b hb hb2
    obtain ⟨k, p1, p2⟩ := hFk b hb
    have e := h.disj _ _ b hb2 p2
    subst e
    exact isIn_false.1 hnk p1
  have hsub : ∀ b, b ∈ F1 ++ (F2 ++ F3) → b ∈ fp id := fun b hb => by rw [k8]; exact List.mem_cons_of_mem _ hb
  have hgm : g ∈ fp id := by rw [k8]; simp
  refine ⟨fun i => if i = id then g :: (F1 ++ (Fn ++ F3)) else if isIn ks i then [] else fp i, ?_⟩
  obtain ⟨s1, s2⟩ := sweep_nx (st := st) ks
  have hkφ : kφ ks φ id = some hd := by simp [kφ, hnk, hφ]
  have hbr : r.bx = true → kφ ks φ = φ := fun hb => by rw [hks hb]; funext i; simp [kφ, isIn]
  have hgb : ∀ b, b < w.heap.size → b ≠ g → (w.setRow g (cur.toList.take (o' + e * c.T.Z r.E + j) ++ vs ++ cur.toList.drop (o' + e * c.T.Z r.E + j + vs.length)).toArray).heap[b]? = w.heap[b]? := fun b _ hb => setRow_other w g b _ hb
  have hSf : ∀ fl b, c.Sf w φ fl b → c.Sf (w.setRow g (cur.toList.take (o' + e * c.T.Z r.E + j) ++ vs ++ cur.toList.drop (o' + e * c.T.Z r.E + j + vs.length)).toArray) (kφ ks φ) fl b ∧
      (w.setRow g (cur.toList.take (o' + e * c.T.Z r.E + j) ++ vs ++ cur.toList.drop (o' + e * c.T.Z r.E + j + vs.length)).toArray).heap[b]? = w.heap[b]? := by
    intro fl b hb
    refine ⟨Cx.Sf_mono (by simp) (fun id' hd' b' h1' h2' => .inl ?_) hb, hgb b (h.slt hG hb) ?_⟩
    · unfold kφ at h1'
      split at h1'
      · cases h1'
      · exact ⟨id', hd', h1', h2'⟩
    · rintro rfl
      exact h.sfree hG hb id hd hφ (by simp [Hd.blk, hl])
  refine h.turn hG (isIn ks) id { r with xs := r.xs.set e (putAt cs j ys) } hd (g :: (F1 ++ (Fn ++ F3))) (by simp) rfl rfl rfl (fun b hb hne => hgb b hb (fun e => hne hd hφ (by simp [Hd.blk, hl, e]))) (fun b hb => .inl ⟨id, hd, hφ, hb⟩)
    (sweep_tm h ks) ⟨?_, hkφ, by simp⟩ (fun i hi hk => ⟨?_, by simp [kφ, hk], by simp [hi, hk]⟩) (fun i hi hk => ⟨by simp [kφ, hk], by simp [hi, hk], ?_⟩) (by rw [s1]; exact Nat.le_refl _) (by rw [s1]; exact Nat.lt_of_not_le fun hh => by rw [h.fresh id hh] at hr; cases hr)
    s2 (fun i hi => ⟨fun _ => ?_, fun e => by rw [e]; exact hφ⟩) ?_ ?_ ?_ (sweep_ob ks)
  · show hget (hset _ _ _) id = _
    rw [hget_hset, if_pos rfl]
    rcases sweep_row (st := st) (w := w) (φ := φ) ks id hnk with ⟨z1, _⟩ | ⟨r1, r2, z1, z2, _⟩
    · rw [hr] at z1; cases z1
    · rw [z2]; rfl
  · show hget (hset _ _ _) i = _
    rw [hget_hset, if_neg hi]; exact sweep_gone ks i hk
  · show (_ ∧ hget (hset _ _ _) i = _) ∨ ∃ r r2, _ ∧ hget (hset _ _ _) i = _ ∧ _
    rw [hget_hset, if_neg hi]
    rcases sweep_row (st := st) (w := w) (φ := φ) ks i hk with z | ⟨r1, r2, z1, z2, z3, z4⟩
    · exact .inl z
    · exact .inr ⟨r1, r2, z1, z2, fun hd hh => z4 _ _ _ _ hh⟩
  · cases hk : isIn ks i with
    | false => rfl
    | true => have := hkk i (isIn_iff.1 hk); omega
  · simp only [List.nodup_cons, List.nodup_append, List.mem_append] at hnf ⊢
    refine ⟨?_, hnf.2.1, ⟨hFn, hnf.2.2.1.2.1, ?_⟩, ?_⟩
    · rintro (hh | hh | hh)
      · exact hnf.1 (.inl hh)
      · exact hdj g hh hgm
      · exact hnf.1 (.inr (.inr hh))
    · rintro b hb b' hb' rfl; exact hdj b hb (hsub b (by simp [hb']))
    · rintro b hb b' (hb' | hb') rfl
      · exact hdj b hb' (hsub b (by simp [hb]))
      · exact hnf.2.2.2 b hb b (.inr hb') rfl
  · intro b hb
    have hsz : (w.setRow g (cur.toList.take (o' + e * c.T.Z r.E + j) ++ vs ++ cur.toList.drop (o' + e * c.T.Z r.E + j + vs.length)).toArray).heap.size = w.heap.size := by simp
    rw [hsz]
    have hin : ∃ i, (i = id ∨ isIn ks i = true) ∧ b ∈ fp i := by
      simp only [List.mem_cons, List.mem_append] at hb
      rcases hb with rfl | hb | hb | hb
      · exact ⟨id, .inl rfl, hgm⟩
      · exact ⟨id, .inl rfl, hsub b (by simp [hb])⟩
      · obtain ⟨k, p1, p2⟩ := hFk b hb; exact ⟨k, .inr (isIn_iff.2 p1), p2⟩
      · exact ⟨id, .inl rfl, hsub b (by simp [hb])⟩
    have hin2 := hin
    obtain ⟨i, _, hi⟩ := hin
    exact ⟨(h.rng i b hi).1, .inl hin2⟩
  · refine ⟨hE, by simpa using hn, ?_⟩
    rw [hl]
    refine ⟨_, F1 ++ (Fn ++ F3), setRow_heap w g cur _ r.E (0, 0) k1, by simpa using k2, k3, ?_, ?_, ?_, ?_, rfl⟩
    · intro cc hcc
      rcases List.mem_or_eq_of_mem_set hcc with hh | rfl
      · exact k4 cc hh
      · rw [putAt_length]; exact hcl
    · simp; omega
    · intro v hv
      simp only [List.mem_append] at hv
      rcases hv with (hv | hv) | hv
      · exact k6 v (List.mem_of_mem_take hv)
      · exact h1 v hv
      · exact k6 v (List.mem_of_mem_drop hv)
    · have e2 : rφ { r with xs := r.xs.set e (putAt cs j ys) } (kφ ks φ) = rφ r φ := by
        unfold rφ
        cases hb : r.bx with
        | true => simp [hbr hb]
        | false => simp
      rw [e2]
      simp only [List.length_set]
      refine p1.mono (fun _ _ h => h) hSf ?_
      intro b hb
      refine hgb b ?_ ?_
      · simp only [List.mem_append] at hb
        rcases hb with hb | hb | hb
        · exact (h.rng id b (hsub b (by simp [hb]))).1
        · obtain ⟨k, z1, z2⟩ := hFk b hb; exact (h.rng k b z2).1
        · exact (h.rng id b (hsub b (by simp [hb]))).1
      · rintro rfl
        simp only [List.mem_append] at hb
        simp only [List.nodup_cons, List.mem_append] at hnf
        rcases hb with hb | hb | hb
        · exact hnf.1 (.inl hb)
        · exact hdj _ hb hgm
        · exact hnf.1 (.inr (.inr hb))


theorem wp_store {t : TypeId} {x y : Operand} (ho : o.op = .store t x y) (hT : TOk c.P c.T) (hG : c.Good) (h : RelX c st a w φ fp) (hv : evStore c.T st t (evo st x) (evo st y) = some st')
    (hK : ∀ a' w', Rel c (st'.put o.dst .ud) a' w' → K a' w') : o.wp c.P a w K Q := by
  unfold evStore at hv
  have hx := h.ev x
  generalize hval : a.eval x = u at hx
  split at hv
  · rename_i i hi
    have hTi := hT t i hi
    split at hv
    · rename_i id e j hcs
      split at hv
      · rename_i r hr
        split at hv
        · rename_i cs hce
          split at hv
          · rename_i hle
            rw [hcs] at hx
            cases hx with
            | @pt _ _ _ _ n E g o' cap hφ =>
              have hE : E = r.E := by obtain ⟨hd, q1, q2, _⟩ := h.rows id r hr; rw [hφ] at q1; cases q1; exact q2
              subst hE
              have fin : ∀ {ks : List Nat} {ys : List AV} {Fn : List Nat}, (∀ v ∈ (a.eval y).cells.toList, v.oneCell' = true) → ys.length = i.size → (r.bx = true → ks = []) → isIn ks id = false → (∀ k ∈ ks, st.kp ≤ k) →
                  RepXs c.T.Z w (c.Sf w φ) (rφ r φ) ys (a.eval y).cells.toList Fn → Fn.Nodup → (∀ b ∈ Fn, ∃ k ∈ ks, b ∈ fp k) →
                  st' = { (st.sweep ks) with hp := hset (st.sweep ks).hp id { r with xs := r.xs.set e (putAt cs j ys) } } → o.wp c.P a w K Q := by
                intro ks ys Fn g1 g2 g3 g4 g5 g6 g7 g8 g9
                obtain ⟨cur, m1, m2, fp', m3⟩ := h.storeAt (j := j) hG hr hφ rfl hce (by omega) g6.length g1 g3 g4 g5 g6 g7 g8
                have hs : (a.eval y).cells.size = i.size := by have := g6.length; simp at this; omega
                have hst := run_storeT (p := o' + e * c.T.Z r.E + j) hTi m1 hs (by omega) g1
                have m4 := m3.put o.dst (x := .ud) .ud
                rw [← g9] at m4
                refine wp_skipv ?_ (hK _ _ ⟨_, _, m4⟩)
                simp only [execOp, ho, hval, Sem.run_bind, hst, Result.andThen_ok]
                rfl
              split at hv
              · rename_i hb
                split at hv
                · rename_i hlf
                  obtain ⟨k1, k2⟩ := (h.ev y).cells hlf
                  have e2 : rφ r φ = φ := by unfold rφ; rw [if_pos hb]
                  exact fin (ks := []) k2 hle.1 (fun _ => rfl) rfl (by simp) (by rw [e2]; exact k1) .nil (by simp) (Option.some.inj hv).symm
                · cases hv
              · rename_i hb
                split at hv
                · rename_i ys ks hcl
                  split at hv
                  · cases hv
                  · rename_i hdup
                    have hdup' : dup (id :: ks) = false := by simpa using hdup
                    have hnd := dup_iff.1 hdup'
                    have hlf : (evo st y).cells.all leafB = true := by
                      have key : ∀ (l : List AV) (m : List AV) (q : List Nat), close st l = some (m, q) → l.all leafB = true := by
                        intro l
                        induction l with
                        | nil => intro _ _ _; rfl
                        | cons z l ih =>
                          intro m q hh
                          unfold close at hh
                          split at hh
                          · rename_i y' p' m' q' e1 e2
                            simp only [List.all_cons, Bool.and_eq_true]
                            refine ⟨?_, ih _ _ e2⟩
                            cases z <;> first | rfl | (simp [close1] at e1)
                          · cases hh
                      exact key _ _ _ hcl
                    obtain ⟨k1, k2⟩ := (h.ev y).cells hlf
                    obtain ⟨Fn, i1, i2, i3, i4, i5⟩ := close_rep h k1 hcl (dup_iff.2 (List.nodup_cons.1 hnd).2)
                    have e2 : rφ r φ = noφ := by unfold rφ; rw [if_neg hb]
                    exact fin (ks := ks) k2 (by omega) (fun hb' => absurd hb' hb) (isIn_false.2 (List.nodup_cons.1 hnd).1) (fun k hk => (i4 k hk).1) (by rw [e2]; exact i1) i2 i3 (Option.some.inj hv).symm
                · cases hv
          · cases hv
        · cases hv
      · cases hv
    · cases hv
  · cases hv

end
end Go.Proofs.AM
