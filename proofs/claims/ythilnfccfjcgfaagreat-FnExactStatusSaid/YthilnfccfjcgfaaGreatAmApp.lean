/- A part of the proof: the walk of functions of the program, or the rules of the walk. -/
import Derived.Test.YthilnfccfjcgfaaGreatAmStore
set_option linter.unusedSimpArgs false
set_option linter.unusedVariables false
namespace Go.Proofs.AM
open Go

section
variable {c : Cx} {st st' : St} {a : Act} {w w' : World} {φ φ' : Nat → Option Hd} {fp : Nat → List Nat} {o : Oper} {K : Act → World → Prop} {Q : Exit → Act → World → Prop}

/-- a row of the call's own is laid (anew), others are gone -/
theorem RelX.relay (hG : c.Good) (h : RelX c st a w φ fp) (ks : List Nat) (id0 : Nat) (E : TypeId) (xs : List (List AV)) (loc : Option (Nat × Nat × Nat)) (F' : List Nat) (nx' : Nat)
    (hid : (isIn ks id0 = true ∧ nx' = st.nx ∧ φ id0 ≠ none) ∨ (id0 = st.nx ∧ nx' = st.nx + 1)) (hkk : ∀ k ∈ ks, st.kp ≤ k)
    (hsz : w.heap.size ≤ w'.heap.size) (hos : w'.os = w.os) (htp : w'.tape = w.tape) (hout : w'.output = w.output)
    (hoth : ∀ b, b < w.heap.size → (∀ hd, φ id0 = some hd → hd.blk ≠ some b) → w'.heap[b]? = w.heap[b]?)
    (hblk : ∀ b, loc.map (·.1) = some b → (∃ id hd, φ id = some hd ∧ hd.blk = some b) ∨ w.heap.size ≤ b)
    (hF1 : F'.Nodup) (hF2 : ∀ b ∈ F', b < w'.heap.size ∧ ((∃ k ∈ ks, b ∈ fp k) ∨ w.heap.size ≤ b))
    (hr : ∀ Sf : Fl → Nat → Prop, (∀ fl b, c.Sf w φ fl b → Sf fl b ∧ w'.heap[b]? = w.heap[b]?) → RowRep c.T.Z w' Sf noφ ⟨E, false, xs⟩ ⟨E, xs.length, loc⟩ F') :
    ∃ φ' fp', φ' id0 = some ⟨E, xs.length, loc⟩ ∧ RelX c { (st.sweep ks) with hp := (id0, ⟨E, false, xs⟩) :: (st.sweep ks).hp, nx := nx' } a w' φ' fp' := by
  obtain ⟨s1, s2⟩ := sweep_nx (st := st) ks
  have hkφ : ∀ id hd, kφ ks φ id = some hd → (fun i => if i = id0 then some ⟨E, xs.length, loc⟩ else kφ ks φ i) id = some hd := by
    intro id hd hh
    by_cases e : id = id0
    · subst e
      unfold kφ at hh
      rcases hid with ⟨h1, _⟩ | ⟨h1, _⟩
      · rw [if_pos h1] at hh; cases hh
      · split at hh
        · cases hh
        · rw [h1, (h.dead _ (h.fresh _ (Nat.le_refl _))).1] at hh; cases hh
    · simp [e, hh]
  have hSf : ∀ fl b, c.Sf w φ fl b → c.Sf w' (fun i => if i = id0 then some ⟨E, xs.length, loc⟩ else kφ ks φ i) fl b ∧ w'.heap[b]? = w.heap[b]? := by
    intro fl b hb
    refine ⟨Cx.Sf_mono hsz (fun id' hd' b' h1' h2' => ?_) hb, hoth b (h.slt hG hb) (fun hd hh => h.sfree hG hb id0 hd hh)⟩
    replace h1' : (if id' = id0 then some (⟨E, xs.length, loc⟩ : Hd) else kφ ks φ id') = some hd' := h1'
    split at h1'
    · cases h1'; exact hblk b' h2'
    · unfold kφ at h1'
      split at h1'
      · cases h1'
      · exact .inl ⟨id', hd', h1', h2'⟩
  have hlt : id0 < nx' := by
    rcases hid with ⟨h1, h2, h3⟩ | ⟨h1, h2⟩
    · rw [h2]; exact Nat.lt_of_not_le fun hh => h3 (h.dead _ (h.fresh _ hh)).1
    · omega
  refine ⟨fun i => if i = id0 then some ⟨E, xs.length, loc⟩ else kφ ks φ i, fun i => if i = id0 then F' else if isIn ks i then [] else fp i, by simp, ?_⟩
  refine h.turn hG (isIn ks) id0 ⟨E, false, xs⟩ ⟨E, xs.length, loc⟩ F' hsz hos htp hout hoth hblk ((sweep_tm h ks).mono hkφ (fun _ _ hb => ⟨hb, rfl⟩) (by simp)) ⟨by simp [hget], by simp, by simp⟩
    (fun i hi hk => ⟨?_, by simp [hi, kφ, hk], by simp [hi, hk]⟩) (fun i hi hk => ⟨by simp [hi, kφ, hk], by simp [hi, hk], ?_⟩) ?_ hlt s2 (fun i hi => ⟨fun _ => ?_, fun e => ?_⟩) hF1 ?_ ?_ (sweep_ob ks)
  · show hget ((id0, _) :: _) i = none
    rw [hget_cons, if_neg hi]; exact sweep_gone ks i hk
  · show (_ ∧ hget ((id0, _) :: _) i = _) ∨ ∃ r r2, _ ∧ hget ((id0, _) :: _) i = _ ∧ _
    rw [hget_cons, if_neg hi]
    rcases sweep_row (st := st) (w := w) (φ := φ) ks i hk with z | ⟨r1, r2, z1, z2, z3, z4⟩
    · exact .inl z
    · refine .inr ⟨r1, r2, z1, z2, fun hd hh => (z4 _ _ _ _ hh).mono ?_ (fun _ _ hb => ⟨hb, rfl⟩) (fun _ _ => rfl)⟩
      intro id' hd' hh'
      unfold rφ at hh' ⊢
      split
      · rename_i hb; rw [if_pos hb] at hh'; exact hkφ _ _ hh'
      · rename_i hb; rw [if_neg hb] at hh'; cases hh'
  · rcases hid with ⟨_, h2, _⟩ | ⟨_, h2⟩
    · show st.nx ≤ nx'; omega
    · show st.nx ≤ nx'; omega
  · cases hk : isIn ks i with
    | false => rfl
    | true => have := hkk i (isIn_iff.1 hk); omega
  · rcases hid with ⟨h1, _, _⟩ | ⟨h1, _⟩
    · have := hkk id0 (isIn_iff.1 h1); omega
    · have := h.kpn; omega
  · intro b hb
    refine ⟨(hF2 b hb).1, ?_⟩
    rcases (hF2 b hb).2 with ⟨k, h1, h2⟩ | h1
    · exact .inl ⟨k, .inr (isIn_iff.2 h1), h2⟩
    · exact .inr h1
  · have e2 : ∀ ψ : Nat → Option Hd, rφ (⟨E, false, xs⟩ : Row) ψ = noφ := fun ψ => rfl
    rw [e2]
    exact hr _ hSf

/-! ### append: what the machine does -/
section
variable {P : Program} {t ty e : TypeId} {inf : TypeInfo} {z : Value}
theorem run_app0 (ht : P.underlying t = some (.slice e)) (hi : P.info? e = some inf) (base xb : Option Addr) (n cap xc : Nat) (hn : n ≤ cap) :
    (Builtin.append_ #[t, t] ty #[.slice base n cap, .slice xb 0 xc]).run P w = .ok (.slice base n cap) w := by
  cases xb <;> cases base <;> simp [Builtin.append_, run_underlying ht, sizeOf, typeInfo, hi, Builtin.lenOf, hn, Builtin.firstCells, loadCells, loadCellsFrom, storeCells]

theorem run_app_room (ht : P.underlying t = some (.slice e)) (hi : P.info? e = some inf) (g o' n cap : Nat) (cur : Array Value) (E' : TypeId) (hg : w.heap[g]? = some (.cells cur E' (0, 0)))
    (ad : Addr) (m xc : Nat) (news : List Value) (hl : news.length = m * inf.size) (hnews : ∀ j u, news[j]? = some u → w.cell? (ad.add j) = some u) (h1 : ∀ u ∈ news, u.oneCell' = true)
    (hroom : n + m ≤ cap) (hfit : o' + n * inf.size + news.length ≤ cur.size) :
    (Builtin.append_ #[t, t] ty #[.slice (some ⟨g, o', none⟩) n cap, .slice (some ad) m xc]).run P w =
      .ok (.slice (some ⟨g, o', none⟩) (n + m) cap) (w.setRow g (cur.toList.take (o' + n * inf.size) ++ news ++ cur.toList.drop (o' + n * inf.size + news.length)).toArray) := by
  have hf := run_firstCells_some (P := P) w inf.size m ad m xc news hl hnews
  have hst := run_storeCells_at (P := P) g (o' + n * inf.size) E' news 0 cur w hg (by simpa using hfit) h1
  simp only [Nat.add_zero] at hst
  simp [Builtin.append_, run_underlying ht, sizeOf, typeInfo, hi, Builtin.lenOf, hroom, hf, Addr.add_mid, hst]

theorem growslice_ok {n m cap bytes : Nat} (h : cap < n + m) (hb : (n + m) * bytes ≤ 140737488355328) : Builtin.nextslicecap (n + m) cap * bytes ≤ 281474976710656 := growslice_fits h hb
end

/-- what append is given behind its row -/
structure Src (c : Cx) (w : World) (φ : Nat → Option Hd) (fp : Nat → List Nat) (E : TypeId) (ys : List (List AV)) (ks : List Nat) (v : Value) : Prop where
  ex : ∃ xb xc news Fn, v = .slice xb ys.length xc ∧ news.length = ys.length * c.T.Z E ∧ (ys.length ≠ 0 → ∃ ad, xb = some ad ∧ ∀ j u, news[j]? = some u → w.cell? (ad.add j) = some u) ∧
    (∀ u ∈ news, u.oneCell' = true) ∧ RepXs c.T.Z w (c.Sf w φ) noφ ys.flatten news Fn ∧ Fn.Nodup ∧ (∀ b ∈ Fn, ∃ k ∈ ks, b ∈ fp k)
  len : ∀ y ∈ ys, y.length = c.T.Z E

theorem setFls_length (fl : Fl) (l : List AV) : (setFls fl l).length = l.length := by
  induction l with
  | nil => rfl
  | cons x l ih => simp [setFls, ih]
theorem flatten_setFls (fl : Fl) (xs : List (List AV)) : (xs.map (setFls fl)).flatten = setFls fl xs.flatten := by
  have ap : ∀ a b : List AV, setFls fl (a ++ b) = setFls fl a ++ setFls fl b := by
    intro a b; induction a with
    | nil => rfl
    | cons x a ih => simp [setFls, ih]
  induction xs with
  | nil => rfl
  | cons x xs ih => simp [ih, ap]

theorem srcA_src (h : RelX c st a w φ fp) {E : TypeId} {x : AV} {v : Value} (hx : RepX c.T.Z w (c.Sf w φ) φ x v []) {ys : List (List AV)} {ks : List Nat} (hs : srcA st E x = some (ys, ks)) :
    Src c w φ fp E ys ks v ∧ (∀ k ∈ ks, st.kp ≤ k ∧ hget st.hp k ≠ none) := by
  have view : ∀ {fl : Fl} {xs : List (List AV)} {E' : TypeId}, RepW c.T.Z w (c.Sf w φ fl) (.ls fl E' xs) v → E' = E → Src c w φ fp E (xs.map (setFls fl)) [] v := by
    intro fl xs E' hv hE
    subst hE
    cases hv with
    | ls0 => exact ⟨⟨_, _, [], [], by simp; exact ⟨rfl, rfl⟩, by simp, by simp, by simp, by simpa using RepXs.nil, .nil, by simp⟩, by simp⟩
    | @ls _ _ _ _ g o' cap cur fz hS hb hc hm hz ho h1 hs =>
      have hl : ((cur.toList.drop o').take (xs.length * c.T.Z E')).length = xs.length * c.T.Z E' := by simp; omega
      have h1' : ∀ u ∈ (cur.toList.drop o').take (xs.length * c.T.Z E'), u.oneCell' = true := fun u hu => by first | exact h1 u hu | exact h1 u (sub_all hu)
      refine ⟨⟨some ⟨g, o', none⟩, cap, _, [], by simp, by simpa using hl, fun _ => ⟨_, rfl, fun j u hu => ?_⟩, h1', ?_, .nil, by simp⟩, ?_⟩
      · rw [Addr.add_mid, cell_of_row w g _ cur _ fz hb]
        rw [List.getElem?_take] at hu
        split at hu
        · rw [List.getElem?_drop] at hu; simpa using hu
        · cases hu
      · rw [flatten_setFls]
        exact repXs_ofW hs ⟨g, hS⟩ (fun _ h => h) h1'
      · intro y hy
        obtain ⟨d, hd, rfl⟩ := List.mem_map.1 hy
        rw [setFls_length]; exact hz d hd
  unfold srcA at hs
  generalize hF : ([] : List Nat) = F at hx
  cases hx with
  | nl => simp only at hs; obtain ⟨rfl, rfl⟩ := Prod.mk.inj (Option.some.inj hs); exact ⟨⟨⟨_, _, [], [], rfl, by simp, by simp, by simp, by simpa using RepXs.nil, .nil, by simp⟩, by simp⟩, by simp⟩
  | own0 =>
    simp only at hs
    split at hs
    · obtain ⟨rfl, rfl⟩ := Prod.mk.inj (Option.some.inj hs)
      exact ⟨⟨⟨_, _, [], [], by simp; exact ⟨rfl, rfl⟩, by simp, by simp, by simp, by simpa using RepXs.nil, .nil, by simp⟩, by simp⟩, by simp⟩
    · cases hs
  | own => cases hF
  | va hv =>
    simp only at hs
    split at hs
    · rename_i hE; obtain ⟨rfl, rfl⟩ := Prod.mk.inj (Option.some.inj hs); exact ⟨view hv hE, by simp⟩
    · cases hs
  | vn hv =>
    simp only at hs
    split at hs
    · rename_i hE; obtain ⟨rfl, rfl⟩ := Prod.mk.inj (Option.some.inj hs); exact ⟨view hv hE, by simp⟩
    · cases hs
  | @rf _ id off len hd v hφ hv =>
    simp only at hs
    obtain ⟨r, hr', hE, hn, g2⟩ := h.row hφ
    rw [hr'] at hs
    simp only at hs
    split at hs
    · cases hs
    · rename_i hbx
      split at hs
      · cases hs
      · rename_i hkp
        split at hs
        · rename_i hrE
          obtain ⟨rfl, rfl⟩ := Prod.mk.inj (Option.some.inj hs)
          refine ⟨?_, by simp; exact ⟨by omega, by rw [hr']; simp⟩⟩
          obtain ⟨E0, n0, loc⟩ := hd
          cases loc with
          | none =>
            simp only [RfVal] at hv
            obtain ⟨rfl, rfl, A, rfl⟩ := hv
            exact ⟨⟨_, _, [], [], by simp; exact ⟨rfl, rfl⟩, by simp, by simp, by simp, by simpa using RepXs.nil, .nil, by simp⟩, by simp⟩
          | some loc =>
            obtain ⟨g, o', cap⟩ := loc
            obtain ⟨cur, F', k1, k2, k3, k4, k5, k6, k7, k8⟩ := g2
            simp only [RfVal] at hv
            obtain ⟨hle, hv⟩ := hv
            simp only at hE hn
            have hlen : ((r.xs.drop off).take len).length = len := by simp; omega
            rw [show rφ r φ = noφ by unfold rφ; rw [if_neg hbx]] at k7
            obtain ⟨F1, F2, F3, rfl, k9⟩ := k7.take_drop (off * c.T.Z r.E) (len * c.T.Z r.E)
            have hnf : (fp id).Nodup := h.nod id
            rw [k8] at hnf
            have hsub : ∀ b ∈ F2, b ∈ fp id := fun b hb => by rw [k8]; simp [hb]
            rcases hv with ⟨hoc, rfl⟩ | ⟨h0, hoc, rfl, A, rfl⟩
            · have hm : off * c.T.Z r.E + len * c.T.Z r.E ≤ r.xs.length * c.T.Z r.E := by rw [← Nat.add_mul]; exact Nat.mul_le_mul_right _ (by omega)
              have hm2 : r.xs.length * c.T.Z r.E ≤ cap * c.T.Z r.E := Nat.mul_le_mul_right _ k2
              rw [List.drop_take, List.drop_drop, List.take_take, Nat.min_eq_left (by omega), ← flatten_sub k4] at k9
              subst hE
              subst hrE
              refine ⟨⟨_, _, _, F2, by rw [hlen], ?_, fun _ => ⟨_, rfl, fun j u hu => ?_⟩, fun u hu => k6 u (List.mem_of_mem_drop (List.mem_of_mem_take hu)), k9, ?_, fun b hb => ⟨id, by simp, hsub b hb⟩⟩, fun y hy => k4 y (List.mem_of_mem_drop (List.mem_of_mem_take hy))⟩
              · rw [hlen]; simp; omega
              · rw [Addr.add_mid, cell_of_row w g _ cur _ _ k1]
                rw [List.getElem?_take] at hu
                split at hu
                · rw [List.getElem?_drop] at hu; simpa using hu
                · cases hu
              · simp only [List.nodup_cons, List.nodup_append, List.mem_append] at hnf
                exact hnf.2.2.1.1
            · have e0 : (r.xs.drop off).take 0 = [] := by simp
              rw [e0]
              exact ⟨⟨_, _, [], [], by simp; exact ⟨rfl, rfl⟩, by simp, by simp, by simp, by simpa using RepXs.nil, .nil, by simp⟩, by simp⟩
        · cases hs
  | _ => simp at hs


/-- a row that append goes on with -/
structure Dst (c : Cx) (w : World) (φ : Nat → Option Hd) (fp : Nat → List Nat) (E : TypeId) (xs : List (List AV)) (id : Nat) (v : Value) : Prop where
  ex : (∃ A, v = .slice A 0 0 ∧ xs = []) ∨
    ∃ g o' cap cur F, v = .slice (some ⟨g, o', none⟩) xs.length cap ∧ w.heap[g]? = some (.cells cur E (0, 0)) ∧ xs.length ≤ cap ∧ cap ≤ maxLen ∧ (∀ x ∈ xs, x.length = c.T.Z E) ∧ o' + cap * c.T.Z E ≤ cur.size ∧
      (∀ u ∈ cur.toList, u.oneCell' = true) ∧ RepXs c.T.Z w (c.Sf w φ) noφ xs.flatten ((cur.toList.drop o').take (xs.length * c.T.Z E)) F ∧ (g :: F).Nodup ∧ (∀ b ∈ g :: F, b ∈ fp id) ∧ ∃ hd, φ id = some hd ∧ hd.blk = some g

theorem rf_dst (h : RelX c st a w φ fp) {id off len : Nat} {hd : Hd} {v : Value} (hφ : φ id = some hd) (hv : RfVal c.T.Z hd off len v) {r : Row} (hr : hget st.hp id = some r) (hb : ¬ r.bx = true) :
    Dst c w φ fp r.E ((r.xs.drop off).take len) id v ∧ ((r.xs.drop off).take len).length = len := by
  obtain ⟨r2, hr', hE, hn, g2⟩ := h.row hφ
  rw [hr] at hr'; cases hr'
  obtain ⟨E0, n0, loc⟩ := hd
  cases loc with
  | none =>
    simp only [RfVal] at hv
    obtain ⟨rfl, rfl, A, rfl⟩ := hv
    exact ⟨⟨.inl ⟨A, rfl, by simp⟩⟩, by simp⟩
  | some loc =>
    obtain ⟨g, o', cap⟩ := loc
    obtain ⟨cur, F', k1, k2, k3, k4, k5, k6, k7, k8⟩ := g2
    simp only [RfVal] at hv
    obtain ⟨hle, hv⟩ := hv
    simp only at hE hn
    have hlen : ((r.xs.drop off).take len).length = len := by simp; omega
    refine ⟨?_, hlen⟩
    rw [show rφ r φ = noφ by unfold rφ; rw [if_neg hb]] at k7
    obtain ⟨F1, F2, F3, rfl, k9⟩ := k7.take_drop (off * c.T.Z r.E) (len * c.T.Z r.E)
    have hnf : (fp id).Nodup := h.nod id
    rw [k8] at hnf
    rcases hv with ⟨hoc, rfl⟩ | ⟨h0, hoc, rfl, A, rfl⟩
    · have hm : off * c.T.Z r.E + len * c.T.Z r.E ≤ r.xs.length * c.T.Z r.E := by rw [← Nat.add_mul]; exact Nat.mul_le_mul_right _ (by omega)
      have hm2 : r.xs.length * c.T.Z r.E ≤ cap * c.T.Z r.E := Nat.mul_le_mul_right _ k2
      have hm3 : off * c.T.Z r.E + (cap - off) * c.T.Z r.E = cap * c.T.Z r.E := by rw [← Nat.add_mul]; congr 1; omega
      rw [List.drop_take, List.drop_drop, List.take_take, Nat.min_eq_left (by omega), ← flatten_sub k4] at k9
      subst hE
      refine ⟨.inr ⟨g, o' + off * c.T.Z r.E, cap - off, cur, F2, by rw [hlen], k1, by rw [hlen]; omega, by omega, fun y hy => k4 y (List.mem_of_mem_drop (List.mem_of_mem_take hy)), by omega, k6, by rw [hlen]; exact k9, ?_, ?_, ⟨_, hφ, rfl⟩⟩⟩
      · simp only [List.nodup_cons, List.nodup_append, List.mem_append] at hnf ⊢
        exact ⟨fun hh => hnf.1 (.inr (.inl hh)), hnf.2.2.1.1⟩
      · intro b hb
        rw [k8]
        simp only [List.mem_cons, List.mem_append] at hb ⊢
        rcases hb with rfl | hb
        · exact .inl rfl
        · exact .inr (.inr (.inl hb))
    · exact ⟨.inl ⟨A, rfl, by simp⟩⟩

theorem wp_appendD {t : TypeId} {s x : Operand} {E : TypeId} {ie : TI} {xs ys : List (List AV)} {ks0 ks : List Nat} {id0 nx' : Nat} (ho : ∃ ts, o.op = .call { callee := .builtin .append, args := #[s, x], argTypes := ts } ∧ ts = #[t, t]) (hT : TOk c.P c.T) (hG : c.Good) (h : RelX c st a w φ fp)
    (hti : c.P.underlying t = some (.slice E)) (hie : c.T.get E = some ie) (hd : Dst c w φ fp E xs id0 (a.eval s)) (hs : Src c w φ fp E ys ks0 (a.eval x))
    (hid : (isIn ks id0 = true ∧ nx' = st.nx ∧ φ id0 ≠ none ∧ ks = id0 :: ks0) ∨ (id0 = st.nx ∧ nx' = st.nx + 1 ∧ ks = ks0 ∧ xs = [])) (hnk : id0 ∉ ks0) (hkk : ∀ k ∈ ks, st.kp ≤ k)
    (hby : (xs.length + ys.length) * ie.bytes ≤ 140737488355328) (hml : xs.length + ys.length ≤ maxLen)
    (hK : ∀ a' w', Rel c ({ (st.sweep ks) with hp := (id0, ⟨E, false, xs ++ ys⟩) :: (st.sweep ks).hp, nx := nx' }.put o.dst (.rf id0 0 (xs ++ ys).length)) a' w' → K a' w') : o.wp c.P a w K Q := by
  obtain ⟨⟨inf, z, q1, q2, q3, q4, q5, q6⟩, hpos, _⟩ := hT E ie hie
  obtain ⟨ts, ho, rfl⟩ := ho
  have hZ : c.T.Z E = inf.size := by rw [hT.z hie, q3]
  have hzl : z.cells.size = inf.size := by have := (q5.rep c.T.Z w (c.Sf w φ) φ).length; simp at this; omega
  obtain ⟨⟨xb, xc, news, Fn, hxv, hnl, hrd, hn1, hnr, hnn, hnf⟩, hyl⟩ := hs
  have hsplit : ∀ {P1 : Prop}, ((isIn ks id0 = true ∧ nx' = st.nx ∧ φ id0 ≠ none) ∨ (id0 = st.nx ∧ nx' = st.nx + 1) → P1) → P1 := by
    intro P1 hP
    rcases hid with ⟨p1, p2, p3, _⟩ | ⟨p1, p2, _⟩
    · exact hP (.inl ⟨p1, p2, p3⟩)
    · exact hP (.inr ⟨p1, p2⟩)
  have hid' : (isIn ks id0 = true ∧ nx' = st.nx ∧ φ id0 ≠ none) ∨ (id0 = st.nx ∧ nx' = st.nx + 1) := hsplit id
  have hsub : ∀ k ∈ ks0, k ∈ ks := by
    intro k hk
    rcases hid with ⟨_, _, _, e⟩ | ⟨_, _, e, _⟩ <;> rw [e]
    · simp [hk]
    · exact hk
  have hFnk : ∀ b ∈ Fn, b < w.heap.size ∧ (∃ k ∈ ks, b ∈ fp k) := fun b hb => by
    obtain ⟨k, p1, p2⟩ := hnf b hb; exact ⟨(h.rng k b p2).1, k, hsub k p1, p2⟩
  -- the run gives a value and a world; the row is laid there
  have fin : ∀ {v : Value} {w' : World} {loc : Option (Nat × Nat × Nat)} {F' : List Nat}, (execOp a.eval o).run c.P w = .ok (.value v) w' → RfVal c.T.Z ⟨E, (xs ++ ys).length, loc⟩ 0 (xs ++ ys).length v →
      w.heap.size ≤ w'.heap.size → w'.os = w.os → w'.tape = w.tape → w'.output = w.output →
      (∀ b, b < w.heap.size → (∀ hd, φ id0 = some hd → hd.blk ≠ some b) → w'.heap[b]? = w.heap[b]?) →
      (∀ b, loc.map (·.1) = some b → (∃ id hd, φ id = some hd ∧ hd.blk = some b) ∨ w.heap.size ≤ b) → F'.Nodup → (∀ b ∈ F', b < w'.heap.size ∧ ((∃ k ∈ ks, b ∈ fp k) ∨ w.heap.size ≤ b)) →
      (∀ Sf : Fl → Nat → Prop, (∀ fl b, c.Sf w φ fl b → Sf fl b ∧ w'.heap[b]? = w.heap[b]?) → RowRep c.T.Z w' Sf noφ ⟨E, false, xs ++ ys⟩ ⟨E, (xs ++ ys).length, loc⟩ F') → o.wp c.P a w K Q := by
    intro v w' loc F' hrun hval g1 g2 g3 g4 g5 g6 g7 g8 g9
    obtain ⟨φ', fp', e1, e2⟩ := h.relay hG ks id0 E (xs ++ ys) loc F' nx' hid' hkk g1 g2 g3 g4 g5 g6 g7 g8 g9
    exact wp_value hrun (hK _ _ ⟨φ', fp', e2.put o.dst (.rf e1 hval)⟩)
  have hexec : ∀ {v w'}, (Builtin.append_ #[t, t] o.type #[a.eval s, a.eval x]).run c.P w = .ok v w' → (execOp a.eval o).run c.P w = .ok (.value v) w' := by
    intro v w' hh
    simp [execOp, ho, resolve, invoke, builtin, hh]
  have hFnd : ∀ b ∈ Fn, b ∉ fp id0 := by
    intro b hb hb2
    obtain ⟨k, p1, p2⟩ := hnf b hb
    have e := h.disj _ _ b hb2 p2
    subst e
    exact hnk p1
  have hin0 : ∀ b, xs ≠ [] ∨ isIn ks id0 = true → b ∈ fp id0 → ∃ k ∈ ks, b ∈ fp k := by
    intro b hx hb
    rcases hid with ⟨p1, _⟩ | ⟨p1, _, _, p4⟩
    · exact ⟨id0, isIn_iff.1 p1, hb⟩
    · rw [p1, (h.dead _ (h.fresh _ (Nat.le_refl _))).2] at hb; cases hb
  have hzc : ∀ n, ∀ u ∈ (Builtin.zeroCells z.cells n).toList, u.oneCell' = true := by
    intro n u hu
    simp only [Builtin.zeroCells, Array.toList_map, List.mem_map] at hu
    obtain ⟨i, _, rfl⟩ := hu
    have hlt : i % z.cells.size < z.cells.size := Nat.mod_lt _ (by omega)
    rw [getElem!_pos z.cells _ hlt]
    exact q5.one _ (by simp)
  have hgrow : ∀ {cap : Nat} {olds : List Value} {F : List Nat}, (Builtin.append_ #[t, t] o.type #[a.eval s, a.eval x]).run c.P w =
      .ok (.slice (some ⟨w.heap.size, 0, none⟩) (xs.length + ys.length) (grownCap w (xs.length + ys.length) cap E)) (w.drew.alloc (.cells (olds.toArray ++ news.toArray ++ Builtin.zeroCells z.cells (grownCap w (xs.length + ys.length) cap E - (xs.length + ys.length))) E)) →
      olds.length = xs.length * c.T.Z E → (∀ u ∈ olds, u.oneCell' = true) → (∀ x ∈ xs, x.length = c.T.Z E) → RepXs c.T.Z w (c.Sf w φ) noφ xs.flatten olds F → F.Nodup → (∀ b ∈ F, b ∈ fp id0 ∧ ∃ k ∈ ks, b ∈ fp k) → o.wp c.P a w K Q := by
    intro cap olds F hrun hol ho1 hxl hrep hFn1 hFk1
    have hge := grownCap_ge w (xs.length + ys.length) cap E
    have hcm : grownCap w (xs.length + ys.length) cap E ≤ maxLen := grownCap_le_maxLen w _ cap E hml
    have hFlt : ∀ b ∈ F, b < w.heap.size := fun b hb => (h.rng _ _ (hFk1 b hb).1).1
    refine fin (hexec hrun) (loc := some (w.heap.size, 0, grownCap w (xs.length + ys.length) cap E)) (F' := w.heap.size :: (F ++ Fn)) ?_ (by simp) rfl rfl rfl (fun b' hb' _ => ?_) (fun b' hb' => ?_) ?_ ?_ ?_
    · exact ⟨by simp, .inl ⟨.inl rfl, by simp⟩⟩
    · exact heap_alloc_old w.drew _ hb'
    · simp at hb'; exact .inr (by omega)
    · rw [List.nodup_cons, List.nodup_append]
      refine ⟨?_, hFn1, hnn, ?_⟩
      · intro hh
        rcases List.mem_append.1 hh with hh | hh
        · have := hFlt _ hh; omega
        · have := (hFnk _ hh).1; omega
      · rintro b' h1 b'' h2 rfl; exact hFnd _ h2 (hFk1 _ h1).1
    · intro b' hb'
      simp only [List.mem_cons, List.mem_append] at hb'
      simp only [World.size_alloc, World.size_drew]
      rcases hb' with rfl | hb' | hb'
      · exact ⟨by omega, .inr (Nat.le_refl _)⟩
      · exact ⟨by have := hFlt _ hb'; omega, .inl (hFk1 _ hb').2⟩
      · exact ⟨by have := (hFnk _ hb').1; omega, .inl (hFnk _ hb').2⟩
    · intro Sf hSf
      refine ⟨rfl, rfl, _, F ++ Fn, heap_alloc_new w.drew _, by simpa using hge, hcm, ?_, ?_, ?_, ?_, rfl⟩
      · intro y hy
        rcases List.mem_append.1 hy with hy | hy
        · exact hxl y hy
        · exact hyl y hy
      · simp only [Array.size_append, List.size_toArray, size_zeroCells, hzl, hol, hnl, hZ, Nat.zero_add, ← Nat.add_mul]
        exact Nat.mul_le_mul_right _ (by omega)
      · intro u hu
        simp only [Array.toList_append, List.mem_append] at hu
        rcases hu with (hu | hu) | hu
        · exact ho1 u (by simpa using hu)
        · exact hn1 u (by simpa using hu)
        · exact hzc _ u hu
      · have e1 : (xs ++ ys).length * c.T.Z E = (olds ++ news).length := by simp [hol, hnl, Nat.add_mul]
        have e2 : (((olds.toArray ++ news.toArray ++ Builtin.zeroCells z.cells (grownCap w (xs.length + ys.length) cap E - (xs.length + ys.length))).toList.drop 0).take ((xs ++ ys).length * c.T.Z E)) = olds ++ news := by
          rw [e1, List.drop_zero, Array.toList_append, Array.toList_append]
          exact List.take_left
        show RepXs _ _ _ _ (xs ++ ys).flatten _ _
        rw [e2, List.flatten_append]
        exact (hrep.append hnr).mono (fun _ _ h => h) hSf (fun b' hb' => by
          refine heap_alloc_old w.drew _ ?_
          rcases List.mem_append.1 hb' with hb' | hb'
          · exact hFlt _ hb'
          · exact (hFnk _ hb').1)
  obtain ⟨hd⟩ := hd
  rcases hd with ⟨A, hsv, rfl⟩ | ⟨g, o', cap, cur, F, hsv, k1, k2, k3, k4, k5, k6, k7, k8, k9, hdd, k10, k11⟩
  · by_cases hy0 : ys.length = 0
    · have hrun := run_app0 (P := c.P) (w := w) (ty := o.type) hti q1 A xb 0 0 xc (Nat.le_refl _)
      rw [hy0] at hxv
      rw [← hsv, ← hxv, hsv] at hrun
      rw [← hsv] at hrun
      refine fin (hexec hrun) (loc := none) (F' := []) ⟨rfl, by simpa using hy0, A, hsv⟩ (Nat.le_refl _) rfl rfl rfl (fun _ _ _ => rfl) (by simp) .nil (by simp) ?_
      intro Sf _
      exact ⟨rfl, rfl, by simpa using hy0, rfl⟩
    · obtain ⟨ad, hxb, hrd2⟩ := hrd hy0
      subst hxb
      have hol : ([] : List Value).length = ([] : List (List AV)).length * c.T.Z E := by simp
      refine hgrow (cap := 0) (olds := []) (F := []) ?_ hol (by simp) (by simp) (by simpa using RepXs.nil) .nil (by simp)
      cases A with
      | none =>
        have hrun := run_append_nil (P := c.P) w t o.type E inf z hti q1 q2 ad ys.length xc news (by rw [hnl, hZ]) hrd2 (by omega) (by unfold maxLen at hml; simp at hml; omega) (by rw [q4]; simp at hby; omega)
        rw [hsv, hxv, hrun]
        simp
      | some b =>
        have hrun := run_append_grow (P := c.P) w t o.type E inf z hti q1 q2 b 0 0 [] (by simp) (by simp) ad ys.length xc news (by rw [hnl, hZ]) hrd2 (by omega) (by unfold maxLen at hml; simp at hml; omega) (growslice_ok (by omega) (by rw [q4]; simpa using hby))
        rw [hsv, hxv, hrun]
        simp
  · have hks : ∀ b ∈ g :: F, b ∈ fp id0 ∧ ∃ k ∈ ks, b ∈ fp k := by
      intro b hb
      refine ⟨k9 b hb, hin0 b ?_ (k9 b hb)⟩
      rcases hid with ⟨p1, _⟩ | ⟨p1, _⟩
      · exact .inr p1
      · rw [p1, (h.dead _ (h.fresh _ (Nat.le_refl _))).1] at k10; cases k10
    have hcl : ((cur.toList.drop o').take (xs.length * c.T.Z E)).length = xs.length * c.T.Z E := by
      have := Nat.mul_le_mul_right (c.T.Z E) k2
      simp; omega
    have hrow : ∀ {w' : World} {cur' : Array Value} {G : List Nat}, w'.heap[g]? = some (.cells cur' E (0, 0)) → (∀ b, b < w.heap.size → b ≠ g → w'.heap[b]? = w.heap[b]?) → xs.length + ys.length ≤ cap → o' + cap * c.T.Z E ≤ cur'.size → (∀ u ∈ cur'.toList, u.oneCell' = true) →
        G = F ++ Fn → ((cur'.toList.drop o').take ((xs ++ ys).length * c.T.Z E)) = (cur.toList.drop o').take (xs.length * c.T.Z E) ++ news →
        ∀ Sf : Fl → Nat → Prop, (∀ fl b, c.Sf w φ fl b → Sf fl b ∧ w'.heap[b]? = w.heap[b]?) → RowRep c.T.Z w' Sf noφ ⟨E, false, xs ++ ys⟩ ⟨E, (xs ++ ys).length, some (g, o', cap)⟩ (g :: G) := by
      intro w' cur' G m1 m2 m3 m4 m5 hG2 m6 Sf hSf
      subst hG2
      refine ⟨rfl, rfl, cur', F ++ Fn, m1, by simpa using m3, k3, ?_, m4, m5, ?_, rfl⟩
      · intro y hy
        rcases List.mem_append.1 hy with hy | hy
        · exact k4 y hy
        · exact hyl y hy
      · show RepXs _ _ _ _ (xs ++ ys).flatten _ _
        rw [m6, List.flatten_append]
        refine (k7.append hnr).mono (fun _ _ h => h) hSf (fun b' hb' => m2 b' ?_ ?_)
        · rcases List.mem_append.1 hb' with hb' | hb'
          · exact (h.rng _ _ (k9 b' (by simp [hb']))).1
          · exact (hFnk _ hb').1
        · rintro rfl
          rcases List.mem_append.1 hb' with hb' | hb'
          · exact (List.nodup_cons.1 k8).1 hb'
          · exact hFnd _ hb' (k9 _ (by simp))
    have hnod : (g :: (F ++ Fn)).Nodup := by
      have e : g :: (F ++ Fn) = (g :: F) ++ Fn := rfl
      rw [e, List.nodup_append]
      refine ⟨k8, hnn, ?_⟩
      rintro b' h1 b'' h2 rfl; exact hFnd _ h2 (k9 _ h1)
    have hmem : ∀ b ∈ g :: (F ++ Fn), b < w.heap.size ∧ ((∃ k ∈ ks, b ∈ fp k) ∨ w.heap.size ≤ b) := by
      intro b hb
      have e : g :: (F ++ Fn) = (g :: F) ++ Fn := rfl
      rw [e] at hb
      rcases List.mem_append.1 hb with hb | hb
      · exact ⟨(h.rng _ _ (hks b hb).1).1, .inl (hks b hb).2⟩
      · exact ⟨(hFnk b hb).1, .inl (hFnk b hb).2⟩
    by_cases hroom : xs.length + ys.length ≤ cap
    · by_cases hy0 : ys.length = 0
      · have hrun := run_app0 (P := c.P) (w := w) (ty := o.type) hti q1 (some ⟨g, o', none⟩) xb xs.length cap xc k2
        rw [hy0] at hxv
        rw [← hxv, ← hsv] at hrun
        have hn0 : news = [] := List.eq_nil_of_length_eq_zero (by rw [hnl, hy0]; simp)
        refine fin (hexec hrun) (loc := some (g, o', cap)) (F' := g :: (F ++ Fn)) ⟨by simp, .inl ⟨.inl rfl, by simp [hy0]; exact hsv⟩⟩ (Nat.le_refl _) rfl rfl rfl (fun _ _ _ => rfl) (fun b hb => .inl ⟨id0, hdd, k10, by simp at hb; rw [k11, hb]⟩) hnod hmem ?_
        exact hrow k1 (fun _ _ _ => rfl) hroom k5 k6 rfl (by rw [List.length_append, hy0, hn0]; simp)
      · obtain ⟨ad, hxb, hrd2⟩ := hrd hy0
        subst hxb
        have hm := Nat.mul_le_mul_right (c.T.Z E) hroom
        rw [Nat.add_mul] at hm
        have hrun := run_app_room (P := c.P) (w := w) (ty := o.type) hti q1 g o' xs.length cap cur E k1 ad ys.length xc news (by rw [hnl, hZ]) hrd2 hn1 hroom (by rw [hnl, ← hZ]; omega)
        rw [← hxv, ← hsv, ← hZ] at hrun
        refine fin (hexec hrun) (loc := some (g, o', cap)) (F' := g :: (F ++ Fn)) ⟨by simp, .inl ⟨.inl rfl, by simp⟩⟩ (by simp) rfl rfl rfl (fun b hb hne => setRow_other w g b _ (fun e => hne hdd k10 (by rw [k11, e]))) (fun b hb => .inl ⟨id0, hdd, k10, by simp at hb; rw [k11, hb]⟩) hnod (fun b hb => by simpa using hmem b hb) ?_
        refine hrow (setRow_heap w g cur _ E (0, 0) k1) (fun b _ hb => setRow_other w g b _ hb) hroom ?_ ?_ rfl ?_
        · simp; omega
        · intro u hu
          simp only [List.mem_append] at hu
          rcases hu with (hu | hu) | hu
          · exact k6 u (List.mem_of_mem_take hu)
          · exact hn1 u hu
          · exact k6 u (List.mem_of_mem_drop hu)
        · have hlen : (xs ++ ys).length * c.T.Z E = xs.length * c.T.Z E + news.length := by rw [List.length_append, Nat.add_mul, hnl]
          rw [hlen]
          rw [cells_splice (by omega) (by simp; omega)]
          rw [List.take_take, Nat.min_eq_left (by omega), List.drop_take]
          simp
    · have hrun0 : ys.length ≠ 0 := by omega
      obtain ⟨ad, hxb, hrd2⟩ := hrd hrun0
      subst hxb
      have hord : ∀ j v, ((cur.toList.drop o').take (xs.length * c.T.Z E))[j]? = some v → w.cell? ((⟨g, o', none⟩ : Addr).add j) = some v := by
        intro j v hv
        rw [Addr.add_mid, cell_of_row w g _ cur _ _ k1]
        rw [List.getElem?_take] at hv
        split at hv
        · rw [List.getElem?_drop] at hv; simpa using hv
        · cases hv
      have hrun := run_append_grow (P := c.P) w t o.type E inf z hti q1 q2 ⟨g, o', none⟩ xs.length cap ((cur.toList.drop o').take (xs.length * c.T.Z E)) (by rw [hcl, hZ]) hord ad ys.length xc news (by rw [hnl, hZ]) hrd2 (by omega) (by unfold maxLen at hml; omega) (growslice_ok (by omega) (by rw [q4]; exact hby))
      rw [← hsv, ← hxv] at hrun
      exact hgrow hrun hcl (fun u hu => k6 u (List.mem_of_mem_drop (List.mem_of_mem_take hu))) k4 k7 (List.nodup_cons.1 k8).2 (fun b hb => hks b (by simp [hb]))

end
end Go.Proofs.AM
